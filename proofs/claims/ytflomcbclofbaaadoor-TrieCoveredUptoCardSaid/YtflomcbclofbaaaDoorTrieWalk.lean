/- TRIE: walk. -/
import Derived.Sort.MapsRangeIn
import Derived.Deep.DrawnRows
import Derived.Test.YtflomcbclofbaaaDoorTrieMatchT
namespace Go.Proofs.YtflomcbclofbaaaDoor
open Go Go.RowKit
attribute [local go_sem ↓] Go.wp_at_zero Go.wp_at_succ

def slashS : ByteArray := ⟨#[47]⟩
/-- each level, and a slash behind it -/
def pre (p : List ByteArray) : ByteArray := p.foldl (fun a l => a ++ l ++ slashS) ByteArray.empty
theorem pre_snoc (p : List ByteArray) (l : ByteArray) : pre (p ++ [l]) = pre p ++ l ++ slashS := by unfold pre; rw [List.foldl_append]; rfl
/-- nodes strictly under a path -/
def Und (p : List ByteArray) (y : Nd) : Prop := ∃ r, r ≠ [] ∧ y.path = p ++ r
structure WCx (base sz : Nat) (T : List Nd) (B bb : Nat) (W : World) (o : Option Nat) : Prop where
  is : TrieIs W base sz T
  low : ∀ b, foot T b → b < B
  box : B ≤ bb ∧ bb < W.heap.size
  own : ∀ g, o = some g → B ≤ g ∧ g < W.heap.size
theorem WCx.off {base sz : Nat} {T : List Nd} {B bb : Nat} {W : World} {o : Option Nat} (h : WCx base sz T B bb W o) {b : Nat} (hb : foot T b) : ¬ (b = bb ∨ o = some b) := by
  have h1 := h.low b hb
  rintro (e | e)
  · have := h.box.1; omega
  · have := (h.own b e).1; omega
theorem WCx.next {base sz : Nat} {T : List Nd} {B bb : Nat} {W W' : World} {o o' : Option Nat} (h : WCx base sz T B bb W o) (hf : Frame (fun b => b = bb ∨ o = some b) W W') (ho : o' = o ∨ ∃ g, o' = some g ∧ W.heap.size ≤ g) (hlt : ∀ g, o' = some g → g < W'.heap.size) : WCx base sz T B bb W' o' := by
  refine ⟨h.is.kept fun b hb => hf.block b (h.is.lt hb).2 (h.off hb), h.low, ⟨h.box.1, Nat.lt_of_lt_of_le h.box.2 hf.size⟩, fun g hg => ⟨?_, hlt g hg⟩⟩
  rcases ho with rfl | ⟨g', e, h1⟩
  · exact (h.own g hg).1
  · rw [e] at hg; injection hg with hg; have := h.box; omega
/-- what walk's closure keeps -/
structure Keeps (base sz : Nat) (T : List Nd) (B bb : Nat) (Inv : World → Option Nat → List Nd → Prop) : Prop where
  keep : ∀ W W' o V, Inv W o V → (∀ b, b = bb ∨ o = some b → W'.heap[b]? = W.heap[b]?) → Inv W' o V
  lt : ∀ W o V, Inv W o V → ∀ g, o = some g → g < W.heap.size
def Saw (bb : Nat) (Inv : World → Option Nat → List Nd → Prop) (o : Option Nat) (W : World) (V : List Nd) (r : Ending) (w' : World) : Prop :=
  r = .returned (.tuple #[]) ∧ ∃ o', Inv w' o' V ∧ Frame (fun b => b = bb ∨ o = some b) W w' ∧ (o' = o ∨ ∃ g, o' = some g ∧ W.heap.size ≤ g)
def WPost (T : List Nd) (bb : Nat) (Inv : World → Option Nat → List Nd → Prop) (o : Option Nat) (V : List Nd) (x : Nd) (W : World) (r : Ending) (w' : World) : Prop :=
  r = .returned (.tuple #[]) ∧ ∃ o' V', Inv w' o' (V ++ V') ∧ (V ++ V').Nodup ∧ (∀ y, y ∈ V' ↔ y ∈ T ∧ Und x.path y) ∧ Frame (fun b => b = bb ∨ o = some b) W w' ∧ (o' = o ∨ ∃ g, o' = some g ∧ W.heap.size ≤ g)
theorem own_lift {o o1 : Option Nat} {N bb b : Nat} (h : o1 = o ∨ ∃ g, o1 = some g ∧ N ≤ g) (hb : b = bb ∨ o1 = some b) : (b = bb ∨ o = some b) ∨ N ≤ b := by
  rcases hb with hb | hb
  · exact .inl (.inl hb)
  · rcases h with rfl | ⟨g, e, h⟩
    · exact .inl (.inr hb)
    · rw [e] at hb; injection hb with hb; exact .inr (hb ▸ h)
theorem own_chain {o o1 o2 : Option Nat} {N M : Nat} (h : o1 = o ∨ ∃ g, o1 = some g ∧ N ≤ g) (hNM : N ≤ M) (k : o2 = o1 ∨ ∃ g, o2 = some g ∧ M ≤ g) : o2 = o ∨ ∃ g, o2 = some g ∧ N ≤ g := by
  rcases k with rfl | ⟨g, e, k⟩
  · exact h
  · exact .inr ⟨g, e, Nat.le_trans hNM k⟩
theorem own_off {o o1 : Option Nat} {N r : Nat} (h : o1 = o ∨ ∃ g, o1 = some g ∧ N ≤ g) (hr : r < N) (ho : o ≠ some r) : o1 ≠ some r := by
  rcases h with rfl | ⟨g, e, h⟩
  · exact ho
  · rw [e]; intro e2; injection e2 with e2; omega
/-- the range's round -/
structure WLp (base sz : Nat) (T : List Nd) (B bb : Nat) (Inv : World → Option Nat → List Nd → Prop) (o : Option Nat) (V : List Nd) (x : Nd) (W0 wr : World) (r : Nat) (left : Lit → Bool) (cnt : Nat) (o1 : Option Nat) (V1 : List Nd) : Prop where
  rg : wr.ranges Tryd.prog 9 ptrR x.m r sz x.D left cnt
  inv : Inv wr o1 (V ++ V1)
  nd : (V ++ V1).Nodup
  mem : ∀ y, y ∈ V1 ↔ y ∈ T ∧ ∃ l rr, y.path = x.path ++ l :: rr ∧ left (.string l.data.toList) = false
  cx : WCx base sz T B bb wr o1
  fr : Frame (fun b => b = bb ∨ o = some b) W0 wr
  own : o1 = o ∨ ∃ g, o1 = some g ∧ W0.heap.size ≤ g
  off : o1 ≠ some r ∧ W0.heap.size ≤ r ∧ bb < W0.heap.size
theorem ranges_of {w w' : World} {b r n : Nat} {D : DataW Unit} {left : Lit → Bool} {cnt : Nat} (h : w.ranges Tryd.prog 9 ptrR b r n D left cnt) (hb : w'.heap[b]? = w.heap[b]?) (hr : w'.heap[r]? = w.heap[r]?) : w'.ranges Tryd.prog 9 ptrR b r n D left cnt := by
  obtain ⟨es, clock, since, seen, c0, h1, h2, h3, h4, h5, rest⟩ := h
  exact ⟨es, clock, since, seen, c0, hb.trans h1, h2, h3, h4, hr.trans h5, rest⟩

def SeeSpecF (base sz : Nat) (T : List Nd) (B bb : Nat) (Inv : World → Option Nat → List Nd → Prop) : Prop :=
  ∀ W o V y p l, y ∈ T → y.path = p ++ [l] → WCx base sz T B bb W o → Inv W o V → (V ++ [y]).Nodup → (∀ z ∈ V, z ∈ T) →
    Calls Tryd.prog 32 #[.string (pre p ++ l), .pointer (some ⟨y.a, 0, none⟩), .pointer (some ⟨bb, 0, none⟩)] W (Saw bb Inv o W (V ++ [y]))
def WSpecF (base sz : Nat) (T : List Nd) (B bb : Nat) (Inv : World → Option Nat → List Nd → Prop) (n : Nat) : Prop :=
  ∀ x ∈ T, (∀ y ∈ T, y.path.length ≤ x.path.length + n) → ∀ W o V, WCx base sz T B bb W o → Inv W o V → (∀ y ∈ V, ¬ Und x.path y) → V.Nodup → (∀ y ∈ V, y ∈ T) →
    Calls Tryd.prog 31 #[.pointer (some ⟨x.a, 0, none⟩), .string (pre x.path), .func (.func 32) #[] #[.pointer (some ⟨bb, 0, none⟩)]] W (WPost T bb Inv o V x W)
set_option maxRecDepth 100000 in
set_option maxHeartbeats 4000000 in
theorem walk_stepF (base sz : Nat) (T : List Nd) (B bb : Nat) (Inv : World → Option Nat → List Nd → Prop) (K : Keeps base sz T B bb Inv) (SEE : Hid (SeeSpecF base sz T B bb Inv)) (hpre : ∀ y ∈ T, (pre y.path).size ≤ 1000000) (n : Nat) (IH : Hid (∀ m, m < n → WSpecF base sz T B bb Inv m)) : WSpecF base sz T B bb Inv n := by
  intro x hx hdeep W o V hcx hinv hund hnd hVT
  obtain ⟨PP, hPP⟩ : ∃ PP, WPost T bb Inv o V x W = PP := ⟨_, rfl⟩
  rw [hPP]
  have HPP := Lib.hid hPP
  have hbx := (hcx.is.each x hx).box
  have c1 : W.cell? ⟨x.a, 1, none⟩ = some (.map (some x.m)) := by rw [cell_of_row W x.a 1 _ _ _ hbx]; rfl
  have hxl := (Array.getElem?_eq_some_iff.1 hbx).1
  have hown := (hcx.is.each x hx).map
  have HX := Lib.hid hx
  have HCX := Lib.hid hcx
  have HI := Lib.hid hinv
  have HU := Lib.hid hund
  have HV := Lib.hid hVT
  have HDP := Lib.hid hdeep
  have HPR := Lib.hid hpre
  clear hPP hx hcx hinv hund hVT hdeep hpre hbx
  go_enter Tryd.func31, Tryd.ntmps31
  go_wp2_with (first
    | (at_range; refine wpList_range_own _ rfl _ 52 rfl 9 38 string_keys Tryd.underlying52 _ x.m _ x.D rfl hown ?_; intro w0 hrg0 hg0 hs0)
    | go_in)
  go_frame
  have hst : WLp base sz T B bb Inv o V x W w0 W.heap.size (Maps.has x.D) (Maps.size x.D) o [] := by
    have hb := HCX.out.box
    have hin : ∀ b, b = bb ∨ o = some b → w0.heap[b]? = W.heap[b]? := fun b h => hg0.block b (by
      rcases h with rfl | h
      · exact hb.2
      · exact (HCX.out.own b h).2) (fun e => by cases e)
    refine ⟨hrg0, by rw [List.append_nil]; exact K.keep W w0 o V HI.out hin, by rw [List.append_nil]; exact hnd, fun y => Iff.intro (fun h => by cases h) (fun h => ?_), ?_, Frame.of_grown hg0 (fun b e => by cases e), .inl rfl, fun e => by have := (HCX.out.own _ e).2; omega, Nat.le_refl _, hb.2⟩
    · obtain ⟨h1, l, rr, h2, h3⟩ := h
      obtain ⟨v, hv, hvp⟩ := HCX.out.is.pre (q := x.path ++ [l]) rr.length rr rfl y h1 (by rw [h2]; simp)
      have hk := (HCX.out.is.kids x HX.out l v.a).2 ⟨v, hv, hvp, rfl⟩
      exfalso
      have := Maps.atKey_of_not_has h3 noD
      rw [kid_none this] at hk
      cases hk
    · exact HCX.out.next (Frame.of_grown (F := fun b => b = bb ∨ o = some b) hg0 (fun b e => by cases e)) (.inl rfl) (fun g hg => by rw [hs0]; have := (HCX.out.own g hg).2; omega)
  clear hown hrg0 hg0 hs0
  have HST := Lib.hid hst
  clear hst
  go_loopw [] (fun wr => ∃ (left : Lit → Bool) (cnt : Nat) (o1 : Option Nat) (V1 : List Nd), Hid (WLp base sz T B bb Inv o V x W wr W.heap.size left cnt o1 V1))
    (fun wr => wr.rangeLeft x.m W.heap.size)
  case atStart => exact ⟨_, _, _, _, HST.out⟩
  case round =>
    obtain ⟨left, cnt, o1, V1, HM⟩ := hrel
    have hrg := HM.out.rg
    go_wp2_with (first
      | (at_next; refine wpList_next_ranges _ rfl _ rfl 9 string_keys ptrR Value.string (fun b : Nat => Value.pointer (some ⟨b, 0, none⟩)) (fun key kl hkey => Maps.keyOf_string_inv Tryd.underlying9 hkey) (fun v y hv => by obtain ⟨b, h1, -⟩ := ptrR_inv hv; exact ⟨b, h1⟩) x.m W.heap.size _ _ _ _ rfl hrg ?_ ?_)
      | go_in)
    · intro _ hl0
      have HL0 := Lib.hid hl0
      clear hl0 hrg
      go_wp2_with fail
      refine bodyPost_ret (v := .tuple #[]) (by simp [results, Tryd.results31]) rfl ?_
      rw [← HPP.out]
      refine ⟨rfl, o1, V1, HM.out.inv, HM.out.nd, fun y => ?_, HM.out.fr, HM.out.own⟩
      rw [HM.out.mem]
      refine and_congr_right fun _ => Iff.intro (fun h => ?_) (fun h => ?_)
      · obtain ⟨l, rr, h1, -⟩ := h
        exact ⟨l :: rr, by simp, h1⟩
      · obtain ⟨r, h1, h2⟩ := h
        cases r with
        | nil => exact absurd rfl h1
        | cons l rr => exact ⟨l, rr, h2, HL0.out _⟩
    · intro l b kl d ps w1 cnt1 hkey hlx hR hat hrg1 hlt hg1 hs1 hen
      obtain rfl : kl = .string l.data.toList := by
        simp [keyOf, mapKey, Tryd.underlying9] at hkey
        exact hkey.2.symm
      obtain ⟨b', e1, e2⟩ := ptrR_inv hR
      injection e1 with e1
      injection e1 with e1
      injection e1 with e1
      injection e2 with e2 e3
      subst e1
      subst e2
      have hkid : kid x.D l = some b := kid_some (hat noD)
      obtain ⟨y, hy, hyp, rfl⟩ := (HCX.out.is.kids x HX.out l b).1 hkid
      have hfx : foot T x.m := ⟨x, HX.out, by simp [Nd.blocks]⟩
      have hrne : ∀ b, foot T b → b ≠ W.heap.size := fun b hb => by have := HCX.out.low b hb; have := HCX.out.box; omega
      have hcx1 : WCx base sz T B bb w1 o1 := ⟨HM.out.cx.is.kept fun b hb => hg1.block b (HM.out.cx.is.lt hb).2 (fun e => hrne b hb (by injection e)), HM.out.cx.low, ⟨HM.out.cx.box.1, by rw [hs1]; exact HM.out.cx.box.2⟩, fun g hg => by rw [hs1]; exact HM.out.cx.own g hg⟩
      have hoff := HM.out.off
      have hinv1 : Inv w1 o1 (V ++ V1) := K.keep wr w1 o1 _ HM.out.inv (fun b hb => hg1.block b (by
        rcases hb with rfl | hb
        · exact HM.out.cx.box.2
        · exact (HM.out.cx.own b hb).2) (fun e => by
        injection e with e
        rcases hb with rfl | hb
        · omega
        · exact hoff.1 (by rw [hb, e])))
      have hsep : ∀ z ∈ V1, ∀ rr, z.path ≠ x.path ++ l :: rr := fun z hz rr e => by
        obtain ⟨l', r', h1, h2⟩ := ((HM.out.mem z).1 hz).2
        rw [e] at h1
        have h3 := List.append_cancel_left h1
        injection h3 with h3 _
        rw [← h3, hlx] at h2
        cases h2
      have hyn : y ∉ V ++ V1 := fun h => by
        rcases List.mem_append.1 h with h | h
        · exact HU.out y h ⟨[l], by simp, hyp⟩
        · exact hsep y h [] hyp
      have hnd1 : ((V ++ V1) ++ [y]).Nodup := List.nodup_append.2 ⟨HM.out.nd, List.nodup_cons.2 ⟨List.not_mem_nil, List.nodup_nil⟩, fun a ha c hc e => by
        rw [List.mem_singleton] at hc
        subst hc; subst e
        exact hyn ha⟩
      have hVV : ∀ z ∈ V ++ V1, z ∈ T := fun z hz => by
        rcases List.mem_append.1 hz with h | h
        · exact HV.out z h
        · exact ((HM.out.mem z).1 h).1
      have CS := Lib.hid (SEE.out w1 o1 (V ++ V1) y x.path l hy hyp hcx1 hinv1 hnd1 hVV)
      have hn : 0 < n := by have := HDP.out y hy; rw [hyp, List.length_append] at this; simp at this; omega
      have hrl : W.heap.size < w1.heap.size := hrg1.lt
      have hsz1 : (pre x.path ++ l ++ slashS).size ≤ 1000000 := by have := HPR.out y hy; rwa [hyp, pre_snoc] at this
      have hq1 : ((pre x.path).size : Int) + (l.size : Int) ≤ 9223372036854775807 := by
        have h2 : (pre x.path ++ l ++ slashS).size = (pre x.path).size + l.size + 1 := by rw [ByteArray.size_append, ByteArray.size_append]; rfl
        omega
      have hq2 : ((pre x.path ++ l).size : Int) + ((ByteArray.mk #[47]).size : Int) ≤ 9223372036854775807 := by
        have h2 : (pre x.path ++ l ++ slashS).size = (pre x.path ++ l).size + 1 := by rw [ByteArray.size_append]; rfl
        have h3 : (ByteArray.mk #[47]).size = 1 := rfl
        omega
      have HCX1 := Lib.hid hcx1
      have HHK := Lib.hid hkid
      have HY := Lib.hid hy
      have HYP := Lib.hid hyp
      have HRG1 := Lib.hid hrg1
      have HG1 := Lib.hid hg1
      have HLX := Lib.hid hlx
      have HSEP := Lib.hid hsep
      have HVV := Lib.hid hVV
      have HND1 := Lib.hid hnd1
      have HLT := Lib.hid hlt
      have HOFF := Lib.hid hoff
      have HRG := Lib.hid hrg
      have HFX := Lib.hid hfx
      clear hcx1 hkid hy hyp hrg1 hg1 hlx hsep hVV hnd1 hlt hoff hinv1 hyn hat hR hrne hs1 hkey hrg hfx
      go_wp2_with fail
      refine CS.out.mono ?_
      rintro e w2 ⟨rfl, o2, hinv2, hfr2, ho2⟩
      have hcx2 := HCX1.out.next hfr2 ho2 (K.lt _ _ _ hinv2)
      have CW := Lib.hid (IH.out (n - 1) (by omega) y HY.out (fun z hz => by have := HDP.out z hz; rw [HYP.out, List.length_append]; simp; omega) w2 o2 ((V ++ V1) ++ [y]) hcx2 hinv2 (fun z hz hu => by
        obtain ⟨r, hr, hu⟩ := hu
        rw [HYP.out, List.append_assoc] at hu
        rcases List.mem_append.1 hz with hz | hz
        · rcases List.mem_append.1 hz with hz | hz
          · exact HU.out z hz ⟨[l] ++ r, by simp, hu⟩
          · exact HSEP.out z hz r hu
        · rw [List.mem_singleton] at hz
          subst hz
          rw [HYP.out] at hu
          have := List.append_cancel_left hu
          simp at this
          exact hr this) HND1.out (fun z hz => by
        rcases List.mem_append.1 hz with hz | hz
        · exact HVV.out z hz
        · rw [List.mem_singleton] at hz; rw [hz]; exact HY.out))
      rw [HYP.out, pre_snoc] at CW
      have HCX2 := Lib.hid hcx2
      have HFR2 := Lib.hid hfr2
      have HO2 := Lib.hid ho2
      clear hcx2 hfr2 ho2 hinv2
      go_wp2_with fail
      refine CW.out.mono ?_
      rintro e w3 ⟨rfl, o3, V3, hinv3, hnd3, hmem3, hfr3, ho3⟩
      have hcx3 := HCX2.out.next hfr3 ho3 (K.lt _ _ _ hinv3)
      have hoff := HOFF.out
      have hr2 : ¬ (W.heap.size = bb ∨ o1 = some W.heap.size) := by
        rintro (e | e)
        · omega
        · exact hoff.1 e
      have ho2r : o2 ≠ some W.heap.size := own_off HO2.out hrl hoff.1
      have hr3 : ¬ (W.heap.size = bb ∨ o2 = some W.heap.size) := by
        rintro (e | e)
        · omega
        · exact ho2r e
      have hs12 := HFR2.out.size
      have hs23 := hfr3.size
      have hs01 := HG1.out.size
      have hWr := HM.out.fr.size
      have hrg3 := ranges_of HRG1.out ((hfr3.block x.m (Nat.lt_of_lt_of_le HRG1.out.owns.lt hs12) (HCX2.out.off HFX.out)).trans (HFR2.out.block x.m HRG1.out.owns.lt (HCX1.out.off HFX.out))) ((hfr3.block W.heap.size (by omega) hr3).trans (HFR2.out.block W.heap.size hrl hr2))
      have hL : WLp base sz T B bb Inv o V x W w3 W.heap.size (fun z => left z && !z.sameKey (.string l.data.toList)) cnt1 o3 (V1 ++ [y] ++ V3) := by
        refine ⟨hrg3, by simpa [List.append_assoc] using hinv3, by simpa [List.append_assoc] using hnd3, fun z => ?_, hcx3, ?_, ?_, ?_⟩
        · show _ ↔ z ∈ T ∧ ∃ l' rr, z.path = x.path ++ l' :: rr ∧ (left (.string l'.data.toList) && !(Lit.string l'.data.toList).sameKey (.string l.data.toList)) = false
          rw [List.mem_append, List.mem_append, List.mem_singleton, HM.out.mem, hmem3]
          constructor
          · rintro ((⟨h1, l', rr, h2, h3⟩ | rfl) | ⟨h1, r, h2, h3⟩)
            · exact ⟨h1, l', rr, h2, by rw [h3]; rfl⟩
            · exact ⟨HY.out, l, [], HYP.out, by rw [WideAt.sameKey_self (show WideAt.IsKeyLit (.string l.data.toList) from trivial)]; simp⟩
            · exact ⟨h1, l, r, by rw [h3, HYP.out]; simp, by rw [WideAt.sameKey_self (show WideAt.IsKeyLit (.string l.data.toList) from trivial)]; simp⟩
          · rintro ⟨h1, l', rr, h2, h3⟩
            by_cases e : l' = l
            · subst e
              cases rr with
              | nil => exact .inl (.inr (HCX.out.is.one h1 HY.out (h2.trans HYP.out.symm)))
              | cons a rr => exact .inr ⟨h1, a :: rr, by simp, by rw [h2, HYP.out]; simp⟩
            · have hk : (Lit.string l'.data.toList).sameKey (.string l.data.toList) = false := by
                cases h : (Lit.string l'.data.toList).sameKey (.string l.data.toList)
                · rfl
                · have := WideAt.sameKey_eq h
                  injection this with h1
                  exact absurd (bytes_inj h1) e
              rw [hk] at h3
              exact .inl (.inl ⟨h1, l', rr, h2, by simpa using h3⟩)
        · refine HM.out.fr.trans (Frame.trans (Frame.of_grown HG1.out (fun b e => .inr (by injection e with e; omega))) (Frame.trans (HFR2.out.mono fun b hb => ?_) (hfr3.mono fun b hb => ?_)))
          · rcases own_lift HM.out.own hb with h | h
            · exact .inl (.inl h)
            · exact .inl (.inr h)
          · rcases own_lift (own_chain HM.out.own (by omega) HO2.out) hb with h | h
            · exact .inl (.inl (.inl h))
            · exact .inl (.inl (.inr h))
        · exact own_chain (own_chain HM.out.own (by omega) HO2.out) (by omega) ho3
        · exact ⟨own_off ho3 (by omega) ho2r, hoff.2⟩
      have HL := Lib.hid hL
      clear hL hrg3 hcx3 hinv3 hnd3 hmem3 hfr3 ho3 hr2 hr3 ho2r hoff hs12 hs23 hs01 hWr
      go_wp2_with fail
      go_roundw
      case rel => exact ⟨_, cnt1, o3, _, HL.out⟩
      case measure => rw [HL.out.rg.left_eq, HRG.out.left_eq]; exact HLT.out
theorem walk_anyF (base sz : Nat) (T : List Nd) (B bb : Nat) (Inv : World → Option Nat → List Nd → Prop) (K : Keeps base sz T B bb Inv) (SEE : SeeSpecF base sz T B bb Inv) (hpre : ∀ y ∈ T, (pre y.path).size ≤ 1000000) (n : Nat) : WSpecF base sz T B bb Inv n := by
  induction n using Nat.strongRecOn with
  | ind n ih => exact walk_stepF base sz T B bb Inv K (Lib.hid SEE) hpre n (Lib.hid ih)

def SeeSpecN (base sz : Nat) (T : List Nd) (B bb : Nat) (Inv : World → Option Nat → List Nd → Prop) : Prop :=
  ∀ W o V y p l, y ∈ T → y.path = p ++ [l] → WCx base sz T B bb W o → Inv W o V → (V ++ [y]).Nodup → (∀ z ∈ V, z ∈ T) →
    Calls Tryd.prog 35 #[.string (pre p ++ l), .pointer (some ⟨y.a, 0, none⟩), .pointer (some ⟨bb, 0, none⟩)] W (Saw bb Inv o W (V ++ [y]))
def WSpecN (base sz : Nat) (T : List Nd) (B bb : Nat) (Inv : World → Option Nat → List Nd → Prop) (n : Nat) : Prop :=
  ∀ x ∈ T, (∀ y ∈ T, y.path.length ≤ x.path.length + n) → ∀ W o V, WCx base sz T B bb W o → Inv W o V → (∀ y ∈ V, ¬ Und x.path y) → V.Nodup → (∀ y ∈ V, y ∈ T) →
    Calls Tryd.prog 31 #[.pointer (some ⟨x.a, 0, none⟩), .string (pre x.path), .func (.func 35) #[] #[.pointer (some ⟨bb, 0, none⟩)]] W (WPost T bb Inv o V x W)
set_option maxRecDepth 100000 in
set_option maxHeartbeats 4000000 in
theorem walk_stepN (base sz : Nat) (T : List Nd) (B bb : Nat) (Inv : World → Option Nat → List Nd → Prop) (K : Keeps base sz T B bb Inv) (SEE : Hid (SeeSpecN base sz T B bb Inv)) (hpre : ∀ y ∈ T, (pre y.path).size ≤ 1000000) (n : Nat) (IH : Hid (∀ m, m < n → WSpecN base sz T B bb Inv m)) : WSpecN base sz T B bb Inv n := by
  intro x hx hdeep W o V hcx hinv hund hnd hVT
  obtain ⟨PP, hPP⟩ : ∃ PP, WPost T bb Inv o V x W = PP := ⟨_, rfl⟩
  rw [hPP]
  have HPP := Lib.hid hPP
  have hbx := (hcx.is.each x hx).box
  have c1 : W.cell? ⟨x.a, 1, none⟩ = some (.map (some x.m)) := by rw [cell_of_row W x.a 1 _ _ _ hbx]; rfl
  have hxl := (Array.getElem?_eq_some_iff.1 hbx).1
  have hown := (hcx.is.each x hx).map
  have HX := Lib.hid hx
  have HCX := Lib.hid hcx
  have HI := Lib.hid hinv
  have HU := Lib.hid hund
  have HV := Lib.hid hVT
  have HDP := Lib.hid hdeep
  have HPR := Lib.hid hpre
  clear hPP hx hcx hinv hund hVT hdeep hpre hbx
  go_enter Tryd.func31, Tryd.ntmps31
  go_wp2_with (first
    | (at_range; refine wpList_range_own _ rfl _ 52 rfl 9 38 string_keys Tryd.underlying52 _ x.m _ x.D rfl hown ?_; intro w0 hrg0 hg0 hs0)
    | go_in)
  go_frame
  have hst : WLp base sz T B bb Inv o V x W w0 W.heap.size (Maps.has x.D) (Maps.size x.D) o [] := by
    have hb := HCX.out.box
    have hin : ∀ b, b = bb ∨ o = some b → w0.heap[b]? = W.heap[b]? := fun b h => hg0.block b (by
      rcases h with rfl | h
      · exact hb.2
      · exact (HCX.out.own b h).2) (fun e => by cases e)
    refine ⟨hrg0, by rw [List.append_nil]; exact K.keep W w0 o V HI.out hin, by rw [List.append_nil]; exact hnd, fun y => Iff.intro (fun h => by cases h) (fun h => ?_), ?_, Frame.of_grown hg0 (fun b e => by cases e), .inl rfl, fun e => by have := (HCX.out.own _ e).2; omega, Nat.le_refl _, hb.2⟩
    · obtain ⟨h1, l, rr, h2, h3⟩ := h
      obtain ⟨v, hv, hvp⟩ := HCX.out.is.pre (q := x.path ++ [l]) rr.length rr rfl y h1 (by rw [h2]; simp)
      have hk := (HCX.out.is.kids x HX.out l v.a).2 ⟨v, hv, hvp, rfl⟩
      exfalso
      have := Maps.atKey_of_not_has h3 noD
      rw [kid_none this] at hk
      cases hk
    · exact HCX.out.next (Frame.of_grown (F := fun b => b = bb ∨ o = some b) hg0 (fun b e => by cases e)) (.inl rfl) (fun g hg => by rw [hs0]; have := (HCX.out.own g hg).2; omega)
  clear hown hrg0 hg0 hs0
  have HST := Lib.hid hst
  clear hst
  go_loopw [] (fun wr => ∃ (left : Lit → Bool) (cnt : Nat) (o1 : Option Nat) (V1 : List Nd), Hid (WLp base sz T B bb Inv o V x W wr W.heap.size left cnt o1 V1))
    (fun wr => wr.rangeLeft x.m W.heap.size)
  case atStart => exact ⟨_, _, _, _, HST.out⟩
  case round =>
    obtain ⟨left, cnt, o1, V1, HM⟩ := hrel
    have hrg := HM.out.rg
    go_wp2_with (first
      | (at_next; refine wpList_next_ranges _ rfl _ rfl 9 string_keys ptrR Value.string (fun b : Nat => Value.pointer (some ⟨b, 0, none⟩)) (fun key kl hkey => Maps.keyOf_string_inv Tryd.underlying9 hkey) (fun v y hv => by obtain ⟨b, h1, -⟩ := ptrR_inv hv; exact ⟨b, h1⟩) x.m W.heap.size _ _ _ _ rfl hrg ?_ ?_)
      | go_in)
    · intro _ hl0
      have HL0 := Lib.hid hl0
      clear hl0 hrg
      go_wp2_with fail
      refine bodyPost_ret (v := .tuple #[]) (by simp [results, Tryd.results31]) rfl ?_
      rw [← HPP.out]
      refine ⟨rfl, o1, V1, HM.out.inv, HM.out.nd, fun y => ?_, HM.out.fr, HM.out.own⟩
      rw [HM.out.mem]
      refine and_congr_right fun _ => Iff.intro (fun h => ?_) (fun h => ?_)
      · obtain ⟨l, rr, h1, -⟩ := h
        exact ⟨l :: rr, by simp, h1⟩
      · obtain ⟨r, h1, h2⟩ := h
        cases r with
        | nil => exact absurd rfl h1
        | cons l rr => exact ⟨l, rr, h2, HL0.out _⟩
    · intro l b kl d ps w1 cnt1 hkey hlx hR hat hrg1 hlt hg1 hs1 hen
      obtain rfl : kl = .string l.data.toList := by
        simp [keyOf, mapKey, Tryd.underlying9] at hkey
        exact hkey.2.symm
      obtain ⟨b', e1, e2⟩ := ptrR_inv hR
      injection e1 with e1
      injection e1 with e1
      injection e1 with e1
      injection e2 with e2 e3
      subst e1
      subst e2
      have hkid : kid x.D l = some b := kid_some (hat noD)
      obtain ⟨y, hy, hyp, rfl⟩ := (HCX.out.is.kids x HX.out l b).1 hkid
      have hfx : foot T x.m := ⟨x, HX.out, by simp [Nd.blocks]⟩
      have hrne : ∀ b, foot T b → b ≠ W.heap.size := fun b hb => by have := HCX.out.low b hb; have := HCX.out.box; omega
      have hcx1 : WCx base sz T B bb w1 o1 := ⟨HM.out.cx.is.kept fun b hb => hg1.block b (HM.out.cx.is.lt hb).2 (fun e => hrne b hb (by injection e)), HM.out.cx.low, ⟨HM.out.cx.box.1, by rw [hs1]; exact HM.out.cx.box.2⟩, fun g hg => by rw [hs1]; exact HM.out.cx.own g hg⟩
      have hoff := HM.out.off
      have hinv1 : Inv w1 o1 (V ++ V1) := K.keep wr w1 o1 _ HM.out.inv (fun b hb => hg1.block b (by
        rcases hb with rfl | hb
        · exact HM.out.cx.box.2
        · exact (HM.out.cx.own b hb).2) (fun e => by
        injection e with e
        rcases hb with rfl | hb
        · omega
        · exact hoff.1 (by rw [hb, e])))
      have hsep : ∀ z ∈ V1, ∀ rr, z.path ≠ x.path ++ l :: rr := fun z hz rr e => by
        obtain ⟨l', r', h1, h2⟩ := ((HM.out.mem z).1 hz).2
        rw [e] at h1
        have h3 := List.append_cancel_left h1
        injection h3 with h3 _
        rw [← h3, hlx] at h2
        cases h2
      have hyn : y ∉ V ++ V1 := fun h => by
        rcases List.mem_append.1 h with h | h
        · exact HU.out y h ⟨[l], by simp, hyp⟩
        · exact hsep y h [] hyp
      have hnd1 : ((V ++ V1) ++ [y]).Nodup := List.nodup_append.2 ⟨HM.out.nd, List.nodup_cons.2 ⟨List.not_mem_nil, List.nodup_nil⟩, fun a ha c hc e => by
        rw [List.mem_singleton] at hc
        subst hc; subst e
        exact hyn ha⟩
      have hVV : ∀ z ∈ V ++ V1, z ∈ T := fun z hz => by
        rcases List.mem_append.1 hz with h | h
        · exact HV.out z h
        · exact ((HM.out.mem z).1 h).1
      have CS := Lib.hid (SEE.out w1 o1 (V ++ V1) y x.path l hy hyp hcx1 hinv1 hnd1 hVV)
      have hn : 0 < n := by have := HDP.out y hy; rw [hyp, List.length_append] at this; simp at this; omega
      have hrl : W.heap.size < w1.heap.size := hrg1.lt
      have hsz1 : (pre x.path ++ l ++ slashS).size ≤ 1000000 := by have := HPR.out y hy; rwa [hyp, pre_snoc] at this
      have hq1 : ((pre x.path).size : Int) + (l.size : Int) ≤ 9223372036854775807 := by
        have h2 : (pre x.path ++ l ++ slashS).size = (pre x.path).size + l.size + 1 := by rw [ByteArray.size_append, ByteArray.size_append]; rfl
        omega
      have hq2 : ((pre x.path ++ l).size : Int) + ((ByteArray.mk #[47]).size : Int) ≤ 9223372036854775807 := by
        have h2 : (pre x.path ++ l ++ slashS).size = (pre x.path ++ l).size + 1 := by rw [ByteArray.size_append]; rfl
        have h3 : (ByteArray.mk #[47]).size = 1 := rfl
        omega
      have HCX1 := Lib.hid hcx1
      have HHK := Lib.hid hkid
      have HY := Lib.hid hy
      have HYP := Lib.hid hyp
      have HRG1 := Lib.hid hrg1
      have HG1 := Lib.hid hg1
      have HLX := Lib.hid hlx
      have HSEP := Lib.hid hsep
      have HVV := Lib.hid hVV
      have HND1 := Lib.hid hnd1
      have HLT := Lib.hid hlt
      have HOFF := Lib.hid hoff
      have HRG := Lib.hid hrg
      have HFX := Lib.hid hfx
      clear hcx1 hkid hy hyp hrg1 hg1 hlx hsep hVV hnd1 hlt hoff hinv1 hyn hat hR hrne hs1 hkey hrg hfx
      go_wp2_with fail
      refine CS.out.mono ?_
      rintro e w2 ⟨rfl, o2, hinv2, hfr2, ho2⟩
      have hcx2 := HCX1.out.next hfr2 ho2 (K.lt _ _ _ hinv2)
      have CW := Lib.hid (IH.out (n - 1) (by omega) y HY.out (fun z hz => by have := HDP.out z hz; rw [HYP.out, List.length_append]; simp; omega) w2 o2 ((V ++ V1) ++ [y]) hcx2 hinv2 (fun z hz hu => by
        obtain ⟨r, hr, hu⟩ := hu
        rw [HYP.out, List.append_assoc] at hu
        rcases List.mem_append.1 hz with hz | hz
        · rcases List.mem_append.1 hz with hz | hz
          · exact HU.out z hz ⟨[l] ++ r, by simp, hu⟩
          · exact HSEP.out z hz r hu
        · rw [List.mem_singleton] at hz
          subst hz
          rw [HYP.out] at hu
          have := List.append_cancel_left hu
          simp at this
          exact hr this) HND1.out (fun z hz => by
        rcases List.mem_append.1 hz with hz | hz
        · exact HVV.out z hz
        · rw [List.mem_singleton] at hz; rw [hz]; exact HY.out))
      rw [HYP.out, pre_snoc] at CW
      have HCX2 := Lib.hid hcx2
      have HFR2 := Lib.hid hfr2
      have HO2 := Lib.hid ho2
      clear hcx2 hfr2 ho2 hinv2
      go_wp2_with fail
      refine CW.out.mono ?_
      rintro e w3 ⟨rfl, o3, V3, hinv3, hnd3, hmem3, hfr3, ho3⟩
      have hcx3 := HCX2.out.next hfr3 ho3 (K.lt _ _ _ hinv3)
      have hoff := HOFF.out
      have hr2 : ¬ (W.heap.size = bb ∨ o1 = some W.heap.size) := by
        rintro (e | e)
        · omega
        · exact hoff.1 e
      have ho2r : o2 ≠ some W.heap.size := own_off HO2.out hrl hoff.1
      have hr3 : ¬ (W.heap.size = bb ∨ o2 = some W.heap.size) := by
        rintro (e | e)
        · omega
        · exact ho2r e
      have hs12 := HFR2.out.size
      have hs23 := hfr3.size
      have hs01 := HG1.out.size
      have hWr := HM.out.fr.size
      have hrg3 := ranges_of HRG1.out ((hfr3.block x.m (Nat.lt_of_lt_of_le HRG1.out.owns.lt hs12) (HCX2.out.off HFX.out)).trans (HFR2.out.block x.m HRG1.out.owns.lt (HCX1.out.off HFX.out))) ((hfr3.block W.heap.size (by omega) hr3).trans (HFR2.out.block W.heap.size hrl hr2))
      have hL : WLp base sz T B bb Inv o V x W w3 W.heap.size (fun z => left z && !z.sameKey (.string l.data.toList)) cnt1 o3 (V1 ++ [y] ++ V3) := by
        refine ⟨hrg3, by simpa [List.append_assoc] using hinv3, by simpa [List.append_assoc] using hnd3, fun z => ?_, hcx3, ?_, ?_, ?_⟩
        · show _ ↔ z ∈ T ∧ ∃ l' rr, z.path = x.path ++ l' :: rr ∧ (left (.string l'.data.toList) && !(Lit.string l'.data.toList).sameKey (.string l.data.toList)) = false
          rw [List.mem_append, List.mem_append, List.mem_singleton, HM.out.mem, hmem3]
          constructor
          · rintro ((⟨h1, l', rr, h2, h3⟩ | rfl) | ⟨h1, r, h2, h3⟩)
            · exact ⟨h1, l', rr, h2, by rw [h3]; rfl⟩
            · exact ⟨HY.out, l, [], HYP.out, by rw [WideAt.sameKey_self (show WideAt.IsKeyLit (.string l.data.toList) from trivial)]; simp⟩
            · exact ⟨h1, l, r, by rw [h3, HYP.out]; simp, by rw [WideAt.sameKey_self (show WideAt.IsKeyLit (.string l.data.toList) from trivial)]; simp⟩
          · rintro ⟨h1, l', rr, h2, h3⟩
            by_cases e : l' = l
            · subst e
              cases rr with
              | nil => exact .inl (.inr (HCX.out.is.one h1 HY.out (h2.trans HYP.out.symm)))
              | cons a rr => exact .inr ⟨h1, a :: rr, by simp, by rw [h2, HYP.out]; simp⟩
            · have hk : (Lit.string l'.data.toList).sameKey (.string l.data.toList) = false := by
                cases h : (Lit.string l'.data.toList).sameKey (.string l.data.toList)
                · rfl
                · have := WideAt.sameKey_eq h
                  injection this with h1
                  exact absurd (bytes_inj h1) e
              rw [hk] at h3
              exact .inl (.inl ⟨h1, l', rr, h2, by simpa using h3⟩)
        · refine HM.out.fr.trans (Frame.trans (Frame.of_grown HG1.out (fun b e => .inr (by injection e with e; omega))) (Frame.trans (HFR2.out.mono fun b hb => ?_) (hfr3.mono fun b hb => ?_)))
          · rcases own_lift HM.out.own hb with h | h
            · exact .inl (.inl h)
            · exact .inl (.inr h)
          · rcases own_lift (own_chain HM.out.own (by omega) HO2.out) hb with h | h
            · exact .inl (.inl (.inl h))
            · exact .inl (.inl (.inr h))
        · exact own_chain (own_chain HM.out.own (by omega) HO2.out) (by omega) ho3
        · exact ⟨own_off ho3 (by omega) ho2r, hoff.2⟩
      have HL := Lib.hid hL
      clear hL hrg3 hcx3 hinv3 hnd3 hmem3 hfr3 ho3 hr2 hr3 ho2r hoff hs12 hs23 hs01 hWr
      go_wp2_with fail
      go_roundw
      case rel => exact ⟨_, cnt1, o3, _, HL.out⟩
      case measure => rw [HL.out.rg.left_eq, HRG.out.left_eq]; exact HLT.out
theorem walk_anyN (base sz : Nat) (T : List Nd) (B bb : Nat) (Inv : World → Option Nat → List Nd → Prop) (K : Keeps base sz T B bb Inv) (SEE : SeeSpecN base sz T B bb Inv) (hpre : ∀ y ∈ T, (pre y.path).size ≤ 1000000) (n : Nat) : WSpecN base sz T B bb Inv n := by
  induction n using Nat.strongRecOn with
  | ind n ih => exact walk_stepN base sz T B bb Inv K (Lib.hid SEE) hpre n (Lib.hid ih)
end Go.Proofs.YtflomcbclofbaaaDoor
