/- SHARE: Hub.Kept. -/
import Derived.BigRegion
import Derived.Maps.RangeWalk
import Derived.Test.YtincmegllckcjaaGreatDoorMReadFlat
namespace Go.Proofs.YtincmegllckcjaaGreatDoor
open Go Go.RowKit
attribute [local go_sem ↓] Go.wp_at_zero Go.wp_at_succ

/-- the filter under which what is kept is asked for -/
noncomputable def keptF (s : ByteArray) : Option ByteArray := match splitK s with
  | some x => if x.1.size = 0 then some x.2 else none
  | none => none
/-- what Kept answers -/
structure KeptA (L : List AM) (s : ByteArray) (out : List AM) : Prop where
  rise : out.Pairwise (fun x y => x.tp.data.toList < y.tp.data.toList)
  mem : ∀ x, x ∈ out ↔ x ∈ L ∧ ∃ f, keptF s = some f ∧ matchB f x.tp = true
/-- a message whose body lies in blocks of which P holds, not frozen -/
def MgIn (P : Nat → Prop) (w : World) (m : Mg) : Prop := DvIn P w m.f m.body m.t ∧ FreeIn P w m.q
theorem MgIn.kept {P Q : Nat → Prop} {w w' : World} {m : Mg} (h : MgIn P w m) (hk : ∀ b, P b → b < w.heap.size → w'.heap[b]? = w.heap[b]? ∧ Q b) : MgIn Q w' m := ⟨h.1.kept hk, h.2.kept hk⟩
def KeptPost2 (w : World) (ms : List Mg) (s : ByteArray) (e : Ending) (w' : World) : Prop := ∃ (v : Value) (out : List Mg), e = .returned v ∧ MRow w' w.heap.size v out ∧ KeptA (ms.map Mg.am) s (out.map Mg.am) ∧ (∀ m ∈ out, MgIn (RowP w.heap.size w' v) w' m ∧ DvSm m.f m.t) ∧ Below w.heap.size w w'
def KeptPost (w : World) (ms : List Mg) (s : ByteArray) (e : Ending) (w' : World) : Prop := ∃ (v : Value) (out : List Mg), e = .returned v ∧ MRow w' w.heap.size v out ∧ KeptA (ms.map Mg.am) s (out.map Mg.am) ∧ (∀ m ∈ out, DvIn (RowP w.heap.size w' v) w' m.f m.body m.t ∧ DvSm m.f m.t) ∧ Below w.heap.size w w'
structure KtRg (A1 wr : World) (km kn : Nat) (KD : DataW Value) (ms : List Mg) (f : ByteArray) (r : Nat) (left : Lit → Bool) (cnt : Nat) (v : Value) (out : List Mg) : Prop where
  rg : wr.ranges Tryz.prog 9 heldR km r kn KD left cnt
  row : MRow wr (r + 1) v out
  parts : ∀ m ∈ out, MgIn (RowP (r + 1) wr v) wr m ∧ DvSm m.f m.t
  am : ∀ x : AM, x ∈ out.map Mg.am ↔ x ∈ ms.map Mg.am ∧ matchB f x.tp = true ∧ left (.string x.tp.data.toList) = false
  nd : (out.map (·.tp)).Nodup
  bel : Below A1.heap.size A1 wr
  low : A1.heap.size ≤ r
theorem ranges_ofV {w w' : World} {b r n : Nat} {D : DataW Value} {left : Lit → Bool} {cnt : Nat} (h : w.ranges Tryz.prog 9 heldR b r n D left cnt) (hb : w'.heap[b]? = w.heap[b]?) (hr : w'.heap[r]? = w.heap[r]?) : w'.ranges Tryz.prog 9 heldR b r n D left cnt := by
  obtain ⟨es, clock, since, seen, c0, h1, h2, h3, h4, h5, rest⟩ := h
  exact ⟨es, clock, since, seen, c0, hb.trans h1, h2, h3, h4, hr.trans h5, rest⟩
section
variable {A1 wr w1 w2 : World} {km kn r cnt cnt1 : Nat} {KD : DataW Value} {ms out : List Mg} {f : ByteArray} {left left' : Lit → Bool} {v : Value}
theorem KtRg.move (h : KtRg A1 wr km kn KD ms f r left cnt v out) (hrg1 : w1.ranges Tryz.prog 9 heldR km r kn KD left' cnt1) (hg1 : wr.grownBy w1 (some r)) (hb : Below w1.heap.size w1 w2) :
    w2.ranges Tryz.prog 9 heldR km r kn KD left' cnt1 ∧ MRow w2 (r + 1) v out ∧ (∀ m ∈ out, MgIn (RowP (r + 1) w2 v) w2 m ∧ DvSm m.f m.t) ∧ Below A1.heap.size A1 w2 := by
  have hl := h.row.lt
  have hkm := hrg1.owns.lt
  have hr := hrg1.lt
  have hrow1 : MRow w1 (r + 1) v out := row_of_heap h.row fun b e => hg1.block b (hl b e).2 (fun e2 => by injection e2 with e2; have := (hl b e).1; omega)
  refine ⟨ranges_ofV hrg1 (hb.block km hkm) (hb.block r hr), row_of_heap hrow1 fun b e => hb.block b (hrow1.lt b e).2, fun m hm => ⟨(h.parts m hm).1.kept fun b hb2 hlt => ⟨(hb.block b (Nat.lt_of_lt_of_le hlt hg1.size)).trans (hg1.block b hlt (fun e => by injection e with e; have := hb2.1; omega)), hb2.1, Nat.lt_of_lt_of_le (Nat.lt_of_lt_of_le hb2.2.1 hg1.size) hb.size, hb2.2.2⟩, (h.parts m hm).2⟩, ?_⟩
  exact (h.bel.grown hg1 h.bel.size (fun k hk => by injection hk with hk; have := h.low; omega)).trans (hb.mono (Nat.le_trans h.bel.size hg1.size))
theorem left_key (left : Lit → Bool) (x y : ByteArray) : (left (.string x.data.toList) && !(Lit.string x.data.toList).sameKey (.string y.data.toList)) = false ↔ left (.string x.data.toList) = false ∨ x = y := by
  by_cases e : x = y
  · subst e
    rw [WideAt.sameKey_self (show WideAt.IsKeyLit (.string x.data.toList) from trivial)]
    simp
  · have hk : (Lit.string x.data.toList).sameKey (.string y.data.toList) = false := by
      cases hh : (Lit.string x.data.toList).sameKey (.string y.data.toList)
      · rfl
      · have := WideAt.sameKey_eq hh
        injection this with h1
        exact absurd (bytes_inj h1) e
    rw [hk]
    simp [e]
theorem KtRg.skip (h : KtRg A1 wr km kn KD ms f r left cnt v out) {s : ByteArray} (hrg1 : w1.ranges Tryz.prog 9 heldR km r kn KD (fun z => left z && !z.sameKey (.string s.data.toList)) cnt1) (hg1 : wr.grownBy w1 (some r)) (hb : Below w1.heap.size w1 w2) (hm : matchB f s = false) :
    KtRg A1 w2 km kn KD ms f r (fun z => left z && !z.sameKey (.string s.data.toList)) cnt1 v out := by
  obtain ⟨h1, h2, h3, h4⟩ := h.move hrg1 hg1 hb
  refine ⟨h1, h2, h3, fun x => ?_, h.nd, h4, h.low⟩
  show _ ↔ _ ∧ _ ∧ (left (.string x.tp.data.toList) && !(Lit.string x.tp.data.toList).sameKey (.string s.data.toList)) = false
  rw [h.am, left_key]
  constructor
  · rintro ⟨a, b, c⟩; exact ⟨a, b, .inl c⟩
  · rintro ⟨a, b, c | c⟩
    · exact ⟨a, b, c⟩
    · rw [c, hm] at b; cases b
theorem KtRg.add {W4 w6 : World} {km kn r cnt1 : Nat} {KD : DataW Value} {v v2 : Value} {m m' : Mg} (h : KtRg A1 wr km kn KD ms f r left cnt v out) (hrg : W4.ranges Tryz.prog 9 heldR km r kn KD (fun z => left z && !z.sameKey (.string m.tp.data.toList)) cnt1) (hrow : MRow W4 (r + 1) v out) (hparts : ∀ m ∈ out, MgIn (RowP (r + 1) W4 v) W4 m ∧ DvSm m.f m.t) (hbel : Below A1.heap.size A1 W4)
    (hkm : km < A1.heap.size) (hkeys : (ms.map (·.tp)).Nodup) (hm : m ∈ ms) (hmt : matchB f m.tp = true) (hlx : left (.string m.tp.data.toList) = true) (ham : m'.am = m.am) (hd : MgIn (Fresh w2 W4) W4 m') (hsm : DvSm m'.f m'.t) (hw2 : wr.heap.size ≤ w2.heap.size) (o : Obj) (hg : (W4.alloc o).grownBy w6 v.ownBlock) (hloc : v2.ownBlock = v.ownBlock ∨ v2.ownBlock = some (W4.alloc o).heap.size)
    (hown : w6.ownsRow (r + 1) 36 13 v2 (out.length + 1) (rowM out ++ m'.cells)) : KtRg A1 w6 km kn KD ms f r (fun z => left z && !z.sameKey (.string m.tp.data.toList)) cnt1 v2 (out ++ [m']) := by
  have hl := hrow.lt
  have hl0 := h.row.lt
  have hr := hrg.lt
  have hlow := h.low
  have hsz : (W4.alloc o).heap.size = W4.heap.size + 1 := by simp
  have htp : m'.tp = m.tp := congrArg AM.tp ham
  have hmem : ∀ x ∈ out, left (.string x.tp.data.toList) = false := fun x hx => ((h.am x.am).1 (List.mem_map.2 ⟨x, hx, rfl⟩)).2.2
  have hne : ∀ c, c < W4.heap.size → some c ≠ v.ownBlock → some c ≠ v2.ownBlock := fun c h1 h2 e => by
    rcases hloc with e2 | e2
    · exact h2 (e.trans e2)
    · rw [e2] at e; injection e with e; omega
  refine ⟨(hrg.alloc o).kept hg (fun e => by have := (hl _ e.symm).1; omega) (fun e => by have := (hl _ e.symm).1; omega), ?_, fun x hx => ?_, fun x => ?_, ?_, ?_, hlow⟩
  · have e : rowM (out ++ [m']) = rowM out ++ m'.cells := by unfold rowM; simp
    unfold MRow
    rw [e, List.length_append]
    exact hown
  · rcases List.mem_append.1 hx with hx | hx
    · obtain ⟨h1, h2⟩ := hparts x hx
      exact ⟨h1.kept fun c hc hlt => ⟨(hg.block c (by omega) hc.2.2).trans (Below.heap_alloc _ _ _ hlt), hc.1, by have := hg.size; omega, hne c hlt hc.2.2⟩, h2⟩
    · rw [List.mem_singleton] at hx
      subst hx
      refine ⟨hd.kept fun c hc hlt => ?_, hsm⟩
      have hc1 : w2.heap.size ≤ c := hc.1
      have hcv : some c ≠ v.ownBlock := fun e => by have := (hl0 c e.symm).2; omega
      have hr0 := h.rg.lt
      exact ⟨(hg.block c (by omega) hcv).trans (Below.heap_alloc _ _ _ hlt), by omega, by have := hg.size; omega, hne c hlt hcv⟩
  · show _ ↔ _ ∧ _ ∧ (left (.string x.tp.data.toList) && !(Lit.string x.tp.data.toList).sameKey (.string m.tp.data.toList)) = false
    rw [List.map_append, List.mem_append, h.am, left_key]
    constructor
    · rintro (⟨a, b, c⟩ | a)
      · exact ⟨a, b, .inl c⟩
      · have a : x ∈ [m'.am] := a
        rw [List.mem_singleton] at a
        subst a
        rw [ham]
        exact ⟨List.mem_map.2 ⟨m, hm, rfl⟩, hmt, .inr rfl⟩
    · rintro ⟨a, b, c | c⟩
      · exact .inl ⟨a, b, c⟩
      · right
        obtain ⟨y, hy, rfl⟩ := List.mem_map.1 a
        have c : y.tp = m.tp := c
        have e : y = m := by
          rcases pair_mem (List.pairwise_map.1 hkeys) (fun a b hab e => hab e.symm) hy hm with h1 | h1
          · exact h1
          · exact absurd c h1
        subst e
        show y.am ∈ [m'.am]
        rw [ham]
        exact List.mem_singleton.2 rfl
  · rw [List.map_append]
    refine List.nodup_append.2 ⟨h.nd, List.nodup_cons.2 ⟨List.not_mem_nil, List.nodup_nil⟩, fun a ha b hb e => ?_⟩
    have hb : b ∈ [m'.tp] := hb
    rw [List.mem_singleton] at hb
    subst hb; subst e
    obtain ⟨x, hx, e⟩ := List.mem_map.1 ha
    have h1 := hmem x hx
    rw [e, htp, hlx] at h1
    cases h1
  · exact (hbel.alloc hbel.size o).grown hg (by have := hbel.size; omega) (fun k hk => by have := (hl k hk).1; omega)
theorem news13 (W : World) (cs : List Value) (t : TypeId) : ∀ j u, cs[j]? = some u → (W.alloc (.cells cs.toArray t)).cell? ((⟨W.heap.size, 0, none⟩ : Addr).add j) = some u := fun j u h => by
  rw [flat_add, Nat.zero_add, cell_of_row _ _ _ _ _ _ (heap_alloc_new W _)]
  simpa using h
theorem info_msg : (Tryz.prog.info? 36).map (fun i => (i.zero, i.size, i.bytes)) = some (some msgZero, 13, 144) := by kernel_rfl
end
set_option maxRecDepth 100000 in
set_option maxHeartbeats 8000000 in
theorem hubKept_any2 (w0 w : World) (H : Hb) (kn : Nat) (KD : DataW Value) (KB : Nat → Prop) (ms : List Mg) (s : ByteArray) (h : HubK w w0.heap.size H kn KD KB ms) (hB : Below w0.heap.size w0 w) (hT0 : Tabs w0) (hs : s.size ≤ 1048576) (hms : ms.length ≤ 10000000) :
    Calls Tryz.prog 15 #[.pointer (some ⟨H.hb, 0, none⟩), .string s] w (KeptPost2 w ms s) := by
  have hT := hT0.below hB
  obtain ⟨base, hbase⟩ : ∃ base, w0.heap.size = base := ⟨_, rfl⟩
  rw [hbase] at h
  obtain ⟨PP, hPP⟩ : ∃ PP : Ending → World → Prop, KeptPost2 w ms s = PP := ⟨_, rfl⟩
  rw [hPP]
  have HPP := Lib.hid hPP
  have HH := Lib.hid h
  have HT := Lib.hid hT
  have CS : Hid (Calls Tryz.prog 17 #[.string s] w fun e w' => e = .returned (splitV s) ∧ Below w.heap.size w w') := split_any s w hs hT
  clear hPP h hT hB hT0 hbase
  cases hk : splitK s with
  | none =>
    have HSV := Lib.hid (split_no hk)
    have HF : Hid (keptF s = none) := by show keptF s = none; unfold keptF; rw [hk]
    clear hk
    go_enter Tryz.func15, Tryz.ntmps15
    go_wp2_with fail
    refine CS.out.mono ?_
    rintro e w1 ⟨rfl, hb1⟩
    rw [HSV.out]
    have HB1 := Lib.hid hb1
    have CN := Lib.hid (hub_no (HH.out.below hb1).hub)
    clear hb1
    go_wp2_with fail
    refine CN.out.mono ?_
    rintro e w2 ⟨rfl, hw⟩
    subst w2
    go_wp2_with fail
    rw [← HPP.out]
    exact ⟨_, [], rfl, World.ownsRow_nil _ _ _ _, ⟨List.Pairwise.nil, fun x => Iff.intro (fun h => (by cases h)) (fun ⟨_, f, h1, _⟩ => (by rw [HF.out] at h1; cases h1))⟩, fun m hm => (by cases hm), HB1.out⟩
  | some x =>
    obtain ⟨n, f⟩ := x
    have HSV := Lib.hid (split_yes hk)
    have hfs : f.size ≤ s.size := split_size hk
    by_cases hn : n.size = 0
    · have hl1 : n.toList = [] := by rw [ByteArray.toList_eq]; exact List.eq_nil_of_length_eq_zero (by rw [show n.data.toList.length = n.size from Array.length_toList]; exact hn)
      have hl2 : n.toList.isEmpty = true := by rw [hl1]; rfl
      have hn2 : n = ByteArray.empty := by apply bytes_inj; rw [← ByteArray.toList_eq, hl1]; rfl
      subst hn2
      have HF : Hid (keptF s = some f) := by show keptF s = some f; unfold keptF; rw [hk]; exact if_pos hn
      clear hk hn
      go_enter Tryz.func15, Tryz.ntmps15
      go_wp2_with fail
      refine CS.out.mono ?_
      rintro e A1 ⟨rfl, hb1⟩
      rw [HSV.out]
      have HB1 := Lib.hid hb1
      have HH1 := Lib.hid (HH.out.below hb1)
      have CN := Lib.hid (hub_no HH1.out.hub)
      clear hb1
      go_wp2_with fail
      refine CN.out.mono ?_
      rintro e w2 ⟨rfl, hw⟩
      subst w2
      have c2 := HH1.out.cell2
      have hhl := HH1.out.hub.hlt
      have hown := HH1.out.kept.map
      go_wp2_with (first
        | (at_range; refine wpList_range_own _ rfl _ 60 rfl 9 36 string_keys Tryz.underlying60 heldR H.km kn KD rfl hown ?_; intro wA hrg0 hg0 hs0)
        | go_in)
      go_frame
      have hst : KtRg A1 wA H.km kn KD ms f A1.heap.size (Maps.has KD) (Maps.size KD) (.slice none 0 0) [] := ⟨hrg0, World.ownsRow_nil _ _ _ _, fun m hm => (by cases hm), fun x => Iff.intro (fun h => (by cases h)) (fun ⟨h1, _, h3⟩ => by
        obtain ⟨m, hm, rfl⟩ := List.mem_map.1 h1
        have hhas := (HH1.out.kept.has (s := m.tp) (by have := (HH1.out.kept.each m hm).2.2; unfold maxLen; omega)).2 ⟨m, hm, rfl⟩
        rw [show m.am.tp = m.tp from rfl, hhas] at h3
        cases h3), List.nodup_nil, Below.of_grown_none hg0, Nat.le_refl _⟩
      clear hrg0 hg0 c2 hhl hown
      go_loopw [8] (fun v wr => ∃ (left : Lit → Bool) (cnt : Nat) (out : List Mg), KtRg A1 wr H.km kn KD ms f A1.heap.size left cnt v out)
        (fun _ wr => wr.rangeLeft H.km A1.heap.size)
      case atStart => exact ⟨_, _, _, hst⟩
      case round =>
        obtain ⟨left, cnt, out, hM⟩ := hrel
        have hrg := hM.rg
        go_wp2_with (first
          | (at_next; refine wpList_next_ranges _ rfl _ rfl 9 string_keys heldR Value.string (fun c : Value => c) (fun key kl hkey => Maps.keyOf_string_inv Tryz.underlying9 hkey) (fun v y hv => ⟨v, rfl⟩) H.km A1.heap.size _ _ _ _ rfl hrg ?_ ?_)
          | go_in)
        · intro _ hl0
          obtain ⟨q, c', rfl⟩ := hM.row.slice
          have hol : out.length ≤ 100000000 := by
            have h1 := nodup_le hM.nd (fun t ht => by
              obtain ⟨m, hm, rfl⟩ := List.mem_map.1 ht
              obtain ⟨y, hy, e⟩ := List.mem_map.1 ((hM.am m.am).1 (List.mem_map.2 ⟨m, hm, rfl⟩)).1
              exact List.mem_map.2 ⟨y, hy, congrArg AM.tp e⟩ : ∀ t ∈ out.map (·.tp), t ∈ ms.map (·.tp))
            rw [List.length_map, List.length_map] at h1
            omega
          have SO := Lib.hid (sort_msgs _ out _ wr hM.row hM.nd (by omega))
          have HM := Lib.hid hM
          have HL0 := Lib.hid hl0
          clear hM hrg hl0
          go_wp2_with fail
          refine SO.out.mono ?_
          rintro e w3 ⟨rfl, ms', hp, hpw, hrow, hg⟩
          have HP := Lib.hid hp
          have HPW := Lib.hid hpw
          have HRW := Lib.hid hrow
          have HG := Lib.hid hg
          clear hp hpw hrow hg
          go_wp2_with fail
          rw [← HPP.out]
          have hA := HB1.out.size
          have hl := HM.out.row.lt
          have hbel : Below A1.heap.size A1 w3 := HM.out.bel.grown HG.out HM.out.bel.size (fun k hk => by have := (hl k hk).1; omega)
          refine ⟨_, ms', rfl, ownsRow_mono HRW.out (by omega), ⟨List.pairwise_map.2 HPW.out, fun x => ?_⟩, fun m hm => ?_, HB1.out.trans (hbel.mono hA)⟩
          · rw [(HP.out.map Mg.am).mem_iff, HM.out.am]
            constructor
            · rintro ⟨h1, h2, -⟩; exact ⟨h1, f, HF.out, h2⟩
            · rintro ⟨h1, f', h2, h3⟩
              rw [HF.out] at h2
              injection h2 with h2
              subst h2
              exact ⟨h1, h3, HL0.out _⟩
          · obtain ⟨h1, h2⟩ := HM.out.parts m (HP.out.mem_iff.1 hm)
            exact ⟨h1.kept fun b hb hlt => ⟨HG.out.block b hlt hb.2.2, by have := hb.1; omega, Nat.lt_of_lt_of_le hlt HG.out.size, hb.2.2⟩, h2⟩
        · intro l c kl d ps w1 cnt1 hkey hlx hR hat hrg1 hlt hg1 hs1 hen
          obtain rfl : kl = .string l.data.toList := by
            simp [keyOf, mapKey, Tryz.underlying9] at hkey
            exact hkey.2.symm
          have hd := held_of hR
          have hlv : lookV KD l = some c := lookV_some ((hat noV).trans (congrArg Prod.fst hd).symm)
          obtain ⟨m, hm, rfl, rfl⟩ := (HH1.out.kept.by_ l c).1 hlv
          unfold Mg.val at hen
          obtain ⟨hdm, hsm, htp⟩ := HH1.out.kept.each m hm
          have hbA1 : Below A1.heap.size A1 w1 := hM.bel.grown hg1 hM.bel.size (fun k hk => by injection hk with hk; omega)
          have hdm1 : DvIs w1 m.f m.body m.t := DvIs.below hbA1 hdm.is
          have HM := Lib.hid hM
          have HMM := Lib.hid hm
          have HG1 := Lib.hid hg1
          have HRG1 := Lib.hid hrg1
          have HLT := Lib.hid hlt
          have HLX := Lib.hid hlx
          have HDM := Lib.hid hdm1
          have HSM := Lib.hid hsm
          have CB : Hid (∀ W, Below w.heap.size w W → Calls Tryz.prog 16 #[.string f, .string m.tp] W fun e w' => e = .returned (.bool (matchB f m.tp)) ∧ Below W.heap.size W w') := fun W hb => topicMatch_any indexByte_said valid_said contains_said dollar_said f m.tp W (by omega) htp (HT.out.below hb)
          have HBW : Hid (Below w.heap.size w w1) := HB1.out.trans (hbA1.mono HB1.out.size)
          clear hM hm hg1 hrg1 hlt hlx hdm hdm1 hsm hbA1 hd hlv hat hR hkey hrg hs1
          go_wp2_with fail
          obtain ⟨b, hb⟩ : ∃ b, w1.heap.size = b := ⟨_, rfl⟩
          rw [hb]
          refine (CB.out _ (HBW.out.alloc HBW.out.size _)).mono ?_
          rintro e w2 ⟨rfl, hb2⟩
          have hbox2 : w2.heap[b]? = some (.cells #[.int .i64 m.id, .string m.tp, .int .i64 m.kd, .int .i64 m.di, .int .u64 m.db, .string m.ds, .slice m.q m.n m.c, .int .i64 m.at_, .int .i64 m.un, .string m.rp, .int .i64 m.co, .int .i64 m.pr, .int .i64 m.ho] 36 (0, 0)) := by rw [← hb]; exact (hb2.block _ (by simp)).trans (heap_alloc_new w1 _)
          have HB12 : Hid (Below w1.heap.size w1 w2) := ((Below.refl _ w1).alloc (Nat.le_refl _) _).trans (hb2.mono (by simp))
          have HBB := Lib.hid hb
          clear hb2 hb
          cases hmt : matchB f m.tp with
          | false =>
            have HS := Lib.hid (HM.out.skip HRG1.out HG1.out HB12.out hmt)
            clear hmt hbox2
            go_wp2_with fail
            go_roundw
            case rel => exact ⟨_, cnt1, out, HS.out⟩
            case measure => rw [HS.out.rg.left_eq, HM.out.rg.left_eq]; exact HLT.out
          | true =>
            have HMT := Lib.hid hmt
            have CO : Hid (Calls Tryz.prog 34 #[.agg #[.int .i64 m.kd, .int .i64 m.di, .int .u64 m.db, .string m.ds, .slice m.q m.n m.c]] w2 (OwnPost2 w2 m.f m.t)) := own_any2 m.f w2 m.kd m.di m.db m.ds m.q m.n m.c m.t (DvIs.below HB12.out HDM.out) HSM.out
            have xl := (Array.getElem?_eq_some_iff.1 hbox2).1
            have x0 : w2.cell? ⟨b, 0, none⟩ = some (.int .i64 m.id) := by rw [cell_of_row _ _ _ _ _ _ hbox2]; rfl
            have x1 : w2.cell? ⟨b, 1, none⟩ = some (.string m.tp) := by rw [cell_of_row _ _ _ _ _ _ hbox2]; rfl
            have x2 : w2.cell? ⟨b, 2, none⟩ = some (.int .i64 m.kd) := by rw [cell_of_row _ _ _ _ _ _ hbox2]; rfl
            have x3 : w2.cell? ⟨b, 3, none⟩ = some (.int .i64 m.di) := by rw [cell_of_row _ _ _ _ _ _ hbox2]; rfl
            have x4 : w2.cell? ⟨b, 4, none⟩ = some (.int .u64 m.db) := by rw [cell_of_row _ _ _ _ _ _ hbox2]; rfl
            have x5 : w2.cell? ⟨b, 5, none⟩ = some (.string m.ds) := by rw [cell_of_row _ _ _ _ _ _ hbox2]; rfl
            have x6 : w2.cell? ⟨b, 6, none⟩ = some (.slice m.q m.n m.c) := by rw [cell_of_row _ _ _ _ _ _ hbox2]; rfl
            have x7 : w2.cell? ⟨b, 7, none⟩ = some (.int .i64 m.at_) := by rw [cell_of_row _ _ _ _ _ _ hbox2]; rfl
            have x8 : w2.cell? ⟨b, 8, none⟩ = some (.int .i64 m.un) := by rw [cell_of_row _ _ _ _ _ _ hbox2]; rfl
            have x9 : w2.cell? ⟨b, 9, none⟩ = some (.string m.rp) := by rw [cell_of_row _ _ _ _ _ _ hbox2]; rfl
            have x10 : w2.cell? ⟨b, 10, none⟩ = some (.int .i64 m.co) := by rw [cell_of_row _ _ _ _ _ _ hbox2]; rfl
            have x11 : w2.cell? ⟨b, 11, none⟩ = some (.int .i64 m.pr) := by rw [cell_of_row _ _ _ _ _ _ hbox2]; rfl
            have x12 : w2.cell? ⟨b, 12, none⟩ = some (.int .i64 m.ho) := by rw [cell_of_row _ _ _ _ _ _ hbox2]; rfl
            have HBX2 := Lib.hid hbox2
            clear hmt hbox2
            go_wp2_with fail
            refine CO.out.mono ?_
            rintro e w3 ⟨a0, a1, a2, a3, aq, an, ac, rfl, hb3, hd3, hf3⟩
            have HFQ3 := Lib.hid hf3
            clear hf3
            obtain ⟨ps0, ht1⟩ := DvIs.mk HDM.out
            obtain ⟨ps', ht2⟩ := DvIs.mk hd3.is
            rw [ht1] at ht2
            injection ht2 with t0 t1 t2 t3 t4
            subst t0; subst t1; subst t2; subst t3
            have hbox3 : w3.heap[b]? = some (.cells #[.int .i64 m.id, .string m.tp, .int .i64 m.kd, .int .i64 m.di, .int .u64 m.db, .string m.ds, .slice m.q m.n m.c, .int .i64 m.at_, .int .i64 m.un, .string m.rp, .int .i64 m.co, .int .i64 m.pr, .int .i64 m.ho] 36 (0, 0)) := (hb3.block b xl).trans HBX2.out
            have HXL := Lib.hid xl
            clear xl x0 x1 x2 x3 x4 x5 x6 x7 x8 x9 x10 x11 x12
            have yl := (Array.getElem?_eq_some_iff.1 hbox3).1
            have y0 : w3.cell? ⟨b, 0, none⟩ = some (.int .i64 m.id) := by rw [cell_of_row _ _ _ _ _ _ hbox3]; rfl
            have y1 : w3.cell? ⟨b, 1, none⟩ = some (.string m.tp) := by rw [cell_of_row _ _ _ _ _ _ hbox3]; rfl
            have y2 : w3.cell? ⟨b, 2, none⟩ = some (.int .i64 m.kd) := by rw [cell_of_row _ _ _ _ _ _ hbox3]; rfl
            have y3 : w3.cell? ⟨b, 3, none⟩ = some (.int .i64 m.di) := by rw [cell_of_row _ _ _ _ _ _ hbox3]; rfl
            have y4 : w3.cell? ⟨b, 4, none⟩ = some (.int .u64 m.db) := by rw [cell_of_row _ _ _ _ _ _ hbox3]; rfl
            have y5 : w3.cell? ⟨b, 5, none⟩ = some (.string m.ds) := by rw [cell_of_row _ _ _ _ _ _ hbox3]; rfl
            have y6 : w3.cell? ⟨b, 6, none⟩ = some (.slice m.q m.n m.c) := by rw [cell_of_row _ _ _ _ _ _ hbox3]; rfl
            have y7 : w3.cell? ⟨b, 7, none⟩ = some (.int .i64 m.at_) := by rw [cell_of_row _ _ _ _ _ _ hbox3]; rfl
            have y8 : w3.cell? ⟨b, 8, none⟩ = some (.int .i64 m.un) := by rw [cell_of_row _ _ _ _ _ _ hbox3]; rfl
            have y9 : w3.cell? ⟨b, 9, none⟩ = some (.string m.rp) := by rw [cell_of_row _ _ _ _ _ _ hbox3]; rfl
            have y10 : w3.cell? ⟨b, 10, none⟩ = some (.int .i64 m.co) := by rw [cell_of_row _ _ _ _ _ _ hbox3]; rfl
            have y11 : w3.cell? ⟨b, 11, none⟩ = some (.int .i64 m.pr) := by rw [cell_of_row _ _ _ _ _ _ hbox3]; rfl
            have y12 : w3.cell? ⟨b, 12, none⟩ = some (.int .i64 m.ho) := by rw [cell_of_row _ _ _ _ _ _ hbox3]; rfl
            have v2 := frozen_of_row w3 b 2 _ _ hbox3
            have v3 := frozen_of_row w3 b 3 _ _ hbox3
            have v4 := frozen_of_row w3 b 4 _ _ hbox3
            have v5 := frozen_of_row w3 b 5 _ _ hbox3
            have v6 := frozen_of_row w3 b 6 _ _ hbox3
            have HBX3 := Lib.hid hbox3
            have HB3 := Lib.hid hb3
            have HD3 := Lib.hid hd3
            clear hb3 hd3 hbox3
            go_upto_region 10 with fail
            refine wp_world (fun W => W.heap[b]? = some (.cells #[.int .i64 m.id, .string m.tp, .int .i64 m.kd, .int .i64 m.di, .int .u64 m.db, .string m.ds, .slice aq an ac, .int .i64 m.at_, .int .i64 m.un, .string m.rp, .int .i64 m.co, .int .i64 m.pr, .int .i64 m.ho] 36 (0, 0)) ∧ w3.grownBy W (some b)) ⟨heap_setCell_same _ b 6 _ _ _ (heap_setCell_same _ b 5 _ _ _ (heap_setCell_same _ b 4 _ _ _ (heap_setCell_same _ b 3 _ _ _ (heap_setCell_same w3 b 2 _ _ _ HBX3.out)))), grown_set (grown_set (grown_set (grown_set (grown_set (grownBy_refl w3 _) _ _) _ _) _ _) _ _) _ _⟩ (fun W4 hW4 => ?_)
            have HG4 := Lib.hid hW4.2
            have hbox4 := hW4.1
            have x0 : W4.cell? ⟨b, 0, none⟩ = some (.int .i64 m.id) := by rw [cell_of_row _ _ _ _ _ _ hbox4]; rfl
            have x1 : W4.cell? ⟨b, 1, none⟩ = some (.string m.tp) := by rw [cell_of_row _ _ _ _ _ _ hbox4]; rfl
            have x2 : W4.cell? ⟨b, 2, none⟩ = some (.int .i64 m.kd) := by rw [cell_of_row _ _ _ _ _ _ hbox4]; rfl
            have x3 : W4.cell? ⟨b, 3, none⟩ = some (.int .i64 m.di) := by rw [cell_of_row _ _ _ _ _ _ hbox4]; rfl
            have x4 : W4.cell? ⟨b, 4, none⟩ = some (.int .u64 m.db) := by rw [cell_of_row _ _ _ _ _ _ hbox4]; rfl
            have x5 : W4.cell? ⟨b, 5, none⟩ = some (.string m.ds) := by rw [cell_of_row _ _ _ _ _ _ hbox4]; rfl
            have x6 : W4.cell? ⟨b, 6, none⟩ = some (.slice aq an ac) := by rw [cell_of_row _ _ _ _ _ _ hbox4]; rfl
            have x7 : W4.cell? ⟨b, 7, none⟩ = some (.int .i64 m.at_) := by rw [cell_of_row _ _ _ _ _ _ hbox4]; rfl
            have x8 : W4.cell? ⟨b, 8, none⟩ = some (.int .i64 m.un) := by rw [cell_of_row _ _ _ _ _ _ hbox4]; rfl
            have x9 : W4.cell? ⟨b, 9, none⟩ = some (.string m.rp) := by rw [cell_of_row _ _ _ _ _ _ hbox4]; rfl
            have x10 : W4.cell? ⟨b, 10, none⟩ = some (.int .i64 m.co) := by rw [cell_of_row _ _ _ _ _ _ hbox4]; rfl
            have x11 : W4.cell? ⟨b, 11, none⟩ = some (.int .i64 m.pr) := by rw [cell_of_row _ _ _ _ _ _ hbox4]; rfl
            have x12 : W4.cell? ⟨b, 12, none⟩ = some (.int .i64 m.ho) := by rw [cell_of_row _ _ _ _ _ _ hbox4]; rfl
            have xl := (Array.getElem?_eq_some_iff.1 hbox4).1
            clear y0 y1 y2 y3 y4 y5 y6 y7 y8 y9 y10 y11 y12 v2 v3 v4 v5 v6 yl hW4 hbox4
            have HB14 : Hid (Below w1.heap.size w1 W4) := (HB12.out.trans (HB3.out.mono HB12.out.size)).grown HG4.out (Nat.le_trans HB12.out.size HB3.out.size) (fun k hk => by injection hk with hk; have := HBB.out; omega)
            have hdv : MgIn (Fresh w2 W4) W4 { m with q := aq, n := an, c := ac } := MgIn.kept (m := { m with q := aq, n := an, c := ac }) ⟨HD3.out, HFQ3.out⟩ (Q := Fresh w2 W4) (w' := W4) fun c hc hl => ⟨HG4.out.block c hl (fun e => by have h1 : w2.heap.size ≤ c := hc.1; have h2 := HXL.out; injection e with e; omega), hc.1, Nat.lt_of_lt_of_le hl HG4.out.size⟩
            have HDV := Lib.hid hdv
            obtain ⟨m1, m2, m3, m4⟩ := HM.out.move HRG1.out HG1.out HB14.out
            have M1 := Lib.hid m1
            have M2 := Lib.hid m2
            have M3 := Lib.hid m3
            have M4 := Lib.hid m4
            obtain ⟨q, c', rfl⟩ := m2.slice
            have hr4 := m1.lt
            clear m1 m2 m3 m4 hdv
            have hol : out.length ≤ 100000000 := by
              have h1 := nodup_le HM.out.nd (fun t ht => by
                obtain ⟨m, hm, rfl⟩ := List.mem_map.1 ht
                obtain ⟨y, hy, e⟩ := List.mem_map.1 ((HM.out.am m.am).1 (List.mem_map.2 ⟨m, hm, rfl⟩)).1
                exact List.mem_map.2 ⟨y, hy, congrArg AM.tp e⟩ : ∀ t ∈ out.map (·.tp), t ∈ ms.map (·.tp))
              rw [List.length_map, List.length_map] at h1
              omega
            obtain ⟨i0, hi, hz0, hz1, hz2⟩ := info_parts info_msg
            go_wp2_with (at_builtin; refine wpList_append_own_at _ rfl _ _ 30 rfl (A1.heap.size + 1) 36 i0 msgZero 13 144 Tryz.underlying30 hi hz0 hz1 hz2 rfl (by decide) _ _ _ rfl (M2.out.alloc _) ⟨W4.heap.size, 0, none⟩ 1 1 [.int .i64 m.id, .string m.tp, .int .i64 m.kd, .int .i64 m.di, .int .u64 m.db, .string m.ds, .slice aq an ac, .int .i64 m.at_, .int .i64 m.un, .string m.rp, .int .i64 m.co, .int .i64 m.pr, .int .i64 m.ho] rfl rfl (news13 W4 _ _) (by intro u hu; simp at hu; rcases hu with rfl | rfl | rfl | rfl | rfl | rfl | rfl | rfl | rfl | rfl | rfl | rfl | rfl <;> rfl) (by unfold maxLen; omega) (by omega) (by simp; omega) ?_; intro v2 w6 hown2 hg2 hnil2 hloc; have HOW := Lib.hid hown2; have HG6 := Lib.hid hg2; have HLOC := Lib.hid hloc; clear hown2 hg2 hnil2 hloc)
            have HK : KtRg A1 w6 H.km kn KD ms f A1.heap.size (fun z => left z && !z.sameKey (.string m.tp.data.toList)) cnt1 v2 (out ++ [{ m with q := aq, n := an, c := ac }]) := HM.out.add (w2 := w2) (m := m) (m' := { m with q := aq, n := an, c := ac }) M1.out M2.out M3.out M4.out HH1.out.kept.map.lt HH1.out.kept.keys HMM.out HMT.out HLX.out rfl HDV.out HSM.out (Nat.le_trans HG1.out.size HB12.out.size) _ HG6.out HLOC.out HOW.out
            exact ⟨⟨_, _, _, HK⟩, by rw [HK.rg.left_eq, HM.out.rg.left_eq]; exact HLT.out⟩
    · have hl1 : ¬ n.toList = [] := by rw [ByteArray.toList_eq]; intro e; apply hn; rw [← show n.data.toList.length = n.size from Array.length_toList, e]; rfl
      have hl2 : n.toList.isEmpty = false := by cases hh : n.toList with
        | nil => exact absurd hh hl1
        | cons a b => rfl
      have HF : Hid (keptF s = none) := by show keptF s = none; unfold keptF; rw [hk]; exact if_neg hn
      clear hk hn
      go_enter Tryz.func15, Tryz.ntmps15
      go_wp2_with fail
      refine CS.out.mono ?_
      rintro e w1 ⟨rfl, hb1⟩
      rw [HSV.out]
      have HB1 := Lib.hid hb1
      have CN := Lib.hid (hub_no (HH.out.below hb1).hub)
      clear hb1
      go_wp2_with fail
      refine CN.out.mono ?_
      rintro e w2 ⟨rfl, hw⟩
      subst w2
      go_wp2_with fail
      rw [← HPP.out]
      exact ⟨_, [], rfl, World.ownsRow_nil _ _ _ _, ⟨List.Pairwise.nil, fun x => Iff.intro (fun h => (by cases h)) (fun ⟨_, f, h1, _⟩ => (by rw [HF.out] at h1; cases h1))⟩, fun m hm => (by cases hm), HB1.out⟩
theorem hubKept_any (w0 w : World) (H : Hb) (kn : Nat) (KD : DataW Value) (KB : Nat → Prop) (ms : List Mg) (s : ByteArray) (h : HubK w w0.heap.size H kn KD KB ms) (hB : Below w0.heap.size w0 w) (hT0 : Tabs w0) (hs : s.size ≤ 1048576) (hms : ms.length ≤ 10000000) :
    Calls Tryz.prog 15 #[.pointer (some ⟨H.hb, 0, none⟩), .string s] w (KeptPost w ms s) := (hubKept_any2 w0 w H kn KD KB ms s h hB hT0 hs hms).mono fun _ _ ⟨v, out, h1, h2, h3, h4, h5⟩ => ⟨v, out, h1, h2, h3, fun m hm => ⟨(h4 m hm).1.1, (h4 m hm).2⟩, h5⟩
end Go.Proofs.YtincmegllckcjaaGreatDoor
