/- TRIE: a node's numbers change; a node is added. PLAIN: the words of the topics' layer on lists of bytes. No program stands in this text. WHAT THE LIBRARY's FUNCTIONS GIVE, AS STATEMENTS: their proofs stand in texts of their own. -/
import Derived.StringKeys
import Derived.Test.YtincmegllckcjaaGreatDoorMTrieIds
import Derived.WalkKit
import Derived.Lib.ValidU
import Derived.Lib.Bytealg
import Derived.Lib.Hide
import Derived.Shelf.Unicode.DecodeSlow
import Derived.Lib.Strings
import Derived.Test.YtincmegllckcjaaGreatDoorProg
namespace Go.Proofs.YtincmegllckcjaaGreatDoor
section
open Go Go.RowKit

theorem nodup_others {T : List Nd} (p : Nd → Bool) : (T.flatMap Nd.blocks).Nodup → ((T.filter p).flatMap Nd.blocks).Nodup := by
  induction T with
  | nil => intro h; exact h
  | cons x T ih =>
    intro h
    rw [List.flatMap_cons, List.nodup_append] at h
    rw [List.filter_cons]
    split
    · rw [List.flatMap_cons, List.nodup_append]
      refine ⟨h.1, ih h.2.1, fun a ha b hb => h.2.2 a ha b ?_⟩
      obtain ⟨y, hy, hby⟩ := List.mem_flatMap.1 hb
      exact List.mem_flatMap.2 ⟨y, (List.mem_filter.1 hy).1, hby⟩
    · exact ih h.2.1
theorem blocks_of : ∀ {T : List Nd}, (T.flatMap Nd.blocks).Nodup → ∀ {x : Nd}, x ∈ T → x.blocks.Nodup
  | [], _, _, hx => by cases hx
  | z :: T, h, x, hx => by
    rw [List.flatMap_cons, List.nodup_append] at h
    rcases List.mem_cons.1 hx with e | hx
    · rw [e]; exact h.1
    · exact blocks_of h.2.1 hx
theorem blocks_nodup {x : Nd} : x.blocks.Nodup ↔ x.a ≠ x.m ∧ x.v.ownBlock ≠ some x.a ∧ x.v.ownBlock ≠ some x.m := by
  unfold Nd.blocks
  cases x.v.ownBlock with
  | none => simp
  | some g =>
    simp only [Option.toList, List.nodup_cons, List.mem_cons, List.not_mem_nil, or_false, not_false_eq_true, List.nodup_nil, and_true]
    constructor
    · rintro ⟨h1, h2⟩
      exact ⟨fun e => h1 (.inl e), fun e => h1 (.inr (Option.some.inj e).symm), fun e => h2 (Option.some.inj e).symm⟩
    · rintro ⟨h1, h2, h3⟩
      exact ⟨fun e => by rcases e with e | e; exact h1 e; exact h2 (by rw [e]), fun e => h3 (by rw [e])⟩
theorem mem_blocks {x : Nd} {b : Nat} : b ∈ x.blocks ↔ b = x.a ∨ b = x.m ∨ x.v.ownBlock = some b := by
  unfold Nd.blocks
  cases x.v.ownBlock with
  | none => simp
  | some g => simp [eq_comm]
/-- what stands at a path with an address is the same where one node is put in another's place -/
theorem ex_same {T : List Nd} {x x' : Nd} (hx : x ∈ T) (hone : ∀ y ∈ T, y.path = x.path → y = x) (hp : x'.path = x.path) (ha : x'.a = x.a) (q : List ByteArray) (b : Nat) : (∃ y ∈ x' :: others T x.path, y.path = q ∧ y.a = b) ↔ ∃ y ∈ T, y.path = q ∧ y.a = b := by
  constructor
  · rintro ⟨y, hy, h1, h2⟩
    rcases List.mem_cons.1 hy with rfl | hy
    · exact ⟨x, hx, hp ▸ h1, ha ▸ h2⟩
    · exact ⟨y, (mem_others.1 hy).1, h1, h2⟩
  · rintro ⟨y, hy, h1, h2⟩
    by_cases e : y.path = x.path
    · obtain rfl := hone y hy e
      exact ⟨x', List.mem_cons_self .., hp.trans h1, ha.trans h2⟩
    · exact ⟨y, List.mem_cons_of_mem _ (mem_others.2 ⟨hy, e⟩), h1, h2⟩
theorem TrieIs.setIds {W W' : World} {base sz sz' : Nat} {T : List Nd} {x x' : Nd} (h : TrieIs W base sz T) (hx : x ∈ T) (hp : x'.path = x.path) (ha : x'.a = x.a) (hm : x'.m = x.m) (hD : x'.D = x.D) (hnd : NdIs W' base sz' x') (hsz : sz ≤ sz') (hr : x'.ids.Pairwise (· < ·)) (hf : x'.ids.length ≤ sz')
    (hv : x'.v.ownBlock = x.v.ownBlock ∨ ∃ g, x'.v.ownBlock = some g ∧ W.heap.size ≤ g) (hb : ∀ y ∈ others T x.path, ∀ b ∈ y.blocks, W'.heap[b]? = W.heap[b]?) : TrieIs W' base sz' (x' :: others T x.path) := by
  have hone : ∀ y ∈ T, y.path = x.path → y = x := fun y hy e => h.one hy hx e
  have hxb := blocks_nodup.1 (blocks_of h.blocks hx)
  have hlx := fun b hb => (h.each x hx).lt (b := b) hb
  have hmem : ∀ {y}, y ∈ others T x.path → y ∈ T ∧ y ≠ x := fun hy => ⟨(mem_others.1 hy).1, fun e => (mem_others.1 hy).2 (by rw [e])⟩
  refine ⟨?_, ?_, ?_, ?_, ?_, ?_, ?_, ?_⟩
  · intro y hy
    rcases List.mem_cons.1 hy with rfl | hy
    · exact hnd
    · exact ((h.each y (hmem hy).1).kept (hb y hy)).more hsz
  · rw [List.pairwise_cons]
    refine ⟨fun y hy e => (mem_others.1 hy).2 (e.symm.trans hp), h.paths.filter _⟩
  · rw [List.flatMap_cons, List.nodup_append]
    refine ⟨?_, nodup_others _ h.blocks, ?_⟩
    · rw [blocks_nodup, ha, hm]
      refine ⟨hxb.1, ?_, ?_⟩
      · rcases hv with e | ⟨g, e, hg⟩
        · rw [e]; exact hxb.2.1
        · rw [e]; intro e2; injection e2 with e2; have := (hlx x.a (by simp [mem_blocks])).2; omega
      · rcases hv with e | ⟨g, e, hg⟩
        · rw [e]; exact hxb.2.2
        · rw [e]; intro e2; injection e2 with e2; have := (hlx x.m (by simp [mem_blocks])).2; omega
    · intro b hb1 c hc1 e
      subst e
      obtain ⟨y, hy, hby⟩ := List.mem_flatMap.1 hc1
      have hyl := ((h.each y (hmem hy).1).lt hby).2
      have hap := apart_of h.blocks (hmem hy).1 hx (hmem hy).2 b hby
      rw [mem_blocks, ha, hm] at hb1
      rw [mem_blocks] at hap
      rcases hb1 with e | e | e
      · exact hap (.inl e)
      · exact hap (.inr (.inl e))
      · rcases hv with e2 | ⟨g, e2, hg⟩
        · exact hap (.inr (.inr (e2 ▸ e)))
        · rw [e2] at e; injection e with e; omega
  · intro y hy s b
    rw [ex_same hx hone hp ha]
    rcases List.mem_cons.1 hy with rfl | hy
    · rw [hD, hp]; exact h.kids x hx s b
    · exact h.kids y (hmem hy).1 s b
  · intro y hy q s e
    have : ∃ z ∈ T, z.path = q := by
      rcases List.mem_cons.1 hy with rfl | hy
      · exact h.par x hx q s (hp ▸ e)
      · exact h.par y (hmem hy).1 q s e
    obtain ⟨z, hz, hzq⟩ := this
    obtain ⟨z', hz', h1, -⟩ := (ex_same hx hone hp ha q z.a).2 ⟨z, hz, hzq, rfl⟩
    exact ⟨z', hz', h1⟩
  · obtain ⟨z, hz, hzq⟩ := h.root
    obtain ⟨z', hz', h1, -⟩ := (ex_same hx hone hp ha [] z.a).2 ⟨z, hz, hzq, rfl⟩
    exact ⟨z', hz', h1⟩
  · intro y hy
    rcases List.mem_cons.1 hy with rfl | hy
    · exact hr
    · exact h.rising y (hmem hy).1
  · intro y hy
    rcases List.mem_cons.1 hy with rfl | hy
    · exact hf
    · exact Nat.le_trans (h.few y (hmem hy).1) hsz
theorem string_keys : Maps.Keyed Tryz.prog 9 := Maps.string_keyed Tryz.underlying9
set_option maxRecDepth 100000 in
/-- a look into a node's map -/
theorem look_any {W : World} {base sz : Nat} {x : Nd} (h : NdIs W base sz x) {s : ByteArray} (hs : s.size ≤ maxLen) :
    (Instr.lookup 99 (.map (some x.m)) (.string s) false).run Tryz.prog W = .ok (.pointer ((kid x.D s).map fun b => ⟨b, 0, none⟩)) W ∧ (kid x.D s = none → x.D.atKey (.string s.data.toList) noD = noD) := by
  obtain ⟨es, clock, hb, F, _, hD⟩ := h.map
  rw [hD]
  rcases Maps.fit_look (w := W) (z := .pointer none) false string_keys Tryz.underlying99 (by kernel_rfl) hb F (WideMaps.keyOf_string_mk Tryz.underlying9 hs) with ⟨hrun, _, hat⟩ | ⟨e0, y, _, _, hrun, hRv, hat, _⟩
  · rw [kid_none (hat noD)]
    exact ⟨hrun, fun _ => hat noD⟩
  · obtain ⟨b, hv, rfl⟩ := ptrR_inv hRv
    rw [kid_some (hat noD)]
    rw [hv] at hrun
    exact ⟨hrun, fun h => by cases h⟩
theorem bytes_inj {s t : ByteArray} (h : s.data.toList = t.data.toList) : s = t := by
  cases s; cases t
  simp at h
  rw [h]
theorem kid_put_same {D : DataW Unit} (hD : Maps.IsMap D) (s : ByteArray) (b : Nat) : kid (D.put (.string s.data.toList) (kidD b)) s = some b := by
  refine kid_some ?_
  exact Maps.atKey_put_same hD (show WideAt.IsKeyLit (.string s.data.toList) from trivial) _ _
theorem kid_put_other {D : DataW Unit} {s t : ByteArray} (h : t ≠ s) (b : Nat) : kid (D.put (.string s.data.toList) (kidD b)) t = kid D t := by
  unfold kid
  rw [Maps.atKey_put_other (fun e => h (bytes_inj (by injection e)))]
theorem kid_empty (s : ByteArray) : kid (.map []) s = none := rfl
theorem app_one {α : Type} {p q : List α} {s t : α} (h : p ++ [s] = q ++ [t]) : p = q ∧ s = t := by
  have := List.append_inj' h rfl
  exact ⟨this.1, by simpa using this.2⟩
theorem TrieIs.addKid {W W' : World} {base sz sz' : Nat} {T : List Nd} {x x' y : Nd} {s : ByteArray} (h : TrieIs W base sz T) (hx : x ∈ T) (hk : kid x.D s = none) (hp : x'.path = x.path) (ha : x'.a = x.a) (hm : x'.m = x.m) (hv : x'.v = x.v) (hids : x'.ids = x.ids) (hD : x'.D = x.D.put (.string s.data.toList) (kidD y.a))
    (hnx : NdIs W' base sz' x') (hny : NdIs W' base sz' y) (hyp : y.path = x.path ++ [s]) (hyids : y.ids = []) (hyD : y.D = .map []) (hyv : y.v = .slice none 0 0) (hya : W.heap.size ≤ y.a) (hym : W.heap.size ≤ y.m) (hyn : y.a ≠ y.m) (hsz : sz ≤ sz')
    (hb : ∀ z ∈ others T x.path, ∀ b ∈ z.blocks, W'.heap[b]? = W.heap[b]?) : TrieIs W' base sz' (y :: x' :: others T x.path) := by
  have hone : ∀ y ∈ T, y.path = x.path → y = x := fun y hy e => h.one hy hx e
  have hmem : ∀ {z}, z ∈ others T x.path → z ∈ T ∧ z ≠ x := fun hz => ⟨(mem_others.1 hz).1, fun e => (mem_others.1 hz).2 (by rw [e])⟩
  have hno : ∀ u ∈ T, u.path ≠ x.path ++ [s] := fun u hu e => by
    have := (h.kids x hx s u.a).2 ⟨u, hu, e, rfl⟩
    rw [hk] at this
    cases this
  have hA : ∀ (q : List ByteArray) (b : Nat), (∃ u ∈ y :: x' :: others T x.path, u.path = q ∧ u.a = b) ↔ (∃ u ∈ T, u.path = q ∧ u.a = b) ∨ (q = x.path ++ [s] ∧ b = y.a) := by
    intro q b
    rw [← ex_same hx hone hp ha]
    constructor
    · rintro ⟨u, hu, h1, h2⟩
      rcases List.mem_cons.1 hu with e | hu
      · subst e; exact .inr ⟨h1.symm.trans hyp, h2.symm⟩
      · exact .inl ⟨u, hu, h1, h2⟩
    · rintro (⟨u, hu, h1, h2⟩ | ⟨h1, h2⟩)
      · exact ⟨u, List.mem_cons_of_mem _ hu, h1, h2⟩
      · exact ⟨y, List.mem_cons_self .., hyp.trans h1.symm, h2.symm⟩
  have hxbl : x'.blocks = x.blocks := by unfold Nd.blocks; rw [ha, hm, hv]
  refine ⟨?_, ?_, ?_, ?_, ?_, ?_, ?_, ?_⟩
  · intro z hz
    rcases List.mem_cons.1 hz with e | hz
    · rw [e]; exact hny
    · rcases List.mem_cons.1 hz with e | hz
      · rw [e]; exact hnx
      · exact ((h.each z (hmem hz).1).kept (hb z hz)).more hsz
  · rw [List.pairwise_cons, List.pairwise_cons]
    refine ⟨fun z hz e => ?_, fun z hz e => (mem_others.1 hz).2 (e.symm.trans hp), h.paths.filter _⟩
    rcases List.mem_cons.1 hz with e1 | hz
    · rw [e1, hyp, hp] at e
      have := congrArg List.length e
      simp at this
    · exact hno z (hmem hz).1 (e.symm.trans hyp)
  · have hb1 : (y.blocks).Nodup := by rw [blocks_nodup, hyv]; exact ⟨hyn, (by intro e; cases e), (by intro e; cases e)⟩
    have hyb : ∀ b ∈ y.blocks, W.heap.size ≤ b := fun b hb => by
      rw [mem_blocks, hyv] at hb
      rcases hb with e | e | e
      · omega
      · omega
      · cases e
    rw [List.flatMap_cons, List.nodup_append]
    refine ⟨hb1, ?_, fun b hb1 c hc e => ?_⟩
    · rw [List.flatMap_cons, List.nodup_append, hxbl]
      refine ⟨blocks_of h.blocks hx, nodup_others _ h.blocks, fun b hb1 c hc e => ?_⟩
      subst e
      obtain ⟨z, hz, hbz⟩ := List.mem_flatMap.1 hc
      exact apart_of h.blocks (hmem hz).1 hx (hmem hz).2 b hbz hb1
    · subst e
      have h1 := hyb b hb1
      rw [List.flatMap_cons, hxbl] at hc
      rcases List.mem_append.1 hc with hc | hc
      · have := ((h.each x hx).lt hc).2; omega
      · obtain ⟨z, hz, hbz⟩ := List.mem_flatMap.1 hc
        have := ((h.each z (hmem hz).1).lt hbz).2; omega
  · intro z hz t b
    rw [hA]
    rcases List.mem_cons.1 hz with e | hz
    · rw [e, hyD, kid_empty, hyp]
      constructor
      · intro h1; cases h1
      · rintro (⟨u, hu, h1, -⟩ | ⟨h1, -⟩)
        · obtain ⟨v, hv1, hv2⟩ := h.par u hu _ _ h1
          exact absurd hv2 (hno v hv1)
        · have := congrArg List.length h1
          simp at this
    · rcases List.mem_cons.1 hz with e | hz
      · rw [e, hD, hp]
        by_cases ht : t = s
        · subst ht
          rw [kid_put_same ((h.each x hx).map.isMap)]
          constructor
          · intro h1; injection h1 with h1; exact .inr ⟨rfl, h1.symm⟩
          · rintro (⟨u, hu, h1, -⟩ | ⟨-, h1⟩)
            · exact absurd h1 (hno u hu)
            · rw [h1]
        · rw [kid_put_other ht, h.kids x hx t b]
          constructor
          · exact .inl
          · rintro (h1 | ⟨h1, -⟩)
            · exact h1
            · exact absurd (app_one h1).2 ht
      · rw [h.kids z (hmem hz).1 t b]
        constructor
        · exact .inl
        · rintro (h1 | ⟨h1, -⟩)
          · exact h1
          · exact absurd (app_one h1).1 (mem_others.1 hz).2
  · intro z hz q t e
    have : ∃ u ∈ T, u.path = q := by
      rcases List.mem_cons.1 hz with e1 | hz
      · rw [e1, hyp] at e
        exact ⟨x, hx, (app_one e).1⟩
      · rcases List.mem_cons.1 hz with e1 | hz
        · rw [e1, hp] at e; exact h.par x hx q t e
        · exact h.par z (hmem hz).1 q t e
    obtain ⟨u, hu, huq⟩ := this
    obtain ⟨u', hu', h1, -⟩ := (hA q u.a).2 (.inl ⟨u, hu, huq, rfl⟩)
    exact ⟨u', hu', h1⟩
  · obtain ⟨u, hu, huq⟩ := h.root
    obtain ⟨u', hu', h1, -⟩ := (hA [] u.a).2 (.inl ⟨u, hu, huq, rfl⟩)
    exact ⟨u', hu', h1⟩
  · intro z hz
    rcases List.mem_cons.1 hz with e | hz
    · rw [e, hyids]; exact List.Pairwise.nil
    · rcases List.mem_cons.1 hz with e | hz
      · rw [e, hids]; exact h.rising x hx
      · exact h.rising z (hmem hz).1
  · intro z hz
    rcases List.mem_cons.1 hz with e | hz
    · rw [e, hyids]; exact Nat.zero_le _
    · rcases List.mem_cons.1 hz with e | hz
      · rw [e, hids]; exact Nat.le_trans (h.few x hx) hsz
      · exact Nat.le_trans (h.few z (hmem hz).1) hsz
end
section
open Go Go.RowKit

/-- does one of two bytes stand in a text? -/
def hasB (l : List UInt8) (a b : Int) : Bool := l.any fun c => (c.toNat : Int) == a || (c.toNat : Int) == b

theorem hasB_nil (a b : Int) : hasB [] a b = false := rfl
theorem hasB_snoc (l : List UInt8) (c : UInt8) (a b : Int) : hasB (l ++ [c]) a b = (hasB l a b || ((c.toNat : Int) == a || (c.toNat : Int) == b)) := by
  simp [hasB]

theorem take_snoc (s : ByteArray) (k : Nat) (h : k < s.size) : s.data.toList.take (k + 1) = s.data.toList.take k ++ [s[k]] := by
  rw [List.take_succ_eq_append_getElem (by simpa using h)]; rfl
theorem take_all (s : ByteArray) : s.data.toList.take s.size = s.data.toList := List.take_of_length_le (by simp)

theorem hasB_hit (s : ByteArray) (k : Nat) (a b : Int) (h : k < s.size) (hc : (((s[k].toNat : Nat) : Int) == a || ((s[k].toNat : Nat) : Int) == b) = true) : hasB s.data.toList a b = true := by
  have e : hasB (s.data.toList.take (k + 1)) a b = true := by rw [take_snoc s k h, hasB_snoc, hc, Bool.or_true]
  unfold hasB at e ⊢
  rw [List.any_eq_true] at e ⊢
  obtain ⟨x, hx, h2⟩ := e
  exact ⟨x, List.mem_of_mem_take hx, h2⟩

theorem hasB_more (s : ByteArray) (k : Nat) (a b : Int) (h : k < s.size) (h0 : hasB (s.data.toList.take k) a b = false)
    (h1 : (((s[k].toNat : Nat) : Int) == a) = false) (h2 : (((s[k].toNat : Nat) : Int) == b) = false) : hasB (s.data.toList.take (k + 1)) a b = false := by
  rw [take_snoc s k h, hasB_snoc, h0, h1, h2]; rfl

/-- a text that may be one of the layer's: not empty, not too long, valid, with no byte 0 -/
def plainB (l : List UInt8) : Bool := !l.isEmpty && decide (l.length ≤ 65535) && Lib.validD l && !hasB l 0 0

/-- what stands between the slashes of a text -/
def splitS : List UInt8 → List (List UInt8)
  | [] => [[]]
  | c :: l => if c == 47 then [] :: splitS l else match splitS l with
    | [] => [[c]]
    | h :: t => (c :: h) :: t

theorem splitS_ne (l : List UInt8) : splitS l ≠ [] := by
  induction l with
  | nil => simp [splitS]
  | cons c l ih =>
    unfold splitS; split
    · simp
    · split <;> simp

theorem splitS_hit (cur rest : List UInt8) (h : ∀ c ∈ cur, c ≠ 47) : splitS (cur ++ 47 :: rest) = cur :: splitS rest := by
  induction cur with
  | nil => simp [splitS]
  | cons c cur ih =>
    have hc : (c == 47) = false := by simpa using h c (by simp)
    have ih' := ih (fun x hx => h x (by simp [hx]))
    simp only [List.cons_append, splitS, hc, ih', Bool.false_eq_true, if_false]

theorem splitS_last (cur : List UInt8) (h : ∀ c ∈ cur, c ≠ 47) : splitS cur = [cur] := by
  induction cur with
  | nil => simp [splitS]
  | cons c cur ih =>
    have hc : (c == 47) = false := by simpa using h c (by simp)
    have ih' := ih (fun x hx => h x (by simp [hx]))
    simp only [splitS, hc, ih', Bool.false_eq_true, if_false]

theorem splitS_len (l : List UInt8) : (splitS l).length ≤ l.length + 1 := by
  induction l with
  | nil => simp [splitS]
  | cons c l ih =>
    unfold splitS; split
    · simp; omega
    · split
      · simp
      · rename_i h t e; rw [e] at ih; simp at ih ⊢; omega

theorem splitS_mem (l : List UInt8) : ∀ x ∈ splitS l, x.length ≤ l.length := by
  induction l with
  | nil => simp [splitS]
  | cons c l ih =>
    unfold splitS; split
    · intro x hx
      rcases List.mem_cons.1 hx with rfl | hx
      · simp
      · have := ih x hx; simp; omega
    · split
      · simp
      · rename_i h t e
        rw [e] at ih
        intro x hx
        rcases List.mem_cons.1 hx with rfl | hx
        · have := ih h (by simp); simp; omega
        · have := ih x (by simp [hx]); simp; omega

/-- a text out of its bytes -/
def ba (l : List UInt8) : ByteArray := ⟨l.toArray⟩
theorem ba_bytes (l : List UInt8) : (ba l).data.toList = l := rfl
theorem ba_toList (l : List UInt8) : (ba l).toList = l := by rw [ByteArray.toList_eq]; rfl
theorem ba_of (s : ByteArray) : ba s.data.toList = s := rfl
theorem ba_of' (s : ByteArray) : ba s.toList = s := by rw [ByteArray.toList_eq]; rfl
theorem bytes_extract (s : ByteArray) (a b : Nat) : (s.extract a b).data.toList = (s.data.toList.drop a).take (b - a) := by
  simp [ByteArray.extract, ByteArray.copySlice]
/-- the levels of a text -/
def levels (s : ByteArray) : List ByteArray := (splitS s.data.toList).map ba
theorem levels_ne (s : ByteArray) : levels s ≠ [] := by simp [levels, splitS_ne]
theorem levels_len (s : ByteArray) : (levels s).length ≤ s.size + 1 := by simpa [levels] using splitS_len s.data.toList

theorem levels_size (s : ByteArray) : ∀ x ∈ levels s, x.size ≤ s.size := by
  intro x hx
  obtain ⟨y, hy, rfl⟩ := List.mem_map.1 hx
  have := splitS_mem _ y hy
  have e : (ba y).size = y.length := by show (ba y).data.size = _; simp [ba]
  simp at this
  omega

/-- one step of the reference's Levels: no slash at k -/
theorem lev_no (s : ByteArray) (a k : Nat) (ha : a ≤ k) (hk : k < s.size) (h : ∀ c ∈ (s.data.toList.drop a).take (k - a), c ≠ 47) (hc : (((s[k].toNat : Nat) : Int) == 47) = false) :
    ∀ c ∈ (s.data.toList.drop a).take (k + 1 - a), c ≠ 47 := by
  intro c hm
  rw [show k + 1 - a = (k - a) + 1 by omega, List.take_add_one] at hm
  rw [List.mem_append] at hm
  rcases hm with hm | hm
  · exact h c hm
  · rw [List.getElem?_drop, show a + (k - a) = k by omega, List.getElem?_eq_getElem (by simpa using hk)] at hm
    simp at hm
    subst hm
    intro e
    have : s[k].toNat = 47 := by show (s.data[k]).toNat = 47; rw [e]; rfl
    rw [this] at hc
    simp at hc

/-- .. a slash at k -/
theorem lev_hit (s : ByteArray) (a k : Nat) (done : List ByteArray) (ha : a ≤ k) (hk : k < s.size) (hd : levels s = done ++ (splitS (s.data.toList.drop a)).map ba)
    (h : ∀ c ∈ (s.data.toList.drop a).take (k - a), c ≠ 47) (hc : (((s[k].toNat : Nat) : Int) == 47) = true) :
    levels s = (done ++ [s.extract a k]) ++ (splitS (s.data.toList.drop (k + 1))).map ba := by
  have hc' : s.data.toList[k]'(by simpa using hk) = 47 := by
    have e : ((s[k].toNat : Nat) : Int) = 47 := by simpa using hc
    have e' : (s.data[k]).toNat = 47 := by show s[k].toNat = 47; omega
    exact UInt8.toNat_inj.1 (by simpa using e')
  have e : s.data.toList.drop a = (s.data.toList.drop a).take (k - a) ++ 47 :: s.data.toList.drop (k + 1) := by
    conv => lhs; rw [← List.take_append_drop (k - a) (s.data.toList.drop a)]
    rw [List.drop_drop, show a + (k - a) = k by omega, List.drop_eq_getElem_cons (i := k) (by simpa using hk), hc']
  rw [hd, e, splitS_hit _ _ h]
  simp only [List.map_cons, List.append_assoc, List.cons_append, List.nil_append]
  congr 2
  rw [← bytes_extract s a k, ba_of]

theorem lev_end (s : ByteArray) (a : Nat) (done : List ByteArray) (hd : levels s = done ++ (splitS (s.data.toList.drop a)).map ba)
    (h : ∀ c ∈ (s.data.toList.drop a).take (s.size - a), c ≠ 47) : levels s = done ++ [s.extract a s.size] := by
  rw [List.take_of_length_le (by simp)] at h
  rw [hd, splitS_last _ h]
  simp only [List.map_cons, List.map_nil]
  congr 2
  have : s.data.toList.drop a = (s.extract a s.size).data.toList := by rw [bytes_extract, List.take_of_length_le (by simp)]
  rw [this, ba_of]

theorem idx_neg (c : UInt8) : ∀ l : List UInt8, Lib.indexByte l c < 0 → ∀ x ∈ l, x ≠ c
  | [], _ => by simp
  | b :: l, h => by
    have hge := Lib.indexByte_ge l c
    unfold Lib.indexByte at h
    split at h
    · omega
    · rename_i hb
      split at h
      · rename_i e
        have e' : Lib.indexByte l c = -1 := by simpa using e
        intro x hx
        rcases List.mem_cons.1 hx with rfl | hx
        · simpa using hb
        · exact idx_neg c l (by omega) x hx
      · rename_i e
        have e' : Lib.indexByte l c ≠ -1 := by simpa using e
        omega

theorem idx_pos (c : UInt8) : ∀ l : List UInt8, 0 ≤ Lib.indexByte l c → ∃ k : Nat, Lib.indexByte l c = k ∧ k < l.length ∧ l = l.take k ++ c :: l.drop (k + 1) ∧ ∀ x ∈ l.take k, x ≠ c
  | [], h => by simp [Lib.indexByte] at h
  | b :: l, h => by
    have hge := Lib.indexByte_ge l c
    unfold Lib.indexByte at h ⊢
    split at h
    · rename_i hb
      have hb' : b = c := by simpa using hb
      subst hb'
      exact ⟨0, by simp, by simp, by simp, by simp⟩
    · rename_i hb
      split at h
      · omega
      · rename_i e
        have e' : Lib.indexByte l c ≠ -1 := by simpa using e
        obtain ⟨k, h1, h2, h3, h4⟩ := idx_pos c l (by omega)
        refine ⟨k + 1, by rw [if_neg hb, if_neg e, h1]; omega, by simp; omega, ?_, ?_⟩
        · simp only [List.take_succ_cons, List.drop_succ_cons, List.cons_append]
          rw [← h3]
        · intro x hx
          rw [List.take_succ_cons] at hx
          rcases List.mem_cons.1 hx with rfl | hx
          · simpa using hb
          · exact h4 x hx

theorem levels_none (t : ByteArray) (h : Lib.indexByte t.data.toList 47 < 0) : levels t = [t] := by
  unfold levels; rw [splitS_last _ (idx_neg 47 _ h)]; rfl
theorem levels_some (t : ByteArray) (h : 0 ≤ Lib.indexByte t.data.toList 47) :
    ∃ k : Nat, Lib.indexByte t.data.toList 47 = k ∧ k < t.size ∧ levels t = t.extract 0 k :: levels (t.extract (k + 1) t.size) := by
  obtain ⟨k, h1, h2, h3, h4⟩ := idx_pos 47 _ h
  refine ⟨k, h1, by simpa using h2, ?_⟩
  have e1 : (t.extract 0 k).data.toList = t.data.toList.take k := by rw [bytes_extract]; simp
  have e2 : (t.extract (k + 1) t.size).data.toList = t.data.toList.drop (k + 1) := by rw [bytes_extract, List.take_of_length_le (by simp)]
  unfold levels
  rw [e2]
  conv => lhs; rw [h3]
  rw [splitS_hit _ _ h4, List.map_cons, ← e1, ba_of]
end
section
open Go Go.RowKit

/-- unicode/utf8's two tables, as their initialisers lay them -/
def Tabs (w : World) : Prop := Lib.Utf8Tabs 0 1 w

def ValidSaid : Prop := ∀ (s : ByteArray) (w : World), s.size ≤ 9223372036854775807 → Tabs w →
  Calls Tryz.prog 45 #[.string s] w fun e w' => e = .returned (.bool (Lib.validD s.data.toList)) ∧ Below w.heap.size w w'

def IndexByteSaid : Prop := ∀ (s : ByteArray) (c : UInt8) (w : World),
  Calls Tryz.prog 90 #[.string s, .int .u8 c.toNat] w fun e w' => e = .returned (.int .i64 (Lib.indexByte s.data.toList c)) ∧ w = w'

def ContainsSaid : Prop := ∀ (s : ByteArray) (w : World), s.size ≤ 1048576 →
  Calls Tryz.prog 44 #[.string s, .string ⟨#[43, 35]⟩] w fun e w' => e = .returned (.bool (hasB s.data.toList 43 35)) ∧ Below w.heap.size w w'

theorem ret_bool {a b : Bool} (h : a = b) : Ending.returned (.bool a) = .returned (.bool b) := by rw [h]
theorem Tabs.below {w w' : World} (h : Tabs w) (hb : Below w.heap.size w w') : Tabs w' := Utf8Tabs_below h hb
end
end Go.Proofs.YtincmegllckcjaaGreatDoor
