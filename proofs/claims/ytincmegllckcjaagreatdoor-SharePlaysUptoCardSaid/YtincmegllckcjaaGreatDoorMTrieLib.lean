/- TRIE: what the library's functions give at this dump; the topics' functions at any text. TRIE: Add. -/
import Derived.Test.YtincmegllckcjaaGreatDoorTopicShelf
import Derived.Test.YtincmegllckcjaaGreatDoorMTopicContains
import Derived.Test.YtincmegllckcjaaGreatDoorTopicFilter
import Derived.Test.YtincmegllckcjaaGreatDoorMTopicRefC
import Derived.Deep.MidRow
import Derived.Deep.RegionHeld3
import Derived.Test.YtincmegllckcjaaGreatDoorMTrieStep
namespace Go.Proofs.YtincmegllckcjaaGreatDoor
section
open Go Go.RowKit Go.Lib

theorem indexByte_said : IndexByteSaid := fun s c w => by
  have := Any.strings_IndexByte Tryz.laysn137 s c.toNat w
  have e : ((c.toNat : Nat) : Int).toNat.toUInt8 = c := by simp
  rw [e] at this
  exact this.mono fun _ _ ⟨h1, h2⟩ => ⟨h1, h2.symm⟩

theorem valid_said : ValidSaid := fun s w hs hT => Any.utf8_ValidString Tryz.laysn196 s w hs hT

theorem runeAscii : RuneAscii := fun s r w h0 h1 => Any.strings_IndexRune_ascii Tryz.laysn152 s r w h0 h1
theorem runeFar : RuneFar := fun r w h0 h1 => indexRune_far (fun r w => Any.utf8_ValidRune Tryz.laysn119 r w) indexByte_said r w h0 h1
theorem useSet : UseSet := fun n w => Any.strings_shouldUseASCIISet Tryz.laysn226 n w

theorem info_set : (Tryz.prog.info? (Tryz.laysn153_ren.t 116)).map (fun i => (i.zero, i.size)) = some (some (.agg (Array.replicate 256 (.bool false))), 256) := by kernel_rfl

theorem indexAny_sign (l : List UInt8) : decide (0 ≤ Lib.indexAny l [43, 35]) = hasB l 43 35 := by
  induction l with
  | nil => rfl
  | cons b l ih =>
    have e : ([43, 35] : List UInt8).contains b = (((b.toNat : Nat) : Int) == 43 || ((b.toNat : Nat) : Int) == 35) := by
      rw [Lib.contains_iff_indexByte, Bool.eq_iff_iff, decide_eq_true_eq, idx_sign]
    have ge := Lib.indexAny_ge [43, 35] l
    have hc : hasB (b :: l) 43 35 = ((((b.toNat : Nat) : Int) == 43 || ((b.toNat : Nat) : Int) == 35) || hasB l 43 35) := rfl
    rw [hc, ← ih, ← e]
    rw [show Lib.indexAny (b :: l) [43, 35] = if ([43, 35] : List UInt8).contains b then 0 else if Lib.indexAny l [43, 35] == -1 then -1 else Lib.indexAny l [43, 35] + 1 from rfl]
    cases ([43, 35] : List UInt8).contains b
    · simp only [Bool.false_eq_true, if_false, Bool.false_or]
      split
      · rename_i h
        have h' : Lib.indexAny l [43, 35] = -1 := by simpa using h
        rw [h']
      · rename_i h
        have h' : Lib.indexAny l [43, 35] ≠ -1 := by simpa using h
        rw [Bool.eq_iff_iff, decide_eq_true_eq, decide_eq_true_eq]; omega
    · simp

theorem contains_said : ContainsSaid := fun s w hs => by
  have c : Calls Tryz.prog 75 #[.string s, .string ⟨#[43, 35]⟩] w (AnyPost s w) := by
    by_cases h8 : s.size ≤ 8
    · exact indexAny_short runeAscii runeFar useSet s w h8
    · refine (Any.strings_IndexAny_long Tryz.laysn153 (zero_of_info info_set).1 (zero_of_info info_set).2 s ⟨#[43, 35]⟩ w (by decide) (by omega) (by omega) (by decide) (by
        intro j b hj
        match j, hj with
        | 0, hj => simp at hj; subst hj; decide
        | 1, hj => simp at hj; subst hj; decide)).mono ?_
      rintro e w' ⟨rfl, rfl⟩
      exact ⟨_, rfl, indexAny_sign _, ((Below.refl _ w).alloc (Nat.le_refl _) _).alloc (by simp) _⟩
  have CC := Lib.hid c
  clear c
  go_enter Tryz.func44, Tryz.ntmps44
  go_wp2_with fail
  refine CC.out.mono ?_
  rintro e w' ⟨i, rfl, hs, hb⟩
  have HS := Lib.hid hs
  clear hs
  go_wp2
  go_ret
  exact ⟨ret_bool HS.out, hb⟩
end
section
open Go Go.RowKit

structure AddSt (w : World) (base sz t : Nat) (T T' : List Nd) (n : Int) (L : List ByteArray) (i : Nat) (wr : World) : Prop where
  tri : Tri wr base (sz + i) t T' n
  stands : ∀ p z, IdAt T' p z ↔ IdAt T p z
  lean : Lean_ T' (fun p => p = L.take i)
  frame : Frame (fun b => b = t ∨ foot T b) w wr
  feet : ∀ b, foot T' b → foot T b ∨ w.heap.size ≤ b
theorem foot_others {T : List Nd} {x x' : Nd} (hx : x ∈ T) (hb : x'.blocks = x.blocks) {b : Nat} (h : foot (x' :: others T x.path) b) : foot T b := by
  obtain ⟨y, hy, hby⟩ := h
  rcases List.mem_cons.1 hy with e | hy
  · subst e; exact ⟨x, hx, hb ▸ hby⟩
  · exact ⟨y, (mem_others.1 hy).1, hby⟩
/-- the next child is there -/
theorem AddSt.down {w wr : World} {base sz t : Nat} {T T' : List Nd} {n : Int} {L : List ByteArray} {i : Nat} (h : AddSt w base sz t T T' n L i wr) {x : Nd} (hx : x ∈ T') (hp : x.path = L.take i) {s : ByteArray} (hs : L[i]? = some s) {b : Nat} (hk : kid x.D s = some b) :
    ∃ y ∈ T', y.path = L.take (i + 1) ∧ y.a = b ∧ AddSt w base sz t T T' n L (i + 1) wr := by
  obtain ⟨y, hy, h1, h2⟩ := (h.tri.is.kids x hx s b).1 hk
  have hL : L.take (i + 1) = L.take i ++ [s] := by rw [List.take_add_one, hs]; rfl
  refine ⟨y, hy, by rw [h1, hp, hL], h2, ⟨h.tri.is.more (by omega), h.tri.root, h.tri.bt, h.tri.free⟩, h.stands, fun z hz h0 hE => ?_, h.frame, h.feet⟩
  by_cases e : z.path = L.take i
  · exact .inr ⟨y, hy, s, by rw [h1, hp, e]⟩
  · exact h.lean z hz h0 e
set_option maxRecDepth 100000 in
/-- the next child is made -/
theorem AddSt.make {w wr w2 : World} {base sz t : Nat} {T T' : List Nd} {n : Int} {L : List ByteArray} {i : Nat} (h : AddSt w base sz t T T' n L i wr) {x : Nd} (hx : x ∈ T') (hp : x.path = L.take i) {s : ByteArray} (hs : L[i]? = some s) (hk : kid x.D s = none)
    (hown : w2.ownsMap Tryz.prog 9 ptrR x.m (sz + i + 1) (x.D.put (.string s.data.toList) (kidD (wr.heap.size + 1)))) (hturn : (newW wr).mapTurned w2 x.m) :
    AddSt w base sz t T (newNd wr (L.take (i + 1)) :: { x with D := x.D.put (.string s.data.toList) (kidD (wr.heap.size + 1)) } :: others T' x.path) n L (i + 1) w2 := by
  have hL : L.take (i + 1) = L.take i ++ [s] := by rw [List.take_add_one, hs]; rfl
  have hxl := fun b hb => (h.tri.is.each x hx).lt (b := b) hb
  have hg := hturn.grown
  have hml : x.m < wr.heap.size := (hxl x.m (by simp [mem_blocks])).2
  have hbase : base ≤ wr.heap.size := by have := hxl x.m (by simp [mem_blocks]); omega
  have hsz : (newW wr).heap.size = wr.heap.size + 2 := by simp [newW]
  have hold : ∀ b, b < wr.heap.size → b ≠ x.m → w2.heap[b]? = wr.heap[b]? := fun b hb hne => (hg.block b (by omega) (fun e => hne (by injection e))).trans ((newW_below wr).block b hb)
  have hxb := blocks_nodup.1 (blocks_of h.tri.is.blocks hx)
  have hnx : NdIs w2 base (sz + i + 1) { x with D := x.D.put (.string s.data.toList) (kidD (wr.heap.size + 1)) } := by
    have h0 := h.tri.is.each x hx
    refine ⟨(hold x.a (hxl x.a (by simp [mem_blocks])).2 hxb.1).trans h0.box, hown, ?_, h0.ba, h0.bm⟩
    refine ⟨h0.row.1, ?_⟩
    rcases h0.row.2 with hn | ⟨g, cap, cur, e, hb, hgg, rest⟩
    · exact .inl hn
    · have hvg : x.v.ownBlock = some g := by rw [e]; rfl
      exact .inr ⟨g, cap, cur, e, hb, (hold g (hxl g (by simp [mem_blocks, hvg])).2 (fun e => hxb.2.2 (by rw [hvg, e]))).trans hgg, rest⟩
  have hny : NdIs w2 base (sz + i + 1) (newNd wr (L.take (i + 1))) := (newNd_is wr _ base _ hbase).kept fun b hb => by
    have hbl : wr.heap.size ≤ b ∧ b < wr.heap.size + 2 := by
      rw [mem_blocks] at hb
      rcases hb with e | e | e
      · rw [e]; exact ⟨Nat.le_succ _, Nat.lt_succ_self _⟩
      · rw [e]; exact ⟨Nat.le_refl _, by show wr.heap.size < wr.heap.size + 2; omega⟩
      · cases e
    exact hg.block b (by omega) (fun e => by injection e with e; omega)
  have hT : TrieIs w2 base (sz + i + 1) (newNd wr (L.take (i + 1)) :: { x with D := x.D.put (.string s.data.toList) (kidD (wr.heap.size + 1)) } :: others T' x.path) :=
    h.tri.is.addKid hx hk rfl rfl rfl rfl rfl rfl hnx hny (by show L.take (i + 1) = _; rw [hL, hp]) rfl rfl rfl (by show wr.heap.size ≤ wr.heap.size + 1; omega) (Nat.le_refl _) (by show wr.heap.size + 1 ≠ wr.heap.size; omega) (by omega) (fun z hz b hb => by
      have hz' := mem_others.1 hz
      have hlt := ((h.tri.is.each z hz'.1).lt hb).2
      refine hold b hlt (fun e => ?_)
      exact apart_of h.tri.is.blocks hz'.1 hx (fun e2 => hz'.2 (by rw [e2])) b hb (by rw [e]; simp [mem_blocks]))
  have hfoot : ∀ b, foot (newNd wr (L.take (i + 1)) :: { x with D := x.D.put (.string s.data.toList) (kidD (wr.heap.size + 1)) } :: others T' x.path) b → foot T' b ∨ wr.heap.size ≤ b := by
    rintro b ⟨y, hy, hb⟩
    rcases List.mem_cons.1 hy with e | hy
    · right
      rw [e, mem_blocks] at hb
      rcases hb with e | e | e
      · rw [e]; show wr.heap.size ≤ wr.heap.size + 1; omega
      · rw [e]; exact Nat.le_refl _
      · cases e
    · exact .inl (foot_others (x' := { x with D := x.D.put (.string s.data.toList) (kidD (wr.heap.size + 1)) }) hx rfl ⟨y, hy, hb⟩)
  have hfr : Frame (fun b => b = t ∨ foot T b) w w2 := h.frame.trans ⟨hg.os.trans (newW_below wr).os, hg.tape.trans (newW_below wr).tape, hg.output.trans (newW_below wr).output, Nat.le_trans (newW_below wr).size hg.size, fun b hb hF => hold b hb (fun e => by
    subst e
    rcases h.feet x.m ⟨x, hx, by simp [mem_blocks]⟩ with h1 | h1
    · exact hF (.inl (.inr h1))
    · exact hF (.inr h1))⟩
  have hT0 : t ≠ x.m := fun e => h.tri.free (e ▸ ⟨x, hx, by simp [mem_blocks]⟩)
  refine ⟨⟨hT, ?_, h.tri.bt, ?_⟩, ?_, ?_, hfr, ?_⟩
  · obtain ⟨r, hr, hr0, hrt⟩ := h.tri.root
    have hrt2 := (hold t h.tri.lt hT0).trans hrt
    by_cases e : r.path = x.path
    · obtain rfl := h.tri.is.one hr hx e
      exact ⟨_, List.mem_cons_of_mem _ (List.mem_cons_self ..), hr0, hrt2⟩
    · exact ⟨r, List.mem_cons_of_mem _ (List.mem_cons_of_mem _ (mem_others.2 ⟨hr, e⟩)), hr0, hrt2⟩
  · intro hf
    rcases hfoot t hf with h1 | h1
    · exact h.tri.free h1
    · have := h.tri.lt; omega
  · intro p z
    rw [← h.stands]
    constructor
    · rintro ⟨y, hy, h1, h2⟩
      rcases List.mem_cons.1 hy with e | hy
      · subst e; cases h2
      · rcases List.mem_cons.1 hy with e | hy
        · subst e; exact ⟨x, hx, h1, h2⟩
        · exact ⟨y, (mem_others.1 hy).1, h1, h2⟩
    · rintro ⟨y, hy, h1, h2⟩
      by_cases e : y.path = x.path
      · obtain rfl := h.tri.is.one hy hx e
        exact ⟨_, List.mem_cons_of_mem _ (List.mem_cons_self ..), h1, h2⟩
      · exact ⟨y, List.mem_cons_of_mem _ (List.mem_cons_of_mem _ (mem_others.2 ⟨hy, e⟩)), h1, h2⟩
  · intro z hz h0 hE
    have hpath : ∀ u ∈ T', ∃ u' ∈ newNd wr (L.take (i + 1)) :: { x with D := x.D.put (.string s.data.toList) (kidD (wr.heap.size + 1)) } :: others T' x.path, u'.path = u.path := fun u hu => by
      by_cases e : u.path = x.path
      · exact ⟨_, List.mem_cons_of_mem _ (List.mem_cons_self ..), e.symm⟩
      · exact ⟨u, List.mem_cons_of_mem _ (List.mem_cons_of_mem _ (mem_others.2 ⟨hu, e⟩)), rfl⟩
    rcases List.mem_cons.1 hz with e | hz
    · subst e; exact absurd rfl hE
    · rcases List.mem_cons.1 hz with e | hz
      · subst e; exact .inr ⟨_, List.mem_cons_self .., s, by show L.take (i + 1) = x.path ++ [s]; rw [hL, hp]⟩
      · obtain ⟨hz1, hz2⟩ := mem_others.1 hz
        rcases h.lean z hz1 h0 (fun e => hz2 (by rw [e, hp])) with h1 | ⟨u, hu, t', ht⟩
        · exact .inl h1
        · obtain ⟨u', hu', e⟩ := hpath u hu
          exact .inr ⟨u', hu', t', by rw [e, ht]⟩
  · intro b hb
    rcases hfoot b hb with h1 | h1
    · exact h.feet b h1
    · exact .inr (Nat.le_trans h.frame.size h1)
end
end Go.Proofs.YtincmegllckcjaaGreatDoor
