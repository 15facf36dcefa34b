/- WHAT THE LIBRARY's FUNCTIONS GIVE AT THIS DUMP, in the words of scan. -/
import Derived.Test.YtmbejmhnoeoohaaDoorScanShelf
import Derived.Test.YtmbejmhnoeoohaaDoorScanRefUnquote
import Derived.WalkSmall
namespace Go.Proofs.YtmbejmhnoeoohaaDoor
open Go Go.RowKit Go.Lib

/-- what the walks ask of the package-level variables: the table of words; internal/bytealg.MaxLen is some number -/
def Env (w : World) : Prop := Words w ∧ ∃ m, w.cell? ⟨1, 0, none⟩ = some (.int .i64 m)
theorem Env.below {w w' : World} (h : Env w) (hb : Below w.heap.size w w') : Env w' := by
  obtain ⟨h1, m, h2⟩ := h
  exact ⟨h1.below hb, m, (hb.cell (World.block_lt_of_cell? w _ h2)).trans h2⟩
theorem Env.keep {w w' : World} (h : Env w) (hk : ∀ a : Addr, a.block = 0 ∨ a.block = 1 → w'.cell? a = w.cell? a) : Env w' := by
  obtain ⟨h1, m, h2⟩ := h
  exact ⟨fun j v hv => (hk _ (.inl rfl)).trans (h1 j v hv), m, (hk _ (.inr rfl)).trans h2⟩

theorem lineS_idx : ∀ l : List UInt8, (Lib.indexByte l 10 < 0 → lineS l = l.length) ∧ (0 ≤ Lib.indexByte l 10 → Lib.indexByte l 10 = (lineS l : Nat))
  | [] => by simp [Lib.indexByte, lineS]
  | b :: l => by
    have ih := lineS_idx l
    have hg := Lib.indexByte_ge l 10
    unfold Lib.indexByte lineS
    by_cases hb : b = 10
    · subst hb; simp
    · have hb' : (b == 10) = false := by simpa using hb
      rw [hb', if_neg hb]
      simp only [Bool.false_eq_true, if_false]
      by_cases h1 : Lib.indexByte l 10 = -1
      · have h1' : (Lib.indexByte l 10 == -1) = true := by simpa using h1
        rw [h1']
        simp only [if_true]
        refine ⟨fun _ => by rw [ih.1 (by omega)]; simp, fun h => by omega⟩
      · have h1' : (Lib.indexByte l 10 == -1) = false := by simpa using h1
        rw [h1']
        simp only [Bool.false_eq_true, if_false]
        refine ⟨fun h => by omega, fun _ => by have := ih.2 (by omega); omega⟩

theorem cmtS_idx : ∀ l : List UInt8, (Lib.index l [42, 47] < 0 → cmtS l = none) ∧ (∀ i : Nat, Lib.index l [42, 47] = (i : Nat) → cmtS l = some (i + 2))
  | [] => by simp [Lib.index, cmtS]
  | b :: l => by
    have ih := cmtS_idx l
    have hg := Lib.index_ge l [42, 47]
    rw [cmtS_cons]
    unfold Lib.index
    have hp : ([42, 47] : List UInt8).isPrefixOf (b :: l) = true ↔ b = 42 ∧ l.head? = some 47 := by
      cases l with
      | nil => simp [List.isPrefixOf]
      | cons c t => simp [List.isPrefixOf]; exact ⟨fun h => ⟨h.1.symm, h.2.symm⟩, fun h => ⟨h.1.symm, h.2.symm⟩⟩
    by_cases h : b = 42 ∧ l.head? = some 47
    · rw [if_pos h, if_pos (hp.2 h)]
      refine ⟨fun h => by omega, fun i hi => ?_⟩
      have : i = 0 := by omega
      subst this; rfl
    · rw [if_neg h, if_neg (fun hh => h (hp.1 hh))]
      by_cases h1 : Lib.index l [42, 47] = -1
      · rw [if_pos (by simpa using h1)]
        refine ⟨fun _ => by rw [ih.1 (by omega)]; rfl, fun i hi => by omega⟩
      · rw [if_neg (by simpa using h1)]
        refine ⟨fun h => by omega, fun i hi => ?_⟩
        rw [ih.2 (i - 1) (by omega)]
        simp; omega

theorem indexByte_any (v : Value) (l : List UInt8) (w : World) (hV : Bs w v l) (hl : 0 < l.length) :
    Calls Tryd.prog 33 #[v, .int .u8 10] w fun e w' => e = .returned (.int .i64 (Lib.indexByte l 10)) ∧ w = w' := by
  obtain ⟨b, o, cap, rfl, _⟩ := hV.form hl
  have := Any.bytes_IndexByte Tryd.laysn187 b o l.length cap (numsI l) 10 w (numsI_len l) (fun i hi => hV.cellsI i hi)
  rw [bytesOf_nums] at this
  exact this.mono fun _ _ ⟨h1, h2⟩ => ⟨h1, h2.symm⟩

theorem hasPrefix_any (v v2 : Value) (l l2 : List UInt8) (w : World) (hV : Bs w v l) (hV2 : Bs w v2 l2) :
    Calls Tryd.prog 34 #[v, v2] w fun e w' => e = .returned (.bool (l2.isPrefixOf l)) ∧ w = w' := by
  obtain ⟨p, cap, rfl, h1, h2, _⟩ := id hV
  obtain ⟨p2, cap2, rfl, _⟩ := id hV2
  have := Any.bytes_HasPrefix_all Tryd.laysnb116 p p2 l.length cap l2.length cap2 (numsI l) (numsI l2) w (numsI_len l) (numsI_len l2) h1 hV.in_ hV2.in_
  rw [bytesOf_nums, bytesOf_nums] at this
  exact this.mono fun _ _ ⟨h1, h2⟩ => ⟨h1, h2.symm⟩

theorem index_any (b o n cap : Nat) (v2 : Value) (l l2 : List UInt8) (w : World) (hE : Env w) (hV : Bs w (.slice (some ⟨b, o, none⟩) n cap) l) (hV2 : Bs w v2 l2) (hl2 : 0 < l2.length) (hl : l.length ≤ 1048577) (hl2' : l2.length ≤ 1048577) :
    Calls Tryd.prog 35 #[.slice (some ⟨b, o, none⟩) n cap, v2] w fun e w' => e = .returned (.int .i64 (Lib.index l l2)) ∧ Below w.heap.size w w' := by
  obtain ⟨e, h1, h2⟩ := hV.len
  subst e
  obtain ⟨b2, o2, cap2, rfl, _⟩ := hV2.form hl2
  obtain ⟨_, m, hm⟩ := hE
  have hadd : ∀ (b o i : Nat), (⟨b, o, none⟩ : Addr).add i = ⟨b, o + i, none⟩ := fun b o i => by unfold Addr.add; split <;> simp_all
  have := Any.bytes_Index_at Tryd.laysn185 ⟨b, o, none⟩ ⟨b2, o2, none⟩ l.length cap l2.length cap2 (numsI l) (numsI l2) m w (numsI_len l) (numsI_len l2) (numsI_range l) (numsI_range l2)
    (fun i hi => by rw [hadd]; exact hV.cellsI i hi) (fun i hi => by rw [hadd]; exact hV2.cellsI i hi) h1 (by omega) (by omega) hm
  rw [bytesOf_nums, bytesOf_nums] at this
  exact this.mono fun e w' ⟨h1, q, h2⟩ => ⟨h1, by subst h2; exact below_drewN (Below.refl _ _) q⟩

theorem count_any (v v2 : Value) (l : List UInt8) (w : World) (hV : Bs w v l) (hV2 : Bs w v2 [10]) (hv : v = .slice none 0 0 ∨ ∃ a n c, v = .slice (some a) n c) :
    Calls Tryd.prog 30 #[v, v2] w fun e w' => e = .returned (.int .i64 (l.count 10 : Nat)) ∧ w = w' := by
  obtain ⟨b2, o2, cap2, rfl, _⟩ := hV2.form (by simp)
  have hc2 := hV2.cell (i := 0) (x := 10) rfl
  rcases hv with rfl | ⟨a, n, c, rfl⟩
  · obtain ⟨e, _, _⟩ := hV.len
    have : l = [] := List.eq_nil_of_length_eq_zero e.symm
    subst this
    have := Any.bytes_Count_one_nil Tryd.laysn13 b2 o2 cap2 10 w hc2
    exact this.mono fun _ _ ⟨h1, h2⟩ => ⟨h1, h2.symm⟩
  · obtain ⟨e, h1, h2⟩ := hV.len
    subst e
    have := Any.bytes_Count_one_at Tryd.laysn13 a l.length c b2 o2 cap2 (numsI l) 10 w (numsI_len l) (fun i hi => by
      obtain ⟨b, o, cap, hv, _⟩ := hV.form (by omega)
      injection hv with e1 _ _
      injection e1 with e1
      subst e1
      have hadd : ∀ (b o i : Nat), (⟨b, o, none⟩ : Addr).add i = ⟨b, o + i, none⟩ := fun b o i => by unfold Addr.add; split <;> simp_all
      rw [hadd]
      exact hV.cellsI i hi) hc2
    rw [bytesOf_nums] at this
    exact this.mono fun _ _ ⟨h1, h2⟩ => ⟨h1, h2.symm⟩
end Go.Proofs.YtmbejmhnoeoohaaDoor
