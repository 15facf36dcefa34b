/- PLAIN: the words of the topics' layer on lists of bytes. No program stands in this text. -/
import Derived.WalkKit
import Derived.Lib.ValidU
import Derived.Lib.Bytealg
namespace Go.Proofs.YtflomcbclofbaaaDoor
open Go Go.RowKit

/-- does one of two bytes stand in a text? -/
def hasB (l : List UInt8) (a b : Int) : Bool := l.any fun c => (c.toNat : Int) == a || (c.toNat : Int) == b

theorem hasB_nil (a b : Int) : hasB [] a b = false := rfl
theorem hasB_snoc (l : List UInt8) (c : UInt8) (a b : Int) : hasB (l ++ [c]) a b = (hasB l a b || ((c.toNat : Int) == a || (c.toNat : Int) == b)) := by
  simp [hasB]

theorem take_snoc (s : ByteArray) (k : Nat) (h : k < s.size) : s.data.toList.take (k + 1) = s.data.toList.take k ++ [s[k]] := by
  rw [List.take_succ_eq_append_getElem (by simpa using h)]; rfl
theorem take_all (s : ByteArray) : s.data.toList.take s.size = s.data.toList := List.take_of_length_le (by simp)

theorem hasB_hit (s : ByteArray) (k : Nat) (a b : Int) (h : k < s.size) (hc : (((s[k].toNat : Nat) : Int) == a || ((s[k].toNat : Nat) : Int) == b) = true) : hasB s.data.toList a b = true := by
  have e : hasB (s.data.toList.take (k + 1)) a b = true := by rw [take_snoc s k h, hasB_snoc, hc, Bool.or_true]
  unfold hasB at e ⊢
  rw [List.any_eq_true] at e ⊢
  obtain ⟨x, hx, h2⟩ := e
  exact ⟨x, List.mem_of_mem_take hx, h2⟩

theorem hasB_more (s : ByteArray) (k : Nat) (a b : Int) (h : k < s.size) (h0 : hasB (s.data.toList.take k) a b = false)
    (h1 : (((s[k].toNat : Nat) : Int) == a) = false) (h2 : (((s[k].toNat : Nat) : Int) == b) = false) : hasB (s.data.toList.take (k + 1)) a b = false := by
  rw [take_snoc s k h, hasB_snoc, h0, h1, h2]; rfl

/-- a text that may be one of the layer's: not empty, not too long, valid, with no byte 0 -/
def plainB (l : List UInt8) : Bool := !l.isEmpty && decide (l.length ≤ 65535) && Lib.validD l && !hasB l 0 0

/-- what stands between the slashes of a text -/
def splitS : List UInt8 → List (List UInt8)
  | [] => [[]]
  | c :: l => if c == 47 then [] :: splitS l else match splitS l with
    | [] => [[c]]
    | h :: t => (c :: h) :: t

theorem splitS_ne (l : List UInt8) : splitS l ≠ [] := by
  induction l with
  | nil => simp [splitS]
  | cons c l ih =>
    unfold splitS; split
    · simp
    · split <;> simp

theorem splitS_hit (cur rest : List UInt8) (h : ∀ c ∈ cur, c ≠ 47) : splitS (cur ++ 47 :: rest) = cur :: splitS rest := by
  induction cur with
  | nil => simp [splitS]
  | cons c cur ih =>
    have hc : (c == 47) = false := by simpa using h c (by simp)
    have ih' := ih (fun x hx => h x (by simp [hx]))
    simp only [List.cons_append, splitS, hc, ih', Bool.false_eq_true, if_false]

theorem splitS_last (cur : List UInt8) (h : ∀ c ∈ cur, c ≠ 47) : splitS cur = [cur] := by
  induction cur with
  | nil => simp [splitS]
  | cons c cur ih =>
    have hc : (c == 47) = false := by simpa using h c (by simp)
    have ih' := ih (fun x hx => h x (by simp [hx]))
    simp only [splitS, hc, ih', Bool.false_eq_true, if_false]

theorem splitS_len (l : List UInt8) : (splitS l).length ≤ l.length + 1 := by
  induction l with
  | nil => simp [splitS]
  | cons c l ih =>
    unfold splitS; split
    · simp; omega
    · split
      · simp
      · rename_i h t e; rw [e] at ih; simp at ih ⊢; omega

theorem splitS_mem (l : List UInt8) : ∀ x ∈ splitS l, x.length ≤ l.length := by
  induction l with
  | nil => simp [splitS]
  | cons c l ih =>
    unfold splitS; split
    · intro x hx
      rcases List.mem_cons.1 hx with rfl | hx
      · simp
      · have := ih x hx; simp; omega
    · split
      · simp
      · rename_i h t e
        rw [e] at ih
        intro x hx
        rcases List.mem_cons.1 hx with rfl | hx
        · have := ih h (by simp); simp; omega
        · have := ih x (by simp [hx]); simp; omega

/-- a text out of its bytes -/
def ba (l : List UInt8) : ByteArray := ⟨l.toArray⟩
theorem ba_bytes (l : List UInt8) : (ba l).data.toList = l := rfl
theorem ba_toList (l : List UInt8) : (ba l).toList = l := by rw [ByteArray.toList_eq]; rfl
theorem ba_of (s : ByteArray) : ba s.data.toList = s := rfl
theorem ba_of' (s : ByteArray) : ba s.toList = s := by rw [ByteArray.toList_eq]; rfl
theorem bytes_extract (s : ByteArray) (a b : Nat) : (s.extract a b).data.toList = (s.data.toList.drop a).take (b - a) := by
  simp [ByteArray.extract, ByteArray.copySlice]
/-- the levels of a text -/
def levels (s : ByteArray) : List ByteArray := (splitS s.data.toList).map ba
theorem levels_ne (s : ByteArray) : levels s ≠ [] := by simp [levels, splitS_ne]
theorem levels_len (s : ByteArray) : (levels s).length ≤ s.size + 1 := by simpa [levels] using splitS_len s.data.toList

theorem levels_size (s : ByteArray) : ∀ x ∈ levels s, x.size ≤ s.size := by
  intro x hx
  obtain ⟨y, hy, rfl⟩ := List.mem_map.1 hx
  have := splitS_mem _ y hy
  have e : (ba y).size = y.length := by show (ba y).data.size = _; simp [ba]
  simp at this
  omega

/-- one step of the reference's Levels: no slash at k -/
theorem lev_no (s : ByteArray) (a k : Nat) (ha : a ≤ k) (hk : k < s.size) (h : ∀ c ∈ (s.data.toList.drop a).take (k - a), c ≠ 47) (hc : (((s[k].toNat : Nat) : Int) == 47) = false) :
    ∀ c ∈ (s.data.toList.drop a).take (k + 1 - a), c ≠ 47 := by
  intro c hm
  rw [show k + 1 - a = (k - a) + 1 by omega, List.take_add_one] at hm
  rw [List.mem_append] at hm
  rcases hm with hm | hm
  · exact h c hm
  · rw [List.getElem?_drop, show a + (k - a) = k by omega, List.getElem?_eq_getElem (by simpa using hk)] at hm
    simp at hm
    subst hm
    intro e
    have : s[k].toNat = 47 := by show (s.data[k]).toNat = 47; rw [e]; rfl
    rw [this] at hc
    simp at hc

/-- .. a slash at k -/
theorem lev_hit (s : ByteArray) (a k : Nat) (done : List ByteArray) (ha : a ≤ k) (hk : k < s.size) (hd : levels s = done ++ (splitS (s.data.toList.drop a)).map ba)
    (h : ∀ c ∈ (s.data.toList.drop a).take (k - a), c ≠ 47) (hc : (((s[k].toNat : Nat) : Int) == 47) = true) :
    levels s = (done ++ [s.extract a k]) ++ (splitS (s.data.toList.drop (k + 1))).map ba := by
  have hc' : s.data.toList[k]'(by simpa using hk) = 47 := by
    have e : ((s[k].toNat : Nat) : Int) = 47 := by simpa using hc
    have e' : (s.data[k]).toNat = 47 := by show s[k].toNat = 47; omega
    exact UInt8.toNat_inj.1 (by simpa using e')
  have e : s.data.toList.drop a = (s.data.toList.drop a).take (k - a) ++ 47 :: s.data.toList.drop (k + 1) := by
    conv => lhs; rw [← List.take_append_drop (k - a) (s.data.toList.drop a)]
    rw [List.drop_drop, show a + (k - a) = k by omega, List.drop_eq_getElem_cons (i := k) (by simpa using hk), hc']
  rw [hd, e, splitS_hit _ _ h]
  simp only [List.map_cons, List.append_assoc, List.cons_append, List.nil_append]
  congr 2
  rw [← bytes_extract s a k, ba_of]

theorem lev_end (s : ByteArray) (a : Nat) (done : List ByteArray) (hd : levels s = done ++ (splitS (s.data.toList.drop a)).map ba)
    (h : ∀ c ∈ (s.data.toList.drop a).take (s.size - a), c ≠ 47) : levels s = done ++ [s.extract a s.size] := by
  rw [List.take_of_length_le (by simp)] at h
  rw [hd, splitS_last _ h]
  simp only [List.map_cons, List.map_nil]
  congr 2
  have : s.data.toList.drop a = (s.extract a s.size).data.toList := by rw [bytes_extract, List.take_of_length_le (by simp)]
  rw [this, ba_of]

theorem idx_neg (c : UInt8) : ∀ l : List UInt8, Lib.indexByte l c < 0 → ∀ x ∈ l, x ≠ c
  | [], _ => by simp
  | b :: l, h => by
    have hge := Lib.indexByte_ge l c
    unfold Lib.indexByte at h
    split at h
    · omega
    · rename_i hb
      split at h
      · rename_i e
        have e' : Lib.indexByte l c = -1 := by simpa using e
        intro x hx
        rcases List.mem_cons.1 hx with rfl | hx
        · simpa using hb
        · exact idx_neg c l (by omega) x hx
      · rename_i e
        have e' : Lib.indexByte l c ≠ -1 := by simpa using e
        omega

theorem idx_pos (c : UInt8) : ∀ l : List UInt8, 0 ≤ Lib.indexByte l c → ∃ k : Nat, Lib.indexByte l c = k ∧ k < l.length ∧ l = l.take k ++ c :: l.drop (k + 1) ∧ ∀ x ∈ l.take k, x ≠ c
  | [], h => by simp [Lib.indexByte] at h
  | b :: l, h => by
    have hge := Lib.indexByte_ge l c
    unfold Lib.indexByte at h ⊢
    split at h
    · rename_i hb
      have hb' : b = c := by simpa using hb
      subst hb'
      exact ⟨0, by simp, by simp, by simp, by simp⟩
    · rename_i hb
      split at h
      · omega
      · rename_i e
        have e' : Lib.indexByte l c ≠ -1 := by simpa using e
        obtain ⟨k, h1, h2, h3, h4⟩ := idx_pos c l (by omega)
        refine ⟨k + 1, by rw [if_neg hb, if_neg e, h1]; omega, by simp; omega, ?_, ?_⟩
        · simp only [List.take_succ_cons, List.drop_succ_cons, List.cons_append]
          rw [← h3]
        · intro x hx
          rw [List.take_succ_cons] at hx
          rcases List.mem_cons.1 hx with rfl | hx
          · simpa using hb
          · exact h4 x hx

theorem levels_none (t : ByteArray) (h : Lib.indexByte t.data.toList 47 < 0) : levels t = [t] := by
  unfold levels; rw [splitS_last _ (idx_neg 47 _ h)]; rfl
theorem levels_some (t : ByteArray) (h : 0 ≤ Lib.indexByte t.data.toList 47) :
    ∃ k : Nat, Lib.indexByte t.data.toList 47 = k ∧ k < t.size ∧ levels t = t.extract 0 k :: levels (t.extract (k + 1) t.size) := by
  obtain ⟨k, h1, h2, h3, h4⟩ := idx_pos 47 _ h
  refine ⟨k, h1, by simpa using h2, ?_⟩
  have e1 : (t.extract 0 k).data.toList = t.data.toList.take k := by rw [bytes_extract]; simp
  have e2 : (t.extract (k + 1) t.size).data.toList = t.data.toList.drop (k + 1) := by rw [bytes_extract, List.take_of_length_le (by simp)]
  unfold levels
  rw [e2]
  conv => lhs; rw [h3]
  rw [splitS_hit _ _ h4, List.map_cons, ← e1, ba_of]
end Go.Proofs.YtflomcbclofbaaaDoor
