/- THE PROGRAM's Common, Meets. -/
import Derived.Test.YtfkbnemhkkbjgaaDoorTopicMeetB
import Derived.Test.YtfkbnemhkkbjgaaDoorTopicRefE
import Derived.Test.YtfkbnemhkkbjgaaDoorTopicCovers
import Derived.Test.YtfkbnemhkkbjgaaDoorTopicJoinShelf
namespace Go.Proofs.YtfkbnemhkkbjgaaDoor
open Go Go.RowKit Go.Lib

theorem extra : Builder.Extra Tryd.prog Tryd.laysn156_ren where
  sizeBuilder := by kernel_rfl
  liesBuilder := by kernel_rfl
  t5 := by kernel_rfl
  a5 := Tryd.isAgg5
  z5 := Tryd.sizeOf5
  v5 := Tryd.zeroValue5
  infoByte := by kernel_rfl
  cellsByte := by kernel_rfl
  sizeByte := by kernel_rfl
  neB5 := by decide

theorem joinS_eq : ∀ l : List (List UInt8), joinS l = Lib.join l [47]
  | [] => rfl
  | [x] => (Lib.join_one x [47]).symm
  | x :: y :: r => by
    show x ++ 47 :: joinS (y :: r) = _
    rw [joinS_eq (y :: r)]
    simp [Lib.join, List.intercalate]

/-- a common name's text -/
def joinB (l : List ByteArray) : ByteArray := ba (joinS (l.map fun x => x.data.toList))

theorem joinS_len (M : Nat) : ∀ l : List ByteArray, (∀ x ∈ l, x.size ≤ M) → (joinS (l.map fun x => x.data.toList)).length ≤ l.length * (M + 1)
  | [], _ => by simp [joinS]
  | [x], h => by have := h x (by simp); simp [joinS]; omega
  | x :: y :: r, h => by
    have h1 := h x (by simp)
    have h2 := joinS_len M (y :: r) (fun z hz => h z (by simp at hz ⊢; exact .inr hz))
    simp only [List.map_cons, joinS, List.length_append, List.length_cons, Array.length_toList] at h2 ⊢
    rw [Nat.succ_mul]
    have h3 : x.data.size = x.size := rfl
    omega

theorem join_any (l : List ByteArray) (v : Value) (w : World) (hS : Sl w v l) (hl : l ≠ []) (hn : l.length ≤ 10000000) (hs : ∀ x ∈ l, x.size ≤ 1048577) :
    Calls Tryd.prog 38 #[v, .string ⟨#[47]⟩] w fun e w' => e = .returned (.string (joinB l)) ∧ Below w.heap.size w w' := by
  obtain ⟨p, cap, rfl, hc1, hc2, hcells⟩ := hS
  obtain ⟨b, o, rfl, hcell⟩ := hcells.resolve_left hl
  have hb : b < w.heap.size := by
    cases l with
    | nil => exact absurd rfl hl
    | cons x r => exact World.block_lt_of_cell? w _ (hcell 0 x rfl)
  have hj := joinS_len 1048577 l hs
  rw [joinS_eq] at hj
  exact Any.strings_Join Tryd.laysn156 extra b o cap l ⟨#[47]⟩ w hcell hb (by omega) hc1 (by
    refine Nat.le_trans hj (Nat.le_trans (Nat.mul_le_mul_right _ hn) (by omega))) |>.mono fun e w' ⟨h1, h2⟩ => ⟨by rw [h1]; unfold joinB ba; rw [joinS_eq], h2⟩

theorem leastB_mem : ∀ (l : List ByteArray) (x : ByteArray), x ∈ leastB l → x ∈ l ∨ x = ⟨#[]⟩
  | [], x, h => by simp [leastB] at h
  | y :: r, x, h => by
    unfold leastB at h; split at h
    · simp at h
    · rcases List.mem_cons.1 h with rfl | h
      · unfold leastV; split
        · exact .inr rfl
        · exact .inl (by simp)
      · exact (leastB_mem r x h).imp (fun h => List.mem_cons_of_mem _ h) id

theorem shortB_mem : ∀ (f g l : List ByteArray), shortB f g = some l → ∀ x ∈ l, (x ∈ f ∨ x ∈ g) ∨ x = ⟨#[]⟩
  | [], [], l, h, x, hx => by simp [shortB] at h; subst h; simp at hx
  | [], y :: g, l, h, x, hx => by
    unfold shortB at h; split at h <;> simp at h; subst h; simp at hx
  | x :: f, [], l, h, z, hx => by
    unfold shortB at h; split at h <;> simp at h; subst h; simp at hx
  | x :: f, y :: g, l, h, z, hz => by
    unfold shortB at h
    split at h
    · simp at h; subst h; exact (leastB_mem _ _ hz).imp .inr id
    · split at h
      · simp at h; subst h; exact (leastB_mem _ _ hz).imp .inl id
      · split at h
        · obtain ⟨r, hr, rfl⟩ := Option.map_eq_some_iff.1 h
          rcases List.mem_cons.1 hz with rfl | hz
          · unfold leastV; split
            · exact .inr rfl
            · exact .inl (.inr (by simp))
          · exact (shortB_mem f g r hr z hz).imp (Or.imp (List.mem_cons_of_mem _) (List.mem_cons_of_mem _)) id
        · split at h
          · obtain ⟨r, hr, rfl⟩ := Option.map_eq_some_iff.1 h
            rcases List.mem_cons.1 hz with rfl | hz
            · exact .inl (.inl (by simp))
            · exact (shortB_mem f g r hr z hz).imp (Or.imp (List.mem_cons_of_mem _) (List.mem_cons_of_mem _)) id
          · simp at h

theorem splitS_hd (l : List UInt8) : ∃ x r, splitS l = x :: r := by
  cases h : splitS l with
  | nil => exact absurd h (splitS_ne l)
  | cons x r => exact ⟨x, r, rfl⟩

theorem wideB_hd (s : ByteArray) : ((wideH s).toList == [35]) = false := by
  unfold wideH wideB
  split
  · simp [ByteArray.toList_eq]
  · split
    · simp [ByteArray.toList_eq]
    · rename_i h _; unfold headS at h; simpa using h
theorem wideB_cons (s : ByteArray) : ∃ r, wideB s = wideH s :: r := by
  unfold wideH
  cases h : wideB s with
  | nil => exact absurd h (wideB_ne s)
  | cons x r => exact ⟨r, rfl⟩
theorem wideB_size (s : ByteArray) : ∀ x ∈ wideB s, x.size ≤ s.size + 1 := by
  intro x hx
  unfold wideB at hx
  split at hx
  · simp at hx; rcases hx with rfl | rfl <;> (show 1 ≤ _; omega)
  · split at hx
    · simp at hx; rcases hx with rfl | rfl | rfl
      · show 0 ≤ _; omega
      · show 1 ≤ _; omega
      · show 1 ≤ _; omega
    · have := levels_size s x hx; omega

theorem shortB_ne {x y : ByteArray} {f g l : List ByteArray} (hx : (x.toList == [35]) = false) (hy : (y.toList == [35]) = false) (h : shortB (x :: f) (y :: g) = some l) : l ≠ [] := by
  unfold shortB at h
  rw [hx, hy] at h
  simp only [Bool.false_eq_true, if_false] at h
  split at h
  · obtain ⟨r, hr, rfl⟩ := Option.map_eq_some_iff.1 h; simp
  · split at h
    · obtain ⟨r, hr, rfl⟩ := Option.map_eq_some_iff.1 h; simp
    · simp at h

/-- the end of Common: the text put together, "a" for none, kept away, too long -/
def comFin (p : Bool) (s : ByteArray) : Option ByteArray := if (dollarB s.data.toList && p) || decide (65535 < s.size) then none else some s
def comB (f g : ByteArray) : Option ByteArray :=
  if filterB f && filterB g then (shortB (wideB f) (wideB g)).bind fun l => comFin ((wideH f).toList == [43] || (wideH g).toList == [43]) (if (joinB l).toList == [] then ⟨#[97]⟩ else joinB l) else none

def ComPost (w : World) (r : Option ByteArray) (e : Ending) (w' : World) : Prop :=
  e = .returned (.tuple #[.string (r.getD ⟨#[]⟩), .bool r.isSome]) ∧ Below w.heap.size w w'
theorem com_none {w w1 : World} {r : Option ByteArray} (hr : r = none) (hb : Below w.heap.size w w1) : ComPost w r (.returned (.tuple #[.string ⟨#[]⟩, .bool false])) w1 := by
  subst hr; exact ⟨rfl, hb⟩
theorem com_some {w w1 : World} {r : Option ByteArray} {s : ByteArray} (hr : r = some s) (hb : Below w.heap.size w w1) : ComPost w r (.returned (.tuple #[.string s, .bool true])) w1 := by
  subst hr; exact ⟨rfl, hb⟩
end Go.Proofs.YtfkbnemhkkbjgaaDoor
