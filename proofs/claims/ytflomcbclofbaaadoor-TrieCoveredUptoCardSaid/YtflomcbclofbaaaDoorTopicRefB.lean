/- THE REFERENCE's functions on rows of texts, walked. -/
import Derived.WalkKit
import Derived.Lib.Hide
import Derived.Deep.QuietTactic
import Derived.BigQuiet
import Derived.Maps.AppendAt
import Derived.Test.YtflomcbclofbaaaDoorTopicBase
namespace Go.Proofs.YtflomcbclofbaaaDoor
open Go Go.RowKit

/-- a slice value reads as a list of texts -/
def Sl (w : World) (v : Value) (l : List ByteArray) : Prop :=
  ∃ p cap, v = .slice p l.length cap ∧ l.length ≤ cap ∧ cap ≤ 9223372036854775807 ∧ (l = [] ∨ ∃ b o, p = some ⟨b, o, none⟩ ∧ ∀ (j : Nat) x, l[j]? = some x → w.cell? ⟨b, o + j, none⟩ = some (.string x))

/-- the rest of a slice, as the walk spells it -/
theorem Sl.rest {w : World} {b o cap : Nat} {x : ByteArray} {l : List ByteArray} (hc : (x :: l).length ≤ cap) (hm : cap ≤ 9223372036854775807)
    (h : ∀ (j : Nat) y, (x :: l)[j]? = some y → w.cell? ⟨b, o + j, none⟩ = some (.string y)) :
    Sl w (.slice (if cap = 1 then some ⟨b, o, none⟩ else some ⟨b, o + 1, none⟩) l.length (cap - 1)) l := by
  simp only [List.length_cons] at hc
  refine ⟨_, _, rfl, by omega, by omega, ?_⟩
  cases l with
  | nil => exact .inl rfl
  | cons y l =>
    simp only [List.length_cons] at hc
    refine .inr ⟨b, o + 1, by rw [if_neg (by omega)], fun j z hz => ?_⟩
    have := h (j + 1) z (by simpa using hz)
    rwa [show o + 1 + j = o + (j + 1) by omega]
theorem Sl.drewN {w : World} {v : Value} {l : List ByteArray} (h : Sl w v l) (n : Nat) : Sl (w.drewN n) v l := h

def agreeB : List ByteArray → List ByteArray → Bool
  | [], n => n.isEmpty
  | x :: f, n => if x.toList == [35] then true else match n with
    | [] => false
    | y :: n => (x.toList == [43] || x.toList == y.toList) && agreeB f n

theorem agreeB_nil (n : List ByteArray) : agreeB [] n = ((n.length : Int) == 0) := by cases n <;> simp [agreeB]; omega
theorem agreeB_hash (x : ByteArray) (f n : List ByteArray) (h : (x.toList == [35]) = true) : agreeB (x :: f) n = true := by simp [agreeB, h]
theorem agreeB_none (x : ByteArray) (f : List ByteArray) (h : (x.toList == [35]) = false) : agreeB (x :: f) [] = false := by simp [agreeB, h]
theorem agreeB_cons (x y : ByteArray) (f n : List ByteArray) (h : (x.toList == [35]) = false) : agreeB (x :: f) (y :: n) = ((x.toList == [43] || x.toList == y.toList) && agreeB f n) := by simp [agreeB, h]

theorem info_string : (Tryd.prog.info? 9).map (fun i => (i.zero, i.size, i.bytes)) = some (some (.string ByteArray.empty), 1, 16) := by kernel_rfl

/-- an owned row of texts reads as their list -/
theorem Sl.of_owns {w : World} {base : Nat} {v : Value} {l : List ByteArray} (h : w.ownsRow base 9 1 v l.length (l.map Value.string)) : Sl w v l := by
  rcases h.2 with ⟨rfl, h0⟩ | ⟨g, cap, cur, rfl, hb, hg, hn, hm, hs, ht⟩
  · have : l = [] := List.eq_nil_of_length_eq_zero h0
    subst this
    exact ⟨none, 0, rfl, Nat.le_refl _, by omega, .inl rfl⟩
  · refine ⟨_, cap, rfl, hn, by unfold maxLen at hm; omega, .inr ⟨g, 0, rfl, fun j x hj => ?_⟩⟩
    have := h.cells (g := g) rfl j (.string x) (by simp [hj])
    have hadd : (⟨g, 0, none⟩ : Addr).add j = ⟨g, 0 + j, none⟩ := by unfold Addr.add; split <;> simp_all
    rwa [hadd] at this

set_option maxHeartbeats 1000000 in
theorem refLevels_any (s : ByteArray) (w : World) (hs : s.size ≤ 1048576) :
    Calls Tryd.prog 46 #[.string s] w fun e w' => ∃ v, e = .returned v ∧ Sl w' v (levels s) ∧ Below w.heap.size w w' := by
  obtain ⟨i0, hi, hz0, hz1, hz2⟩ := info_parts info_string
  go_enter Tryd.func46, Tryd.ntmps46
  go_wp2
  go_loopw [3, 4, 5] (fun v at_ i wr => ∃ (k a : Nat) (done : List ByteArray), a ≤ k ∧ k ≤ s.size ∧ at_ = .int .i64 a ∧ i = .int .i64 k ∧ done.length ≤ k ∧ Hid (levels s = done ++ (splitS (s.data.toList.drop a)).map ba) ∧
      Hid (∀ c ∈ (s.data.toList.drop a).take (k - a), c ≠ 47) ∧ wr.ownsRow w.heap.size 9 1 v done.length (done.map Value.string) ∧ Below w.heap.size w wr)
    (fun _ _ i _ => s.size - (intOf i).toNat)
  case atStart => exact ⟨0, 0, [], Nat.le_refl _, Nat.zero_le _, rfl, rfl, Nat.le_refl _, rfl, (by intro c hc; simp at hc), World.ownsRow_nil _ _ _ _, Below.refl _ _⟩
  case round =>
    obtain ⟨k, a, done, hak, hk, rfl, rfl, hdk, HL, HC, hown, hB⟩ := hrel
    have hsz := hB.size
    by_cases hlt : k < s.size
    · by_cases h1 : (((s[k].toNat : Nat) : Int) == 47) = true
      · have HH := Lib.hid (lev_hit s a k done hak hlt HL.out HC.out h1)
        clear HL HC
        go_wp2_with (at_builtin; refine wpList_append_own _ rfl _ _ 23 rfl w.heap.size 9 i0 (.string ByteArray.empty) 1 16 Tryd.underlying23 hi hz0 hz1 hz2 rfl (by decide) _ _ _ rfl (hown.alloc _) ⟨wr.heap.size, 0, none⟩ 1 1 [.string (s.extract a k)] rfl rfl (cell_one_new _ _ _) (fun x hx => by simp at hx; subst hx; rfl) (by unfold maxLen; omega) (by omega) (by simp; omega) ?_; intro v' w1 hown' hgrow hnil)
        have hB1 : Below w.heap.size w w1 := ((hB.alloc hsz _).grown hgrow (by simp; omega) (fun j hj => (hown.lt j hj).1))
        have hown2 : w1.ownsRow w.heap.size 9 1 v' (done ++ [s.extract a k]).length ((done ++ [s.extract a k]).map Value.string) := by simpa using hown'
        clear hown' hgrow hown hnil
        go_wp2
        go_roundw
        case rel => exact ⟨k + 1, k + 1, done ++ [s.extract a k], Nat.le_refl _, by omega, by go_num, by go_num, by simp; omega, HH, (by intro c hc; simp at hc), hown2, hB1⟩
        case measure => simp [intOf]; omega
      · simp only [Bool.not_eq_true] at h1
        have HH := Lib.hid (lev_no s a k hak hlt HC.out h1)
        clear HC
        go_wp2
        go_roundw
        case rel => exact ⟨k + 1, a, done, by omega, by omega, rfl, by go_num, by omega, HL, HH, hown, hB⟩
        case measure => simp [intOf]; omega
    · obtain rfl : k = s.size := by omega
      have HH := Lib.hid (lev_end s a done HL.out HC.out)
      clear HL HC
      go_wp2_with (at_builtin; refine wpList_append_own _ rfl _ _ 23 rfl w.heap.size 9 i0 (.string ByteArray.empty) 1 16 Tryd.underlying23 hi hz0 hz1 hz2 rfl (by decide) _ _ _ rfl (hown.alloc _) ⟨wr.heap.size, 0, none⟩ 1 1 [.string (s.extract a s.size)] rfl rfl (cell_one_new _ _ _) (fun x hx => by simp at hx; subst hx; rfl) (by unfold maxLen; omega) (by omega) (by simp; omega) ?_; intro v' w1 hown' hgrow hnil)
      have hB1 : Below w.heap.size w w1 := ((hB.alloc hsz _).grown hgrow (by simp; omega) (fun j hj => (hown.lt j hj).1))
      have hown2 : w1.ownsRow w.heap.size 9 1 v' (done ++ [s.extract a s.size]).length ((done ++ [s.extract a s.size]).map Value.string) := by simpa using hown'
      clear hown' hgrow hown hnil
      go_wp2
      go_ret
      exact ⟨_, rfl, by rw [HH.out]; exact Sl.of_owns hown2, hB1⟩
end Go.Proofs.YtflomcbclofbaaaDoor
