/- PLAIN: the steps of a quoted text. -/
import Derived.Test.YtmbejmhnoeoohaaDoorScanPlainB
namespace Go.Proofs.YtmbejmhnoeoohaaDoor
open Go Go.RowKit

theorem qS_end (r : List UInt8) : qS (34 :: r) = some ([], 1) := by unfold qS; rw [if_pos rfl]
theorem qS_bad {c : UInt8} (r : List UInt8) (h : ¬ c = 34) (h2 : c.toNat < 32 ∨ 126 < c.toNat) : qS (c :: r) = none := by unfold qS; rw [if_neg h, if_pos h2]
theorem qS_plain {c : UInt8} (r : List UInt8) (h : ¬ c = 34) (h2 : ¬ (c.toNat < 32 ∨ 126 < c.toNat)) (h3 : ¬ c = 92) : qS (c :: r) = (qS r).map fun x => (c :: x.1, x.2 + 1) := by
  conv => lhs; unfold qS
  rw [if_neg h, if_neg h2, if_neg h3]
theorem qS_esc_end : qS [92] = none := by unfold qS; rfl
theorem qS_esc {d : UInt8} (r : List UInt8) (h : d = 34 ∨ d = 92) : qS (92 :: d :: r) = (qS r).map fun x => (d :: x.1, x.2 + 2) := by
  conv => lhs; unfold qS
  rw [if_neg (by decide), if_neg (by decide), if_pos rfl]
  simp only
  rw [if_pos h]
theorem qS_esc_bad {d : UInt8} (r : List UInt8) (h : ¬ (d = 34 ∨ d = 92)) (h2 : ¬ d = 120) : qS (92 :: d :: r) = none := by
  conv => lhs; unfold qS
  rw [if_neg (by decide), if_neg (by decide), if_pos rfl]
  simp only
  rw [if_neg h, if_neg h2]
theorem qS_hex_short {r : List UInt8} (h : r.length < 2) : qS (92 :: 120 :: r) = none := by
  conv => lhs; unfold qS
  rw [if_neg (by decide), if_neg (by decide), if_pos rfl]
  simp only
  rw [if_neg (by decide), if_pos trivial]
  match r, h with
  | [], _ => rfl
  | [g], _ => rfl
theorem qS_hex_no {g h : UInt8} (r : List UInt8) (h2 : ¬ (0 ≤ hexS g.toNat ∧ 0 ≤ hexS h.toNat)) : qS (92 :: 120 :: g :: h :: r) = none := by
  conv => lhs; unfold qS
  rw [if_neg (by decide), if_neg (by decide), if_pos rfl]
  simp only
  rw [if_neg (by decide), if_pos trivial, if_neg h2]
theorem qS_hex {g h : UInt8} (r : List UInt8) {p q : Nat} (hp : hexS g.toNat = (p : Nat)) (hq : hexS h.toNat = (q : Nat)) :
    qS (92 :: 120 :: g :: h :: r) = (qS r).map fun x => (UInt8.ofNat (16 * p + q) :: x.1, x.2 + 4) := by
  conv => lhs; unfold qS
  rw [if_neg (by decide), if_neg (by decide), if_pos rfl]
  simp only
  rw [if_neg (by decide), if_pos trivial, if_pos (by rw [hp, hq]; omega), hp, hq]
  rfl

/-- how far a quoted text is read -/
def QAt (B l : List UInt8) (k : Nat) (D : List UInt8) : Prop := qS B = (qS (l.drop k)).map fun x => (D ++ x.1, x.2 + (k - 1))
theorem qat_start (c : UInt8) (B : List UInt8) : QAt B (c :: B) 1 [] := by
  unfold QAt; simp
theorem qat_end {B l : List UInt8} {k : Nat} {D r : List UInt8} (h : QAt B l k D) (hl : l.drop k = 34 :: r) (hk : 1 ≤ k) : qS B = some (D, k) := by
  unfold QAt at h; rw [h, hl, qS_end]; simp; omega
theorem qat_none {B l : List UInt8} {k : Nat} {D : List UInt8} (h : QAt B l k D) (hl : qS (l.drop k) = none) : qS B = none := by
  unfold QAt at h; rw [h, hl]; rfl
theorem qat_step {B l : List UInt8} {k m : Nat} {D e : List UInt8} (h : QAt B l k D) (hk : 1 ≤ k) (hl : qS (l.drop k) = (qS (l.drop (k + m))).map fun x => (e ++ x.1, x.2 + m)) : QAt B l (k + m) (D ++ e) := by
  unfold QAt at h ⊢
  rw [h, hl, Option.map_map]
  congr 1
  funext x
  simp only [Function.comp, List.append_assoc, Prod.mk.injEq, true_and]
  omega
theorem drop_one {l : List UInt8} {k : Nat} {c : UInt8} (h : l[k]? = some c) : l.drop k = c :: l.drop (k + 1) := by
  obtain ⟨hk, rfl⟩ := List.getElem?_eq_some_iff.1 h
  exact List.drop_eq_getElem_cons hk
theorem qS_nil : qS [] = none := by unfold qS; rfl
end Go.Proofs.YtmbejmhnoeoohaaDoor
