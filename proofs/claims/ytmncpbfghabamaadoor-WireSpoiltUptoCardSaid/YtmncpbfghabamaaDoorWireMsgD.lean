/- WIRE: what a message's reading answers. -/
import Derived.Test.YtmncpbfghabamaaDoorWireLook
import Derived.Test.YtmncpbfghabamaaDoorWireEncode
import Derived.Test.YtmncpbfghabamaaDoorNameTop
namespace Go.Proofs.YtmncpbfghabamaaDoor
open Go Go.RowKit

def readsD : Nat → List UInt8 → Rd (List Int)
  | 0, _ => .done [] 0
  | n + 1, l => (sigD l).bind fun x u => (readsD n (l.drop u)).bind fun xs u2 => .done (x :: xs) (u + u2)
def msgD (l : List UInt8) : Rd (List Int × ByteArray × ByteArray × Dv) :=
  (readsD 6 l).bind fun ns u => (textD 65535 (l.drop u)).bind fun tp u1 => (textD 65535 (l.drop (u + u1))).bind fun rp u2 => (valD 16 1 4095 (l.drop (u + u1 + u2))).bind fun t u3 => .done (ns, tp, rp, t.1) (u + u1 + u2 + u3)
def tickB (x : Int) : Bool := decide (0 ≤ x) && decide (x ≤ 1099511627776)
def numsB : List Int → Bool
  | [id, at_, un, co, _, hp] => decide (0 ≤ id) && decide (0 ≤ co) && tickB at_ && tickB un && decide (0 ≤ hp) && decide (hp ≤ 8)
  | _ => false
def fitB (ns : List Int) (tp rp : ByteArray) : Bool := nameB tp.data.toList && (decide (rp = ⟨#[]⟩) || nameB rp.data.toList) && numsB ns
def msgOk (l : List UInt8) (ns : List Int) (tp rp : ByteArray) (t : Dv) : Prop := msgD l = .done (ns, tp, rp, t) l.length ∧ fitB ns tp rp = true
def Dead (l : List UInt8) : Prop := ∀ x n, msgD l ≠ .done x n
/-- one reading: it goes on, it stops here, it had stopped -/
def Step {α : Type} (q : Rd α) (g : Prop) (p : Nat) (x : α) (g' : Prop) (p' : Nat) : Prop :=
  (g ∧ g' ∧ ∃ u, q = .done x u ∧ p' = p + u) ∨ (g ∧ ¬ g' ∧ ∀ y u, q ≠ .done y u) ∨ (¬ g ∧ ¬ g')
theorem After.step {α : Type} {l : List UInt8} {s s' : Cs} {q : Rd α} {d x : α} (h : After l s q d x s') : Step q (s.err = 0) s.pos x (s'.err = 0) s'.pos := by
  obtain ⟨-, -, -, h⟩ := h
  rcases h with ⟨h1, -, h2⟩ | ⟨h1, h2⟩
  · exact .inr (.inr ⟨h1, by rw [h2]; exact h1⟩)
  · cases q with
    | done y n => obtain ⟨rfl, h3, h4⟩ := h2; exact .inl ⟨h1, h4, n, rfl, h3⟩
    | short => exact .inr (.inl ⟨h1, by rw [h2.2]; decide, fun _ _ h => by cases h⟩)
    | bad => exact .inr (.inl ⟨h1, by rw [h2.2]; decide, fun _ _ h => by cases h⟩)
theorem dead_of {l : List UInt8} (h : ∀ ns n, readsD 6 l ≠ .done ns n) : Dead l := by
  intro x n
  unfold msgD
  cases hr : readsD 6 l with
  | done ns u => exact absurd hr (h _ _)
  | short => intro h; cases h
  | bad => intro h; cases h
/-- behind so many numbers -/
def NumS (l : List UInt8) (g : Prop) (p : Nat) (xs : List Int) : Prop := (g ∧ readsD 6 l = (readsD (6 - xs.length) (l.drop p)).bind fun ys u2 => .done (xs ++ ys) (p + u2)) ∨ (¬ g ∧ Dead l)
theorem NumS.start (l : List UInt8) (g : Prop) (hg : g) : NumS l g 0 [] := .inl ⟨hg, by
  rw [List.drop_zero]
  simp only [List.length_nil, Nat.sub_zero, List.nil_append, Nat.zero_add]
  cases readsD 6 l <;> rfl⟩
theorem NumS.step {l : List UInt8} {g g' : Prop} {p p' : Nat} {xs : List Int} {x : Int} (h : NumS l g p xs) (hn : xs.length < 6) (hs : Step (sigD (l.drop p)) g p x g' p') : NumS l g' p' (xs ++ [x]) := by
  have hstep : readsD (6 - xs.length) (l.drop p) = (sigD (l.drop p)).bind fun x u => (readsD (6 - (xs.length + 1)) ((l.drop p).drop u)).bind fun ys u2 => .done (x :: ys) (u + u2) := by
    rw [show 6 - xs.length = (6 - (xs.length + 1)) + 1 by omega]; rfl
  rcases h with ⟨h1, h2⟩ | ⟨h1, h2⟩
  · rcases hs with ⟨-, h3, u, h4, h5⟩ | ⟨-, h3, h4⟩ | ⟨h3, -⟩
    · refine .inl ⟨h3, ?_⟩
      rw [h2, hstep, h4]
      simp only [Rd.bind_done, List.length_append, List.length_singleton]
      rw [List.drop_drop, ← h5]
      cases readsD (6 - (xs.length + 1)) (l.drop p') with
      | done ys u2 => simp [h5, Nat.add_assoc]
      | short => rfl
      | bad => rfl
    · refine .inr ⟨h3, dead_of fun ns n => ?_⟩
      rw [h2, hstep]
      cases hq : sigD (l.drop p) with
      | done y u => exact absurd hq (h4 _ _)
      | short => intro h; cases h
      | bad => intro h; cases h
    · exact absurd h1 h3
  · rcases hs with ⟨h3, -⟩ | ⟨h3, -⟩ | ⟨-, h3⟩
    · exact absurd h3 h1
    · exact absurd h3 h1
    · exact .inr ⟨h3, h2⟩
def S6 (l : List UInt8) (g : Prop) (p : Nat) (ns : List Int) : Prop := (g ∧ readsD 6 l = .done ns p) ∨ (¬ g ∧ Dead l)
theorem NumS.six {l : List UInt8} {g : Prop} {p : Nat} {xs : List Int} (h : NumS l g p xs) (hn : xs.length = 6) : S6 l g p xs := by
  rcases h with ⟨h1, h2⟩ | h
  · rw [hn] at h2
    simp only [Nat.sub_self, readsD, Rd.bind_done, List.append_nil, Nat.add_zero] at h2
    exact .inl ⟨h1, h2⟩
  · exact .inr h
def S7 (l : List UInt8) (g : Prop) (p : Nat) (ns : List Int) (tp : ByteArray) : Prop := (g ∧ ∃ u u1, readsD 6 l = .done ns u ∧ textD 65535 (l.drop u) = .done tp u1 ∧ p = u + u1) ∨ (¬ g ∧ Dead l)
theorem S6.step {l : List UInt8} {g g' : Prop} {p p' : Nat} {ns : List Int} {tp : ByteArray} (h : S6 l g p ns) (hs : Step (textD 65535 (l.drop p)) g p tp g' p') : S7 l g' p' ns tp := by
  rcases h with ⟨h1, h2⟩ | ⟨h1, h2⟩
  · rcases hs with ⟨-, h3, u, h4, h5⟩ | ⟨-, h3, h4⟩ | ⟨h3, -⟩
    · exact .inl ⟨h3, p, u, h2, h4, h5⟩
    · refine .inr ⟨h3, fun x n => ?_⟩
      unfold msgD
      rw [h2]
      simp only [Rd.bind_done]
      cases hq : textD 65535 (l.drop p) with
      | done y u => exact absurd hq (h4 _ _)
      | short => intro h; cases h
      | bad => intro h; cases h
    · exact absurd h1 h3
  · rcases hs with ⟨h3, -⟩ | ⟨h3, -⟩ | ⟨-, h3⟩
    · exact absurd h3 h1
    · exact absurd h3 h1
    · exact .inr ⟨h3, h2⟩
def S8 (l : List UInt8) (g : Prop) (p : Nat) (ns : List Int) (tp rp : ByteArray) : Prop := (g ∧ ∃ u u1 u2, readsD 6 l = .done ns u ∧ textD 65535 (l.drop u) = .done tp u1 ∧ textD 65535 (l.drop (u + u1)) = .done rp u2 ∧ p = u + u1 + u2) ∨ (¬ g ∧ Dead l)
theorem S7.step {l : List UInt8} {g g' : Prop} {p p' : Nat} {ns : List Int} {tp rp : ByteArray} (h : S7 l g p ns tp) (hs : Step (textD 65535 (l.drop p)) g p rp g' p') : S8 l g' p' ns tp rp := by
  rcases h with ⟨h1, u0, u1, h2, h6, rfl⟩ | ⟨h1, h2⟩
  · rcases hs with ⟨-, h3, u, h4, h5⟩ | ⟨-, h3, h4⟩ | ⟨h3, -⟩
    · exact .inl ⟨h3, u0, u1, u, h2, h6, h4, h5⟩
    · refine .inr ⟨h3, fun x n => ?_⟩
      unfold msgD
      rw [h2]
      simp only [Rd.bind_done]
      rw [h6]
      simp only [Rd.bind_done]
      cases hq : textD 65535 (l.drop (u0 + u1)) with
      | done y u => exact absurd hq (h4 _ _)
      | short => intro h; cases h
      | bad => intro h; cases h
    · exact absurd h1 h3
  · rcases hs with ⟨h3, -⟩ | ⟨h3, -⟩ | ⟨-, h3⟩
    · exact absurd h3 h1
    · exact absurd h3 h1
    · exact .inr ⟨h3, h2⟩
def S9 (l : List UInt8) (g : Prop) (p : Nat) (ns : List Int) (tp rp : ByteArray) (t : Dv) : Prop := (g ∧ msgD l = .done (ns, tp, rp, t) p ∧ t.Right ∧ t.deep ≤ 16 ∧ t.size ≤ 4096 ∧ tp.size ≤ 65535 ∧ rp.size ≤ 65535) ∨ (¬ g ∧ Dead l)
theorem S8.step {l : List UInt8} {g g' : Prop} {p p' : Nat} {ns : List Int} {tp rp : ByteArray} {t : Dv × Nat} (h : S8 l g p ns tp rp) (hs : Step (valD 16 1 4095 (l.drop p)) g p t g' p') : S9 l g' p' ns tp rp t.1 := by
  rcases h with ⟨h1, u0, u1, u2, h2, h6, h7, rfl⟩ | ⟨h1, h2⟩
  · rcases hs with ⟨-, h3, u, h4, h5⟩ | ⟨-, h3, h4⟩ | ⟨h3, -⟩
    · refine .inl ⟨h3, ?_, ?_⟩
      · unfold msgD
        rw [h2]
        simp only [Rd.bind_done]
        rw [h6]
        simp only [Rd.bind_done]
        rw [h7]
        simp only [Rd.bind_done]
        rw [h4, h5]
        rfl
      · have hb := valD_back 16 1 4095 _ t.1 t.2 u rfl (by omega) h4
        have ht := (textD_back h6).2.2
        have hr := (textD_back h7).2.2
        exact ⟨hb.2.2.1, hb.2.2.2.1, by have := hb.2.2.2.2; omega, ht, hr⟩
    · refine .inr ⟨h3, fun x n => ?_⟩
      unfold msgD
      rw [h2]
      simp only [Rd.bind_done]
      rw [h6]
      simp only [Rd.bind_done]
      rw [h7]
      simp only [Rd.bind_done]
      cases hq : valD 16 1 4095 (l.drop (u0 + u1 + u2)) with
      | done y u => exact absurd hq (h4 _ _)
      | short => intro h; cases h
      | bad => intro h; cases h
    · exact absurd h1 h3
  · rcases hs with ⟨h3, -⟩ | ⟨h3, -⟩ | ⟨-, h3⟩
    · exact absurd h3 h1
    · exact absurd h3 h1
    · exact .inr ⟨h3, h2⟩
end Go.Proofs.YtmncpbfghabamaaDoor
