/- PLAIN: a quoted text says itself; its bytes. -/
import Derived.Test.YtmbejmhnoeoohaaDoorScanRefUnquote
namespace Go.Proofs.YtmbejmhnoeoohaaDoor
open Go Go.RowKit

theorem hex_hx : ∀ n : Fin 16, hexS (hxS n.val).toNat = (n.val : Int) := by decide
theorem hx_range : ∀ n : Fin 16, 32 ≤ (hxS n.val).toNat ∧ (hxS n.val).toNat ≤ 126 := by decide
theorem byte_parts (c : UInt8) : UInt8.ofNat (16 * (c.toNat / 16) + c.toNat % 16) = c := by
  rw [Nat.div_add_mod]; simp

theorem qS_quote : ∀ l : List UInt8, qS (l.flatMap escS ++ [34]) = some (l, (l.flatMap escS).length + 1)
  | [] => by rfl
  | c :: l => by
    have ih := qS_quote l
    rw [List.flatMap_cons, List.append_assoc]
    generalize l.flatMap escS = R at *
    by_cases h1 : c = 34 ∨ c = 92
    · rw [show escS c = [92, c] by unfold escS; rw [if_pos h1]]
      show qS (92 :: c :: (R ++ [34])) = _
      unfold qS
      rw [if_neg (by decide), if_neg (by decide), if_pos rfl]
      simp only [if_pos h1, ih, Option.map_some]
      simp
    · by_cases h2 : c.toNat < 32 ∨ 126 < c.toNat
      · have hc := c.toNat_lt
        rw [show escS c = [92, 120, hxS (c.toNat / 16), hxS (c.toNat % 16)] by unfold escS; rw [if_neg h1, if_pos h2]]
        show qS (92 :: 120 :: hxS (c.toNat / 16) :: hxS (c.toNat % 16) :: (R ++ [34])) = _
        have e1 := hex_hx ⟨c.toNat / 16, by omega⟩
        have e2 := hex_hx ⟨c.toNat % 16, by omega⟩
        simp only at e1 e2
        unfold qS
        rw [if_neg (by decide), if_neg (by decide), if_pos rfl]
        simp only
        rw [if_neg (by decide), if_pos trivial, if_pos (by rw [e1, e2]; omega), ih, e1, e2]
        simp only [Option.map_some, Int.toNat_natCast, byte_parts]
        simp
      · rw [show escS c = [c] by unfold escS; rw [if_neg h1, if_neg h2]]
        show qS (c :: (R ++ [34])) = _
        unfold qS
        rw [if_neg (fun h => h1 (.inl h)), if_neg h2, if_neg (fun h => h1 (.inr h)), ih]
        simp

theorem unqS_quote (l : List UInt8) : unqS (quoteS l) = some l := by
  have h := qS_quote l
  show unqS (34 :: (l.flatMap escS ++ [34])) = _
  exact unq_some h (by simp)

theorem quoteS_len (l : List UInt8) : (quoteS l).length ≤ 4 * l.length + 2 := by
  have := qK_len l l.length
  simp only [quoteS, qK, List.take_length] at *
  simp at *; omega

theorem quoteS_range (l : List UInt8) : ∀ x ∈ quoteS l, 32 ≤ x.toNat ∧ x.toNat ≤ 126 := by
  intro x hx
  unfold quoteS at hx
  rcases List.mem_append.1 hx with h | h
  · rcases List.mem_cons.1 h with h | h
    · subst h; decide
    · obtain ⟨c, _, hc⟩ := List.mem_flatMap.1 h
      have hlt := c.toNat_lt
      unfold escS at hc
      split at hc
      · rename_i hq
        rcases List.mem_cons.1 hc with h | h
        · subst h; decide
        · have h := List.mem_singleton.1 h; subst h
          rcases hq with h | h <;> subst h <;> decide
      · split at hc
        · have h1 := hx_range ⟨c.toNat / 16, by omega⟩
          have h2 := hx_range ⟨c.toNat % 16, by omega⟩
          simp only [List.mem_cons, List.not_mem_nil, or_false] at hc
          rcases hc with h | h | h | h <;> subst h
          · decide
          · decide
          · exact h1
          · exact h2
        · have h := List.mem_singleton.1 hc; subst h; omega
  · have h := List.mem_singleton.1 h; subst h; decide
end Go.Proofs.YtmbejmhnoeoohaaDoor
