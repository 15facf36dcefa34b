/- WIRE: a value's bytes and their reading: there and back: whole values. -/
import Derived.Test.YtmncpbfghabamaaDoorWireThere
namespace Go.Proofs.YtmncpbfghabamaaDoor
open Go Go.RowKit

theorem ds_zero {ds : ByteArray} (h : ds = .empty) : ds.size = 0 := by rw [h]; rfl
theorem ownD_ownB {kd di db : Int} {ds : ByteArray} {n : Nat} (h : FitV kd di db ds n) {room : Nat} (hr : room ≤ 4096) (hn : n ≤ room) (r : List UInt8) :
    ownD room kd.toNat (ownB kd di db ds n ++ r) = .done ⟨di, db.toNat, ds, n⟩ (ownB kd di db ds n).length := by
  obtain ⟨h0, h14, hdi, hdb0, hdb1, hds, f1, f2, f3, f4, f5, f6, f7⟩ := h
  have hc : kd = 0 ∨ kd = 12 ∨ kd = 13 ∨ kd = 1 ∨ kd = 2 ∨ kd = 3 ∨ kd = 4 ∨ kd = 5 ∨ kd = 6 ∨ kd = 7 ∨ kd = 8 ∨ kd = 9 ∨ kd = 10 ∨ kd = 11 := by omega
  rcases hc with hk | hk | hk | hk | hk | hk | hk | hk | hk | hk | hk | hk | hk | hk <;> subst hk <;> simp only [Int.reduceEq, false_or, or_false, true_or, or_true, ne_eq, not_true_eq_false, not_false_eq_true, true_and, false_and, forall_const, false_implies] at f1 f2 f3 f4 f5 f7
  · subst f1; subst f2; subst f3; subst f7; simp [ownB, ownD]
  · subst f1; subst f2; subst f3; subst f7; simp [ownB, ownD]
  · subst f1; subst f2; subst f3; subst f7; simp [ownB, ownD]
  · subst f2; subst f3; subst f7; simp [ownB, ownD, sigD_numB hdi]
  · subst f2; subst f3; subst f7; simp [ownB, ownD, sigD_numB hdi]
  · subst f1; subst f3; subst f7
    have e1 : ownB 3 0 db .empty 0 = leB db.toNat 8 := by simp [ownB]
    have e2 : (leB db.toNat 8 ++ r).take 8 = leB db.toNat 8 := List.take_left' (leB_len _ _)
    have e3 : leN (leB db.toNat 8) = db.toNat := by rw [leN_leB]; exact Nat.mod_eq_of_lt (by show _ < 18446744073709551616; omega)
    rw [e1]
    simp [ownD, leB_len, e2, e3]
  · subst f1; subst f2; subst f7
    have := textD_numB (lim := 65535) (by omega) hds r
    simp [ownB, ownD]
    rw [List.append_assoc] at this
    simp [this]
  · subst f1; subst f2; subst f7
    have := textD_numB (lim := 65535) (by omega) hds r
    simp [ownB, ownD]
    rw [List.append_assoc] at this
    simp [this]
  · subst f2; subst f3; subst f7
    rcases f4 with h | h <;> subst h <;> simp [ownB, ownD]
  · subst f1; subst f2; subst f7
    have := textD_numB (lim := 65535) (by omega) hds r
    simp [ownB, ownD]
    rw [List.append_assoc] at this
    simp [this]
  · subst f1; subst f2; subst f3
    have := numD_numB room (by omega) r n 0 0 (by simpa using hn) (.inl rfl)
    simp [ownB, ownD]
    simp at this
    simp [this]
  · subst f1; subst f2; subst f3; subst f7; simp [ownB, ownD]
  · subst f2; subst f7
    have h1 := sigD_numB hdi (numB ds.size ++ ds.data.toList ++ r)
    have h2 := textD_numB (lim := 65535) (by omega) hds r
    simp [ownB, ownD]
    rw [List.append_assoc] at h1 h2
    simp [h1, h2]
  · subst f2; subst f3; subst f7
    have e : (di % 18446744073709551616).toNat = di.toNat := by unfold I64 at hdi; omega
    have := numD_numB top63 (by unfold top63; omega) r di.toNat 0 0 (by unfold top63 I64 at *; simp; omega) (.inl rfl)
    simp [ownB, ownD, e]
    simp at this
    simp [this]
    rw [if_neg (by omega)]
    congr 1
    simp
    omega
theorem i64_zero : I64 0 := by unfold I64; omega
theorem i64_nat {n : Nat} (h : n ≤ top63) : I64 (n : Int) := by unfold I64; unfold top63 at h; omega
theorem bind_done_inv {α β : Type} {r : Rd α} {f : α → Nat → Rd β} {y : β} {n : Nat} (h : r.bind f = .done y n) : ∃ x u, r = .done x u ∧ f x u = .done y n := by
  cases r with
  | done x u => exact ⟨x, u, rfl, h⟩
  | short => cases h
  | bad => cases h
theorem fitV_zero {k : Nat} (hk : k = 0 ∨ k = 12 ∨ k = 13) : FitV (k : Nat) 0 0 .empty 0 := by
  refine ⟨by omega, by omega, i64_zero, by omega, by omega, by decide, ?_⟩
  simp
  omega
theorem ownB_zero {k : Nat} {ds : ByteArray} {di db : Int} {n : Nat} (hk : k = 0 ∨ k = 12 ∨ k = 13 ∨ k = 9) : ownB (k : Nat) di db ds n = [] := by
  unfold ownB
  rw [if_neg (by omega), if_neg (by omega), if_neg (by omega), if_neg (by omega), if_neg (by omega), if_neg (by omega), if_neg (by omega)]
theorem ownD_back {room k : Nat} (hk : k < 14) (hr : room ≤ 4096) (hneed : needs k ≤ room) {l : List UInt8} {o : Own} {u : Nat} (h : ownD room k l = .done o u) :
    l.take u = ownB k o.di o.db o.ds o.n ∧ u ≤ l.length ∧ FitV k o.di o.db o.ds o.n ∧ o.n ≤ room := by
  unfold ownD at h
  by_cases c1 : k = 1 ∨ k = 2
  · rw [if_pos c1] at h
    obtain ⟨x, u', h1, h2⟩ := bind_done_inv h
    injection h2 with h2 h3
    subst h2; subst h3
    obtain ⟨b1, b2, b3⟩ := sigD_back h1
    refine ⟨by unfold ownB; rw [if_pos (by omega)]; exact b1, b2, ⟨by omega, by omega, b3, by simp, by simp, by simp, by omega, by simp, by simp, by omega, by omega, by simp, by simp; omega⟩, by simp⟩
  rw [if_neg c1] at h
  by_cases c2 : k = 3
  · rw [if_pos c2] at h
    split at h
    · cases h
    · injection h with h2 h3
      subst h2; subst h3; subst c2
      have hlen : (l.take 8).length = 8 := by rw [List.length_take]; omega
      have hlt := leN_lt (l.take 8)
      rw [hlen] at hlt
      have e : (((leN (l.take 8) : Nat) : Int)).toNat = leN (l.take 8) := by simp
      refine ⟨by unfold ownB; rw [if_neg (by omega), if_pos (by omega)]; simp only; rw [e, leB_leN 8 _ hlen], by omega, ⟨by omega, by omega, i64_zero, by simp, ?_, by simp, by simp, by simp, by simp, by simp, by omega, by simp, by simp⟩, by simp⟩
      have : (256 : Nat) ^ 8 = 18446744073709551616 := by decide
      rw [this] at hlt
      simp only
      omega
  rw [if_neg c2] at h
  by_cases c3 : k = 4 ∨ k = 5 ∨ k = 7
  · rw [if_pos c3] at h
    obtain ⟨x, u', h1, h2⟩ := bind_done_inv h
    injection h2 with h2 h3
    subst h2; subst h3
    obtain ⟨b1, b2, b3⟩ := textD_back h1
    refine ⟨by unfold ownB; rw [if_neg (by omega), if_neg (by omega), if_pos (by omega)]; exact b1, b2, ⟨by omega, by omega, i64_zero, by simp, by simp, b3, by simp, by simp, by omega, by simp, by omega, by simp, by simp; omega⟩, by simp⟩
  rw [if_neg c3] at h
  by_cases c4 : k = 6
  · rw [if_pos c4] at h
    cases l with
    | nil => cases h
    | cons c r =>
      simp only at h
      split at h
      · cases h
      · rename_i hc
        injection h with h2 h3
        subst h2; subst h3; subst c4
        have e : (((c.toNat : Nat) : Int) % 256).toNat = c.toNat := by have := c.toNat_lt; omega
        refine ⟨by unfold ownB; rw [if_neg (by omega), if_neg (by omega), if_neg (by omega), if_pos (by omega)]; simp only; rw [e]; simp, by simp, ⟨by omega, by omega, i64_nat (by unfold top63; omega), by simp, by simp, by simp, by simp, by simp, by simp, by first | omega | (simp only; omega), by omega, by simp, by simp⟩, by simp⟩
  rw [if_neg c4] at h
  by_cases c5 : k = 10
  · rw [if_pos c5] at h
    obtain ⟨x, u', h1, h2⟩ := bind_done_inv h
    obtain ⟨s, u2, h3, h4⟩ := bind_done_inv h2
    injection h4 with h4 h5
    subst h4; subst h5
    obtain ⟨b1, b2, b3⟩ := sigD_back h1
    obtain ⟨d1, d2, d3⟩ := textD_back h3
    rw [List.length_drop] at d2
    refine ⟨by unfold ownB; rw [if_neg (by omega), if_neg (by omega), if_neg (by omega), if_neg (by omega), if_pos (by omega), List.take_add, b1, d1], by omega, ⟨by omega, by omega, b3, by simp, by simp, d3, by omega, by simp, by omega, by omega, by omega, by simp, by simp; omega⟩, by simp⟩
  rw [if_neg c5] at h
  by_cases c6 : k = 11
  · rw [if_pos c6] at h
    obtain ⟨x, u', h1, h2⟩ := bind_done_inv h
    split at h2
    · cases h2
    · rename_i hx
      injection h2 with h2 h3
      subst h2; subst h3; subst c6
      obtain ⟨z, b1, b2, -⟩ := numD_back _ _ _ _ _ _ h1
      obtain ⟨d1, d2, d3⟩ := numD_len _ _ _ _ _ _ h1
      simp at b1; subst b1
      have e : (((x : Nat) : Int) % 18446744073709551616).toNat = x := by unfold top63 at d3; omega
      refine ⟨by unfold ownB; rw [if_neg (by omega), if_neg (by omega), if_neg (by omega), if_neg (by omega), if_neg (by omega), if_pos (by omega)]; simp only; rw [e]; simpa using b2, by omega, ⟨by omega, by omega, i64_nat d3, by simp, by simp, by simp, by simp, by simp, by simp, by simp, by first | omega | (simp only; omega), by simp, by simp⟩, by simpa [needs] using hneed⟩
  rw [if_neg c6] at h
  by_cases c7 : k = 9
  · rw [if_pos c7] at h
    injection h with h2 h3
    subst h2; subst h3; subst c7
    refine ⟨by rw [ownB_zero (by omega)]; simp, by simp, ⟨by omega, by omega, i64_zero, by simp, by simp, by simp, by simp, by simp, by simp, by simp, by omega, by simp, by simp⟩, by simpa [needs] using hneed⟩
  rw [if_neg c7] at h
  by_cases c8 : k = 8
  · rw [if_pos c8] at h
    obtain ⟨x, u', h1, h2⟩ := bind_done_inv h
    injection h2 with h2 h3
    subst h2; subst h3; subst c8
    obtain ⟨z, b1, b2, -⟩ := numD_back _ _ _ _ _ _ h1
    obtain ⟨d1, d2, d3⟩ := numD_len _ _ _ _ _ _ h1
    simp at b1; subst b1
    refine ⟨by unfold ownB; rw [if_neg (by omega), if_neg (by omega), if_neg (by omega), if_neg (by omega), if_neg (by omega), if_neg (by omega), if_pos (by omega)]; simpa using b2, by omega, ⟨by omega, by omega, i64_zero, by simp, by simp, by simp, by simp, by simp, by simp, by simp, by omega, by first | omega | (simp only; omega), by simp⟩, d3⟩
  rw [if_neg c8] at h
  injection h with h2 h3
  subst h2; subst h3
  have hk3 : k = 0 ∨ k = 12 ∨ k = 13 := by omega
  exact ⟨by rw [ownB_zero (by omega)]; simp, by simp, fitV_zero hk3, by simp⟩

theorem kind_nat {kd : Int} (h0 : 0 ≤ kd) (h1 : kd < 14) : (kindB kd).toNat = kd.toNat := by
  unfold kindB
  rw [byte_nat (by omega)]
  omega
theorem kind_back {c : UInt8} : kindB (c.toNat : Nat) = c := by
  unfold kindB
  have := c.toNat_lt
  rw [show (((c.toNat : Nat) : Int) % 256).toNat = c.toNat by omega]
  simp
theorem needs_le {kd di db : Int} {ds : ByteArray} {l : List Dv} (h : FitV kd di db ds l.length) : needs kd.toNat ≤ l.length := by
  obtain ⟨h0, h14, hdi, hdb0, hdb1, hds, f1, f2, f3, f4, f5, f6, f7⟩ := h
  unfold needs
  split
  · omega
  · split <;> omega
mutual
theorem valD_enc : ∀ (t : Dv) (f deep parts : Nat) (r : List UInt8), t.Right → t.deep ≤ f → deep + f = 17 → t.size ≤ parts + 1 → parts ≤ 4096 →
    valD f deep parts (enc t ++ r) = .done (t, parts + 1 - t.size) (enc t).length
  | .mk kd di db ds l, f, deep, parts, r, hr, hd, hf, hs, hp => by
    obtain ⟨hfit, hrs⟩ := hr
    have hfit' := hfit
    obtain ⟨h0, h14, -⟩ := hfit'
    have hl := sizes_len l
    have hdl := deeps_pos l
    simp only [Dv.size, Dv.deep] at hd hs
    cases f with
    | zero => omega
    | succ f =>
      have hroom : l.length ≤ roomOf deep parts := by
        unfold roomOf
        split
        · rename_i h16
          rcases Nat.eq_zero_or_pos l.length with h | h
          · omega
          · have := hdl h; omega
        · omega
      have hroom2 : roomOf deep parts ≤ 4096 := by unfold roomOf; split <;> omega
      have hneed := needs_le hfit
      have hown := ownD_ownB hfit hroom2 hroom (encs l ++ r)
      have hlist := listD_encs l f (deep + 1) (parts - l.length) r hrs (by omega) (by omega) (by omega) (by omega)
      simp only [enc, List.cons_append, List.append_assoc]
      unfold valD
      rw [kind_nat h0 h14, if_neg (by omega), if_neg (by omega), hown]
      simp only [Rd.bind_done]
      rw [List.drop_left, hlist]
      simp only [Rd.bind_done, List.length_cons, List.length_append, Dv.size]
      have e1 : ((kd.toNat : Nat) : Int) = kd := by omega
      have e2 : ((db.toNat : Nat) : Int) = db := by obtain ⟨_, _, _, hb, _⟩ := hfit; omega
      rw [e1, e2]
      congr 1
      · congr 1
        omega
      · omega
theorem listD_encs : ∀ (l : List Dv) (f deep parts : Nat) (r : List UInt8), Rights l → deeps l ≤ f → deep + f = 17 → sizes l ≤ parts + l.length → parts + l.length ≤ 4096 →
    listD (valD f deep) l.length parts (encs l ++ r) = .done (l, parts + l.length - sizes l) (encs l).length
  | [], f, deep, parts, r, _, _, _, _, _ => by simp [listD, encs, sizes]
  | t :: l, f, deep, parts, r, hr, hd, hf, hs, hp => by
    obtain ⟨hr1, hr2⟩ := hr
    have hl := sizes_len l
    have ht : 0 < t.size := by cases t; simp [Dv.size]; omega
    simp only [sizes, deeps, List.length_cons] at hd hs hp ⊢
    have h1 := valD_enc t f deep parts (encs l ++ r) hr1 (by omega) hf (by omega) (by omega)
    have h2 := listD_encs l f deep (parts + 1 - t.size) r hr2 (by omega) hf (by omega) (by omega)
    simp only [encs, List.append_assoc]
    unfold listD
    rw [h1]
    simp only [Rd.bind_done]
    rw [List.drop_left, h2]
    simp only [Rd.bind_done, List.length_append]
    congr 2
    omega
end
theorem listD_back_of {g : Nat → List UInt8 → Rd (Dv × Nat)} {f : Nat} (hg : ∀ (p : Nat) (l : List UInt8) (t : Dv) (p' u : Nat), p ≤ 4096 → g p l = .done (t, p') u → l.take u = enc t ∧ u ≤ l.length ∧ t.Right ∧ t.deep ≤ f ∧ p' + t.size = p + 1) :
    ∀ (n p : Nat) (l : List UInt8) (ts : List Dv) (p' u : Nat), p ≤ 4096 → listD g n p l = .done (ts, p') u → l.take u = encs ts ∧ u ≤ l.length ∧ Rights ts ∧ deeps ts ≤ f ∧ p' + sizes ts = p + n ∧ ts.length = n
  | 0, p, l, ts, p', u, _, h => by
    simp only [listD] at h
    injection h with h1 h2
    injection h1 with h1 h3
    subst h1; subst h2; subst h3
    simp [encs, Rights, deeps, sizes]
  | n + 1, p, l, ts, p', u, hp, h => by
    unfold listD at h
    obtain ⟨⟨t, p1⟩, u1, h1, h2⟩ := bind_done_inv h
    obtain ⟨⟨ts1, p2⟩, u2, h3, h4⟩ := bind_done_inv h2
    injection h4 with h4 h5
    injection h4 with h4 h6
    subst h4; subst h5; subst h6
    obtain ⟨a1, a2, a3, a4, a5⟩ := hg _ _ _ _ _ hp h1
    have ht : 0 < t.size := by cases t; simp [Dv.size]; omega
    obtain ⟨b1, b2, b3, b4, b5, b6⟩ := listD_back_of hg n p1 (l.drop u1) ts1 p2 u2 (by omega) h3
    rw [List.length_drop] at b2
    refine ⟨by rw [List.take_add, a1, b1]; rfl, by omega, ⟨a3, b3⟩, by simp only [deeps]; omega, by simp only [sizes]; omega, by simp [b6]⟩
theorem valD_back : ∀ (f deep parts : Nat) (l : List UInt8) (t : Dv) (p' u : Nat), deep + f = 17 → parts ≤ 4096 → valD f deep parts l = .done (t, p') u →
    l.take u = enc t ∧ u ≤ l.length ∧ t.Right ∧ t.deep ≤ f ∧ p' + t.size = parts + 1 := by
  intro f
  induction f with
  | zero => intro deep parts l t p' u _ _ h; simp [valD] at h
  | succ f ih =>
    intro deep parts l t p' u hf hp h
    cases l with
    | nil => simp [valD] at h
    | cons c r =>
      unfold valD at h
      split at h
      · cases h
      · rename_i hc
        split at h
        · cases h
        · rename_i hn
          have hroom2 : roomOf deep parts ≤ 4096 := by unfold roomOf; split <;> omega
          obtain ⟨o, u1, h1, h2⟩ := bind_done_inv h
          obtain ⟨⟨ts, p2⟩, u2, h3, h4⟩ := bind_done_inv h2
          injection h4 with h4 h5
          injection h4 with h4 h6
          subst h4; subst h5; subst h6
          obtain ⟨a1, a2, a3, a4⟩ := ownD_back (by omega) hroom2 (by omega) h1
          have hr : roomOf deep parts ≤ parts := by unfold roomOf; split <;> omega
          obtain ⟨b1, b2, b3, b4, b5, b6⟩ := listD_back_of (f := f) (fun p l t p' u hp h => ih (deep + 1) p l t p' u (by omega) hp h) o.n (parts - o.n) (r.drop u1) ts p2 u2 (by omega) h3
          rw [List.length_drop] at b2
          have e : (c :: r).take (1 + u1 + u2) = c :: (r.take (u1 + u2)) := by rw [show 1 + u1 + u2 = (u1 + u2) + 1 by omega, List.take_succ_cons]
          refine ⟨?_, by simp only [List.length_cons]; omega, ⟨by rw [b6]; exact a3, b3⟩, by simp only [Dv.deep]; omega, by simp only [Dv.size]; omega⟩
          rw [e, List.take_add, a1, b1, enc, kind_back, b6]
end Go.Proofs.YtmncpbfghabamaaDoor
