/- PLAIN: a quoted text says itself; its bytes. PARSE: a text as a row of tokens and gaps, and what its scan says, in plain Lean. PARSE: a tree's print as a row of tokens and gaps, in plain Lean. PARSE: a fit tree's tokens and gaps stand well beside each other, in plain Lean. PARSE: patterns that are written are read again, in plain Lean. PARSE: a fit tree that is written is read again, in plain Lean. PARSE: what is taken is fit, in plain Lean. PARSE: a tree that is taken is fit; trees that are the same are written the same, in plain Lean. PARSE: faults of what is read; trees that are the same are fit alike and written the same, in plain Lean. -/
import Derived.Test.YtbdllefnghddcaaGreatDoorPScan3
import Derived.Test.YtbdllefnghddcaaGreatDoorPPl
import Derived.Test.YtbdllefnghddcaaGreatDoorPBld
import Derived.Lib.ItoaLen
import Derived.Test.YtbdllefnghddcaaGreatDoorPPr
import Derived.Test.YtbdllefnghddcaaGreatDoorPSame
import Derived.Test.YtbdllefnghddcaaGreatDoorPRead
import Derived.Test.YtbdllefnghddcaaGreatDoorPName
import Derived.Test.YtbdllefnghddcaaGreatDoorPWri
namespace Go.Proofs.YtbdllefnghddcaaGreatDoor
section
open Go Go.RowKit

theorem hex_hx : ∀ n : Fin 16, hexS (hxS n.val).toNat = (n.val : Int) := by decide
theorem hx_range : ∀ n : Fin 16, 32 ≤ (hxS n.val).toNat ∧ (hxS n.val).toNat ≤ 126 := by decide
theorem byte_parts (c : UInt8) : UInt8.ofNat (16 * (c.toNat / 16) + c.toNat % 16) = c := by
 rw [Nat.div_add_mod]; simp

theorem qS_quote : ∀ l : List UInt8, qS (l.flatMap escS ++ [34]) = some (l, (l.flatMap escS).length + 1)
 | [] => by rfl
 | c :: l => by
  have ih := qS_quote l
  rw [List.flatMap_cons, List.append_assoc]
  generalize l.flatMap escS = R at *
  by_cases h1 : c = 34 ∨ c = 92
  ·rw [show escS c = [92, c] by unfold escS; rw [if_pos h1]]
   show qS (92 :: c :: (R ++ [34])) = _
   unfold qS
   rw [if_neg (by decide), if_neg (by decide), if_pos rfl]
   simp only [if_pos h1, ih, Option.map_some]
   simp
  ·by_cases h2 : c.toNat < 32 ∨ 126 < c.toNat
   ·have hc := c.toNat_lt
    rw [show escS c = [92, 120, hxS (c.toNat / 16), hxS (c.toNat % 16)] by unfold escS; rw [if_neg h1, if_pos h2]]
    show qS (92 :: 120 :: hxS (c.toNat / 16) :: hxS (c.toNat % 16) :: (R ++ [34])) = _
    have e1 := hex_hx ⟨c.toNat / 16, by omega⟩
    have e2 := hex_hx ⟨c.toNat % 16, by omega⟩
    simp only at e1 e2
    unfold qS
    rw [if_neg (by decide), if_neg (by decide), if_pos rfl]
    simp only
    rw [if_neg (by decide), if_pos trivial, if_pos (by rw [e1, e2]; omega), ih, e1, e2]
    simp only [Option.map_some, Int.toNat_natCast, byte_parts]
    simp
   ·rw [show escS c = [c] by unfold escS; rw [if_neg h1, if_neg h2]]
    show qS (c :: (R ++ [34])) = _
    unfold qS
    rw [if_neg (fun h => h1 (.inl h)), if_neg h2, if_neg (fun h => h1 (.inr h)), ih]
    simp

theorem unqS_quote (l : List UInt8) : unqS (quoteS l) = some l := by
 have h := qS_quote l
 show unqS (34 :: (l.flatMap escS ++ [34])) = _
 exact unq_some h (by simp)

theorem quoteS_len (l : List UInt8) : (quoteS l).length ≤ 4 * l.length + 2 := by
 have := qK_len l l.length
 simp only [quoteS, qK, List.take_length] at *
 simp at *; omega

theorem quoteS_range (l : List UInt8) : ∀ x ∈ quoteS l, 32 ≤ x.toNat ∧ x.toNat ≤ 126 := by
 intro x hx
 unfold quoteS at hx
 rcases List.mem_append.1 hx with h | h
 ·rcases List.mem_cons.1 h with h | h
  ·subst h; decide
  ·obtain ⟨c, _, hc⟩ := List.mem_flatMap.1 h
   have hlt := c.toNat_lt
   unfold escS at hc
   split at hc
   ·rename_i hq
    rcases List.mem_cons.1 hc with h | h
    ·subst h; decide
    ·have h := List.mem_singleton.1 h; subst h
     rcases hq with h | h <;> subst h <;> decide
   ·split at hc
    ·have h1 := hx_range ⟨c.toNat / 16, by omega⟩
     have h2 := hx_range ⟨c.toNat % 16, by omega⟩
     simp only [List.mem_cons, List.not_mem_nil, or_false] at hc
     rcases hc with h | h | h | h <;> subst h
     ·decide
     ·decide
     ·exact h1
     ·exact h2
    ·have h := List.mem_singleton.1 hc; subst h; omega
 ·have h := List.mem_singleton.1 h; subst h; decide
end
section
open List (length_cons)
open Go Go.RowKit

theorem qS_app : ∀ (n : Nat) (l z : List UInt8) (x : List UInt8 × Nat), l.length ≤ n → qS l = some x → qS (l.take x.2 ++ z) = some x
 | n, [], z, x, _, h => by simp [qS] at h
 | 0, c :: r, z, x, hn, h => by simp at hn
 | n + 1, c :: r, z, x, hn, h => by
  simp only [length_cons] at hn
  unfold qS at h
  split at h
  ·rename_i hc
   simp at h; subst h
   simp only [List.take_succ_cons, List.cons_append]
   unfold qS; rw [if_pos hc]
  ·rename_i hc
   split at h
   ·simp at h
   ·rename_i hr
    split at h
    ·rename_i h92
     split at h
     ·simp at h
     ·rename_i d r2
      simp only [length_cons] at hn
      split at h
      ·rename_i hd
       obtain ⟨y, hy, rfl⟩ := Option.map_eq_some_iff.1 h
       have := qS_app n r2 z y (by omega) hy
       simp only [List.take_succ_cons, List.cons_append]
       unfold qS
       rw [if_neg hc, if_neg hr, if_pos h92]
       simp only
       rw [if_pos hd, this]; rfl
      ·rename_i hd
       split at h
       ·rename_i hx
        split at h
        ·rename_i g hh r3
         simp only [length_cons] at hn
         split at h
         ·rename_i hg
          obtain ⟨y, hy, rfl⟩ := Option.map_eq_some_iff.1 h
          have := qS_app n r3 z y (by omega) hy
          simp only [List.take_succ_cons, List.cons_append]
          unfold qS
          rw [if_neg hc, if_neg hr, if_pos h92]
          simp only
          rw [if_neg hd, if_pos hx, if_pos hg, this]; rfl
         ·simp at h
        ·simp at h
       ·simp at h
    ·rename_i h92
     obtain ⟨y, hy, rfl⟩ := Option.map_eq_some_iff.1 h
     have := qS_app n r z y (by omega) hy
     simp only [List.take_succ_cons, List.cons_append]
     unfold qS
     rw [if_neg hc, if_neg hr, if_neg h92, this]; rfl
theorem lineS_take : ∀ (l : List UInt8) (k : Nat), lineS l ≤ k → lineS (l.take k) = lineS l
 | [], k, _ => by simp [lineS]
 | c :: r, 0, h => by
  simp only [lineS] at h ⊢
  split at h
  ·rename_i hc; simp [lineS, hc]
  ·omega
 | c :: r, k + 1, h => by
  simp only [List.take_succ_cons, lineS] at h ⊢
  by_cases hc : c = 10
  ·rw [if_pos hc, if_pos hc]
  ·rw [if_neg hc] at h
   rw [if_neg hc, if_neg hc, lineS_take r k (by omega)]
theorem cmtS_take : ∀ (l : List UInt8) (k j : Nat), cmtS l = some j → j ≤ k → cmtS (l.take k) = some j
 | [], k, j, h, _ => by simp [cmtS] at h
 | a :: r, 0, j, h, hk => by have := (cmtS_le _ _ h).2; omega
 | a :: r, k + 1, j, h, hk => by
  rw [List.take_succ_cons, cmtS_cons]
  rw [cmtS_cons] at h
  by_cases hc : a = 42 ∧ r.head? = some 47
  ·rw [if_pos hc] at h
   obtain rfl : 2 = j := by injection h
   obtain ⟨k', rfl⟩ : ∃ k', k = k' + 1 := ⟨k - 1, by omega⟩
   rw [if_pos ⟨hc.1, by rw [List.head?_take]; simp [hc.2]⟩]
  ·rw [if_neg hc] at h
   obtain ⟨i, hi, rfl⟩ := Option.map_eq_some_iff.1 h
   have hi2 := (cmtS_le _ _ hi).2
   rw [if_neg (fun hh => hc ⟨hh.1, by
    have h2 := hh.2
    rw [List.head?_take, if_neg (by omega)] at h2; exact h2⟩), cmtS_take r k i hi (by omega)]
   rfl
theorem skipN_take {l : List UInt8} {n m : Nat} (h : skipN l = some n) (hn : 0 < n) (hm : n ≤ m) : skipN (l.take m) = some n := by
 cases l with
 | nil => simp [skipN] at h; omega
 | cons c r =>
  obtain ⟨k, rfl⟩ : ∃ k, m = k + 1 := ⟨m - 1, by omega⟩
  rw [List.take_succ_cons]
  by_cases h1 : clsS c.toNat = 3
  ·rw [skipN_blank _ h1] at h ⊢; exact h
  ·by_cases h2 : c = 35
   ·subst h2
    rw [skipN_line] at h ⊢
    injection h with h
    rw [lineS_take r k (by omega), h]
   ·by_cases h3 : c = 47 ∧ r.head? = some 42
    ·obtain ⟨rfl, h4⟩ := h3
     cases r with
     | nil => simp at h4
     | cons b t =>
      obtain rfl : b = 42 := by simpa using h4
      rw [skipN_cmt] at h
      obtain ⟨j, hj, rfl⟩ := Option.map_eq_some_iff.1 h
      obtain ⟨k', rfl⟩ : ∃ k', k = k' + 1 := ⟨k - 1, by omega⟩
      rw [List.take_succ_cons, skipN_cmt, cmtS_take t k' j hj (by omega)]; rfl
    ·rw [skipN_zero h1 h2 h3] at h; injection h with h; omega
def gapF : Nat → List UInt8 → Nat
 | 0, _ => 0
 | f + 1, l => match skipN l with
  | some (n + 1) => n + 1 + gapF f (l.drop (n + 1))
  | _ => 0
theorem gapF_law : ∀ (f : Nat) (l : List UInt8), l.length ≤ f → gapF f l ≤ l.length ∧ (∀ p r, scanAt l p r = scanAt (l.drop (gapF f l)) (p + gapF f l) r) ∧
  (skipN (l.drop (gapF f l)) = some 0 ∨ skipN (l.drop (gapF f l)) = none) ∧ ∀ p r, scanAt (l.take (gapF f l)) p r = .toks []
 | 0, l, h => by
  obtain rfl : l = [] := List.eq_nil_of_length_eq_zero (by omega)
  exact ⟨Nat.le_refl _, fun _ _ => rfl, .inl rfl, fun _ _ => rfl⟩
 | f + 1, l, h => by
  unfold gapF
  cases hs : skipN l with
  | none => exact ⟨Nat.zero_le _, fun _ _ => rfl, .inr hs, fun _ _ => rfl⟩
  | some n =>
   cases n with
   | zero => exact ⟨Nat.zero_le _, fun _ _ => rfl, .inl hs, fun _ _ => rfl⟩
   | succ n =>
    have hle := skipN_le hs
    obtain ⟨i1, i2, i3, i4⟩ := gapF_law f (l.drop (n + 1)) (by rw [List.length_drop]; omega)
    simp only
    generalize gapF f (l.drop (n + 1)) = g at *
    rw [List.length_drop] at i1
    refine ⟨by omega, fun p r => ?_, ?_, fun p r => ?_⟩
    ·rw [scanAt_skip p r hs (by omega), i2, List.drop_drop, show p + (n + 1) + g = p + (n + 1 + g) by omega]
    ·rw [List.drop_drop] at i3; exact i3
    ·rw [scanAt_skip p r (skipN_take hs (by omega) (show n + 1 ≤ n + 1 + g by omega)) (by omega), List.drop_take, show n + 1 + g - (n + 1) = g by omega]
     exact i4 _ _
theorem oneS_pos (l : List UInt8) (p : Nat) : (oneS l p).2.pos = p := by
 cases l with
 | nil => rfl
 | cons c r =>
  show (oneC c r p).2.pos = p
  unfold oneC
  repeat' split
  all_goals rfl
theorem consS_toks {t : Tok} {g : Got} {ts : List Tok} (h : consS t g = .toks ts) : ∃ ts', ts = t :: ts' ∧ g = .toks ts' := by
 cases g with
 | toks l => injection h with h; exact ⟨l, h.symm, rfl⟩
 | bad p e => cases h
theorem scan_first {l : List UInt8} {a r : Nat} {t : Tok} {ts : List Tok} (ha : a ≤ l.length) (h : scanAt (l.drop a) a r = .toks (t :: ts)) :
  skipN (l.drop t.pos) = some 0 ∧ oneS (l.drop t.pos) t.pos = (0, t) ∧ r ≠ 0 ∧ t.stop ≤ l.length ∧ scanAt (l.drop t.stop) t.stop (r - 1) = .toks ts := by
 obtain ⟨i1, i2, i3, _⟩ := gapF_law (l.drop a).length (l.drop a) (Nat.le_refl _)
 generalize gapF (l.drop a).length (l.drop a) = g at *
 rw [List.length_drop] at i1
 rw [i2, List.drop_drop] at h
 rw [List.drop_drop] at i3
 by_cases hg : a + g = l.length
 ·rw [List.drop_of_length_le (by omega), scanAt_nil] at h
  injection h with h; cases h
 ·have hne : l.drop (a + g) ≠ [] := by intro e; have := congrArg List.length e; rw [List.length_drop] at this; simp at this; omega
  rcases i3 with h0 | h0
  ·rw [scanAt_tok hne _ _ h0] at h
   by_cases c1 : (oneS (l.drop (a + g)) (a + g)).1 = 61
   ·rw [if_pos c1] at h; cases h
   ·rw [if_neg c1] at h
    by_cases c2 : r = 0
    ·rw [if_pos c2] at h; cases h
    ·rw [if_neg c2] at h
     by_cases c3 : (oneS (l.drop (a + g)) (a + g)).1 ≠ 0
     ·rw [if_pos c3] at h; cases h
     ·rw [if_neg c3] at h
      have c4 : (oneS (l.drop (a + g)) (a + g)).1 = 0 := by omega
      obtain ⟨s1, s2⟩ := oneS_stop c4
      have s3 := oneS_pos (l.drop (a + g)) (a + g)
      obtain ⟨ts', e1, e2⟩ := consS_toks h
      injection e1 with e1 e3
      subst e3
      rw [← e1] at e2 s1 s2 s3
      rw [List.length_drop] at s2
      rw [s3]
      refine ⟨h0, Prod.ext c4 e1.symm, c2, by omega, ?_⟩
      rw [List.drop_drop, show a + g + (t.stop - (a + g)) = t.stop by omega] at e2
      exact e2
  ·rw [scanAt_open hne _ _ h0] at h; cases h
structure Pc where
 kind : Nat
 num : Nat
 text : List UInt8
 own : List UInt8
inductive Ch where
 | tok (p : Pc)
 | gap (g : List UInt8)
def textC : List Ch → List UInt8
 | [] => []
 | .tok p :: r => p.own ++ textC r
 | .gap g :: r => g ++ textC r
def toksC : List Ch → List Pc
 | [] => []
 | .tok p :: r => p :: toksC r
 | .gap _ :: r => toksC r
theorem textC_app : ∀ a b : List Ch, textC (a ++ b) = textC a ++ textC b
 | [], _ => rfl
 | .tok p :: r, b => by rw [List.cons_append, textC, textC, textC_app r b, List.append_assoc]
 | .gap g :: r, b => by rw [List.cons_append, textC, textC, textC_app r b, List.append_assoc]
theorem toksC_app : ∀ a b : List Ch, toksC (a ++ b) = toksC a ++ toksC b
 | [], _ => rfl
 | .tok p :: r, b => by rw [List.cons_append, toksC, toksC, toksC_app r b, List.cons_append]
 | .gap g :: r, b => by rw [List.cons_append, toksC, toksC, toksC_app r b]
def Soft (h : Option UInt8) : Prop := ∀ c, h = some c → alnB c = false ∧ c ≠ 62
def Gap (g : List UInt8) : Prop := (∃ c r, g = c :: r ∧ alnB c = false ∧ c ≠ 62) ∧ ∀ z p r, scanAt (g ++ z) p r = scanAt z (p + g.length) r
def PcOk (pc : Pc) (h : Option UInt8) : Prop := pc.own ≠ [] ∧ ∀ z, z.head? = h → ∀ p, skipN (pc.own ++ z) = some 0 ∧ oneS (pc.own ++ z) p = (0, ⟨pc.kind, p, p + pc.own.length, pc.num, pc.text⟩)
def hd (l : List UInt8) (h : Option UInt8) : Option UInt8 := match l with
 | [] => h
 | c :: _ => some c
theorem hd_app (a b : List UInt8) (h : Option UInt8) : hd (a ++ b) h = hd a (hd b h) := by cases a <;> rfl
def AdjT (h : Option UInt8) : List Ch → Prop
 | [] => True
 | .tok pc :: r => PcOk pc (hd (textC r) h) ∧ AdjT h r
 | .gap g :: r => Gap g ∧ AdjT h r
theorem adj_app : ∀ (a b : List Ch) (h : Option UInt8), AdjT (hd (textC b) h) a → AdjT h b → AdjT h (a ++ b)
 | [], _, _, _, hb => hb
 | .tok p :: r, b, h, ha, hb => by
  rw [List.cons_append]
  refine ⟨?_, adj_app r b h ha.2 hb⟩
  rw [textC_app, hd_app]
  exact ha.1
 | .gap g :: r, b, h, ha, hb => ⟨ha.1, adj_app r b h ha.2 hb⟩
def Same1 (L : List UInt8) (t : Tok) (pc : Pc) : Prop := t.kind = pc.kind ∧ t.num = pc.num ∧ t.text = pc.text ∧ (L.drop t.pos).take (t.stop - t.pos) = pc.own
def AllS (L : List UInt8) : List Tok → List Pc → Prop
 | [], [] => True
 | t :: ts, p :: ps => Same1 L t p ∧ AllS L ts ps
 | [], _ :: _ => False
 | _ :: _, [] => False
theorem scan_chunks (L : List UInt8) : ∀ (cs : List Ch) (pre : List UInt8) (room : Nat), L = pre ++ textC cs → AdjT none cs →
  (∃ us, scanAt (textC cs) pre.length room = .toks us ∧ AllS L us (toksC cs)) ∨ (room < (toksC cs).length ∧ ∃ q, scanAt (textC cs) pre.length room = .bad q 66)
 | [], pre, room, _, _ => .inl ⟨[], rfl, trivial⟩
 | .gap g :: r, pre, room, hL, hA => by
  have ih := scan_chunks L r (pre ++ g) room (by rw [hL, textC, List.append_assoc]) hA.2
  rw [List.length_append] at ih
  rw [textC, hA.1.2, toksC]
  exact ih
 | .tok pc :: r, pre, room, hL, hA => by
  obtain ⟨⟨hne, hok⟩, hr⟩ := hA
  have hh : (textC r).head? = hd (textC r) none := by cases textC r <;> rfl
  obtain ⟨h0, h1⟩ := hok (textC r) hh pre.length
  rw [textC, scanAt_tok (by simp [hne]) _ _ h0, h1, toksC]
  simp only
  rw [if_neg (by omega)]
  by_cases hroom : room = 0
  ·rw [if_pos hroom]
   exact .inr ⟨by simp; omega, _, rfl⟩
  ·rw [if_neg hroom, if_neg (by simp), Nat.add_sub_cancel_left, List.drop_append_of_le_length (Nat.le_refl _), List.drop_length, List.nil_append]
   have ih := scan_chunks L r (pre ++ pc.own) (room - 1) (by rw [hL, textC, List.append_assoc]) hr
   rw [List.length_append] at ih
   rcases ih with ⟨us, h2, h3⟩ | ⟨h2, q, h3⟩
   ·refine .inl ⟨_ :: us, by rw [h2]; rfl, ⟨rfl, rfl, rfl, ?_⟩, h3⟩
    show (L.drop pre.length).take (pre.length + pc.own.length - pre.length) = pc.own
    rw [hL, List.drop_append_of_le_length (Nat.le_refl _), List.drop_length, List.nil_append, Nat.add_sub_cancel_left, textC, List.take_append_of_le_length (Nat.le_refl _), List.take_length]
   ·exact .inr ⟨by simp; omega, q, by rw [h3]; rfl⟩
def Sees (S : Src) : Nat → List Pc → Prop
 | _, [] => True
 | a, pc :: r => (∃ t, S.ts[a]? = some t ∧ Same1 S.l t pc) ∧ Sees S (a + 1) r
theorem sees_app {S : Src} : ∀ (x y : List Pc) (a : Nat), Sees S a (x ++ y) ↔ Sees S a x ∧ Sees S (a + x.length) y
 | [], y, a => by simp [Sees]
 | p :: x, y, a => by
  rw [List.cons_append, Sees, Sees, sees_app x y (a + 1), length_cons, and_assoc, show a + 1 + x.length = a + (x.length + 1) by omega]
theorem sees_all (L : List UInt8) (ts : List Tok) : ∀ (us : List Tok) (ps : List Pc) (pre : List Tok), ts = pre ++ us → AllS L us ps → Sees ⟨L, ts⟩ pre.length ps ∧ us.length = ps.length
 | [], [], _, _, _ => ⟨trivial, rfl⟩
 | [], _ :: _, _, _, h => h.elim
 | _ :: _, [], _, _, h => h.elim
 | t :: us, p :: ps, pre, hts, h => by
  obtain ⟨h1, h2⟩ := sees_all L ts us ps (pre ++ [t]) (by rw [hts]; simp) h.2
  rw [List.length_append, List.length_singleton] at h1
  exact ⟨⟨⟨t, by rw [hts, List.getElem?_append_right (Nat.le_refl _), Nat.sub_self]; rfl, h.1⟩, h1⟩, by rw [length_cons, length_cons, h2]⟩
theorem scan_text {cs : List Ch} (hA : AdjT none cs) : (∃ us, scanS (textC cs) = .toks us ∧ Sees ⟨textC cs, us⟩ 0 (toksC cs) ∧ us.length = (toksC cs).length) ∨ (∃ q e, scanS (textC cs) = .bad q e ∧ 60 ≤ e ∧ e ≤ 66 ∧ (65536 < (textC cs).length ∨ 16384 < (toksC cs).length)) := by
 unfold scanS
 by_cases hl : 65536 < (textC cs).length
 ·rw [if_pos hl]
  exact .inr ⟨0, 60, rfl, by omega, by omega, .inl hl⟩
 ·rw [if_neg hl]
  rcases scan_chunks (textC cs) cs [] 16384 rfl hA with ⟨us, h1, h2⟩ | ⟨h1, q, h2⟩
  ·obtain ⟨h3, h4⟩ := sees_all (textC cs) us us (toksC cs) [] rfl h2
   exact .inl ⟨us, h1, h3, h4⟩
  ·exact .inr ⟨q, 66, h2, by omega, by omega, .inr h1⟩
section
variable {S : Src} {a : Nat} {pc : Pc} {r : List Pc}
theorem Sees.kind (h : Sees S a (pc :: r)) : kindP S a = pc.kind := by
 obtain ⟨⟨t, ht, h1⟩, -⟩ := h
 unfold kindP; rw [ht]; exact h1.1
theorem Sees.nm (h : Sees S a (pc :: r)) : nmP S a = ba pc.own := by
 obtain ⟨⟨t, ht, h1⟩, -⟩ := h
 unfold nmP; rw [ht]
 show ba _ = _
 rw [h1.2.2.2]
theorem Sees.num (h : Sees S a (pc :: r)) : numT S a = pc.num := by
 obtain ⟨⟨t, ht, h1⟩, -⟩ := h
 unfold numT; rw [ht]; exact h1.2.1
theorem Sees.text (h : Sees S a (pc :: r)) : textT S a = ba pc.text := by
 obtain ⟨⟨t, ht, h1⟩, -⟩ := h
 unfold textT; rw [ht]; show ba _ = _; rw [h1.2.2.1]
end
/-! ### pieces -/
theorem runS_ext (p : UInt8 → Bool) : ∀ (l z : List UInt8), runS p l = l.length → (∀ c, z.head? = some c → p c = false) → runS p (l ++ z) = l.length
 | [], z, _, h => by
  cases z with
  | nil => rfl
  | cons c z => simp [runS, h c rfl]
 | c :: l, z, hl, h => by
  by_cases hc : p c = true
  ·have e : runS p (c :: l) = runS p l + 1 := by simp [runS, hc]
   rw [e, length_cons] at hl
   have := runS_ext p l z (by omega) h
   rw [List.cons_append, length_cons]
   simp [runS, hc, this]
  ·have e : runS p (c :: l) = 0 := by simp [runS, hc]
   rw [e, length_cons] at hl; omega
def WordL (l : List UInt8) : Prop := ∃ c r, l = c :: r ∧ clsS c.toNat = 1 ∧ runS alnB l = l.length
theorem WordL.skip {l z : List UInt8} (h : WordL l) : skipN (l ++ z) = some 0 := by
 obtain ⟨c, r, rfl, h1, -⟩ := h
 refine skipN_zero (by omega) ?_ ?_
 ·rintro rfl; exact absurd h1 (by decide)
 ·rintro ⟨rfl, -⟩; exact absurd h1 (by decide)
theorem WordL.one {l z : List UInt8} (h : WordL l) (hz : Soft z.head?) (p : Nat) :
  oneS (l ++ z) p = if kindS l = 0 then (if 32 < l.length then 63 else 0, ⟨1, p, p + l.length, 0, []⟩) else (0, ⟨kindS l, p, p + l.length, 0, []⟩) := by
 have hr : runS alnB (l ++ z) = l.length := by
  obtain ⟨c, r, e, h1, h2⟩ := h
  exact runS_ext alnB l z h2 fun d hd => (hz d hd).1
 obtain ⟨c, r, rfl, h1, h2⟩ := h
 rw [List.cons_append] at hr ⊢
 rw [oneS_word _ p h1, hr]
 have ht : (c :: (r ++ z)).take (c :: r).length = c :: r := by
  rw [← List.cons_append, List.take_append_of_le_length (Nat.le_refl _), List.take_length]
 rw [ht]
theorem WordL.ne {l : List UInt8} (h : WordL l) : l ≠ [] := by
 obtain ⟨c, r, rfl, -⟩ := h
 exact fun h => by cases h
def NameL (l : List UInt8) : Prop := WordL l ∧ kindS l = 0 ∧ l.length ≤ 32
def pNm (l : List UInt8) : Pc := ⟨1, 0, [], l⟩
theorem nm_ok {l : List UInt8} (h : NameL l) {hh : Option UInt8} (hs : Soft hh) : PcOk (pNm l) hh := by
 refine ⟨h.1.ne, fun z hz p => ⟨h.1.skip, ?_⟩⟩
 show oneS (l ++ z) p = _
 rw [h.1.one (by rw [hz]; exact hs) p, if_pos h.2.1, if_neg (by have := h.2.2; omega)]
 rfl
def pK (k : Nat) : Pc := ⟨k, 0, [], wordsS.getD (k - 4) []⟩
theorem word_ok {k : Nat} (h4 : 4 ≤ k) (h14 : k ≤ 14) {hh : Option UInt8} (hs : Soft hh) : PcOk (pK k) hh := by
 have hw : WordL (wordsS.getD (k - 4) []) ∧ kindS (wordsS.getD (k - 4) []) = k := by
  have : k = 4 ∨ k = 5 ∨ k = 6 ∨ k = 7 ∨ k = 8 ∨ k = 9 ∨ k = 10 ∨ k = 11 ∨ k = 12 ∨ k = 13 ∨ k = 14 := by omega
  rcases this with rfl | rfl | rfl | rfl | rfl | rfl | rfl | rfl | rfl | rfl | rfl <;> exact ⟨⟨_, _, rfl, by decide, by decide⟩, by decide⟩
 refine ⟨hw.1.ne, fun z hz p => ⟨hw.1.skip, ?_⟩⟩
 show oneS (wordsS.getD (k - 4) [] ++ z) p = _
 rw [hw.1.one (by rw [hz]; exact hs) p, hw.2, if_neg (by omega)]
 rfl
theorem mark_ok {k : Nat} (hk : k = 15 ∨ k = 16 ∨ k = 17 ∨ k = 18 ∨ k = 19 ∨ k = 22 ∨ k = 23 ∨ k = 24 ∨ k = 25) (hh : Option UInt8) : PcOk (pK k) hh := by
 rcases hk with rfl | rfl | rfl | rfl | rfl | rfl | rfl | rfl | rfl
 all_goals
  refine ⟨by decide, fun z _ p => ⟨skipN_zero (c := _) (r := z) (by decide) (by decide) (fun h => absurd h.1 (by decide)), ?_⟩⟩
  refine oneS_mark p (by decide) (by decide) (by decide) ?_ (by decide)
  rintro ⟨hl, h2⟩
  refine h2 ?_
  cases z with
  | nil => exact absurd hl (by decide)
  | cons d z =>
   show kindS [_, d] = 0
   simp [kindS, wordsS, kFrom]
theorem arrow_ok (hh : Option UInt8) : PcOk (pK 21) hh := by
 refine ⟨by decide, fun z _ p => ⟨skipN_zero (c := 45) (r := 62 :: z) (by decide) (by decide) (fun h => absurd h.1 (by decide)), ?_⟩⟩
 exact oneS_two (c := 45) (r := 62 :: z) p (by decide) (by decide) (by decide) ⟨by simp, by show kindS [45, 62] ≠ 0; decide⟩
theorem minus_ok {hh : Option UInt8} (h : hh ≠ some 62) : PcOk (pK 20) hh := by
 refine ⟨by decide, fun z hz p => ⟨skipN_zero (c := 45) (r := z) (by decide) (by decide) (fun h => absurd h.1 (by decide)), ?_⟩⟩
 refine oneS_mark (c := 45) (r := z) p (by decide) (by decide) (by decide) ?_ (by decide)
 rintro ⟨hl, h2⟩
 refine h2 ?_
 cases z with
 | nil => exact absurd hl (by decide)
 | cons d z =>
  have hd : d ≠ 62 := fun e => h (by rw [← hz, e]; rfl)
  show kindS [45, d] = 0
  simp [kindS, wordsS, kFrom]
  exact fun e => absurd e.symm hd
def pTx (l : List UInt8) : Pc := ⟨3, 0, l, quoteS l⟩
end
section
open Go Go.RowKit

theorem text_ok (l : List UInt8) (hh : Option UInt8) : PcOk (pTx l) hh := by
 refine ⟨by simp [pTx, quoteS], fun z _ p => ⟨?_, ?_⟩⟩
 ·show skipN ((34 :: l.flatMap escS ++ [34]) ++ z) = some 0
  exact skipN_zero (c := 34) (r := _) (by decide) (by decide) (fun h => absurd h.1 (by decide))
 ·have h1 := qS_quote l
  have h2 := qS_app _ _ z _ (Nat.le_refl _) h1
  have e : (l.flatMap escS ++ [34]).take ((l.flatMap escS).length + 1) = l.flatMap escS ++ [34] := by
   rw [show (l.flatMap escS).length + 1 = (l.flatMap escS ++ [34]).length by simp, List.take_length]
  rw [e] at h2
  show oneS ((34 :: l.flatMap escS ++ [34]) ++ z) p = _
  have e2 : (34 :: l.flatMap escS ++ [34]) ++ z = 34 :: (l.flatMap escS ++ [34] ++ z) := by simp
  rw [e2, oneS_text_some _ p h2]
  simp [pTx, quoteS]; omega
/-! numbers -/
theorem dig_cls : ∀ k : Nat, k < 10 → clsS (UInt8.ofNat (48 + k)).toNat = 2 ∧ (UInt8.ofNat (48 + k)).toNat = 48 + k := by
 intro k hk
 have h : ∀ i : Fin 10, clsS (UInt8.ofNat (48 + i.val)).toNat = 2 ∧ (UInt8.ofNat (48 + i.val)).toNat = 48 + i.val := by decide
 exact h ⟨k, hk⟩
theorem runS_snoc (p : UInt8 → Bool) : ∀ (l : List UInt8) (d : UInt8), runS p l = l.length → p d = true → runS p (l ++ [d]) = l.length + 1
 | [], d, _, h => by simp [runS, h]
 | c :: l, d, hl, h => by
  by_cases hc : p c = true
  ·have e : runS p (c :: l) = runS p l + 1 := by simp [runS, hc]
   rw [e, List.length_cons] at hl
   have := runS_snoc p l d (by omega) h
   rw [List.cons_append, List.length_cons]
   simp [runS, hc, this]
  ·have e : runS p (c :: l) = 0 := by simp [runS, hc]
   rw [e, List.length_cons] at hl; omega
theorem run1_dig {c : UInt8} (h : digB c = true) : runS digB [c] = [c].length := by simp [runS, h]
theorem dec_law : ∀ u : Nat, numV (Lib.decDigits u) = u ∧ runS digB (Lib.decDigits u) = (Lib.decDigits u).length ∧ ∃ c r, Lib.decDigits u = c :: r ∧ clsS c.toNat = 2 ∧ (c = 48 → r = []) ∧ (0 < u → c ≠ 48) := by
 intro u
 induction u using Nat.strongRecOn with
 | ind u ih =>
 by_cases h : u < 10
 ·have e : Lib.decDigits u = [UInt8.ofNat (48 + u)] := by rw [Lib.decDigits, dif_pos h]
  obtain ⟨h1, h2⟩ := dig_cls u h
  have hb : digB (UInt8.ofNat (48 + u)) = true := by unfold digB; rw [h1]; rfl
  rw [e]
  refine ⟨?_, run1_dig hb, _, _, rfl, h1, fun _ => rfl, fun hu hc => ?_⟩
  ·show 10 * 0 + ((UInt8.ofNat (48 + u)).toNat - 48) = u
   rw [h2]; omega
  ·rw [hc] at h2
   have : (48 : UInt8).toNat = 48 := rfl
   omega
 ·have e : Lib.decDigits u = Lib.decDigits (u / 10) ++ [UInt8.ofNat (48 + u % 10)] := by rw [Lib.decDigits, dif_neg h]
  obtain ⟨h1, h2⟩ := dig_cls (u % 10) (by omega)
  obtain ⟨i1, i2, c, r, i3, i4, i5, i6⟩ := ih (u / 10) (by omega)
  have hb : digB (UInt8.ofNat (48 + u % 10)) = true := by unfold digB; rw [h1]; rfl
  rw [e]
  refine ⟨?_, ?_, c, r ++ [UInt8.ofNat (48 + u % 10)], by rw [i3]; rfl, i4, fun hc => absurd hc (i6 (by omega)), fun _ => i6 (by omega)⟩
  ·rw [numV_snoc, i1, h2]; omega
  ·rw [runS_snoc digB _ _ i2 hb, List.length_append, List.length_singleton]
def pNu (n : Int) : Pc := ⟨2, n.toNat, [], digW n⟩
theorem num_ok {n : Int} (h0 : 0 ≤ n) (h1 : n < 18446744073709551616) {hh : Option UInt8} (hs : Soft hh) : PcOk (pNu n) hh := by
 obtain ⟨u, rfl⟩ : ∃ u : Nat, n = u := ⟨n.toNat, by omega⟩
 have hd : digW (u : Int) = Lib.decDigits u := Lib.itoa_nonneg u
 obtain ⟨i1, i2, c, r, i3, i4, i5, i6⟩ := dec_law u
 have hne : digW (u : Int) ≠ [] := by rw [hd, i3]; exact List.cons_ne_nil _ _
 refine ⟨hne, fun z hz p => ?_⟩
 have hr : runS digB (digW (u : Int) ++ z) = (digW (u : Int)).length := by
  rw [hd]
  refine runS_ext digB _ z i2 fun d hd2 => ?_
  have h2 := (hs d (by rw [← hz]; exact hd2)).1
  simp only [alnB, Bool.or_eq_false_iff] at h2
  exact h2.1
 show skipN (digW (u : Int) ++ z) = some 0 ∧ oneS (digW (u : Int) ++ z) p = (0, ⟨2, p, p + (digW (u : Int)).length, (u : Int).toNat, []⟩)
 rw [hd] at hr ⊢
 have ht : (Lib.decDigits u ++ z).take (Lib.decDigits u).length = Lib.decDigits u := by rw [List.take_append_of_le_length (Nat.le_refl _), List.take_length]
 constructor
 ·rw [i3, List.cons_append]
  refine skipN_zero (by omega) ?_ ?_
  ·rintro rfl; exact absurd i4 (by decide)
  ·rintro ⟨rfl, -⟩; exact absurd i4 (by decide)
 ·have e : Lib.decDigits u ++ z = c :: (r ++ z) := by rw [i3]; rfl
  have h3 : oneS (Lib.decDigits u ++ z) p = oneS (c :: (r ++ z)) p := by rw [e]
  rw [h3, oneS_num _ p i4, ← e, hr, ht, i1]
  rw [if_neg]
  ·rfl
  ·rintro (h | ⟨h, h2⟩)
   ·omega
   ·rw [i3, i5 h] at h2
    simp at h2
/-! the gaps -/
theorem gap_blank {c : UInt8} (h : c = 32 ∨ c = 10) : Gap [c] := by
 refine ⟨⟨c, [], rfl, by rcases h with rfl | rfl <;> decide, by rcases h with rfl | rfl <;> decide⟩, fun z p r => ?_⟩
 have h3 : clsS c.toNat = 3 := by rcases h with rfl | rfl <;> decide
 rw [List.singleton_append, scanAt_skip p r (skipN_blank z h3) (by omega), List.drop_one]
 rfl
/-! ### the chunks of a tree -/
def sp : Ch := .gap [32]
def nl : Ch := .gap [10]
def cNm (s : ByteArray) : Ch := .tok (pNm (bs s))
def cK (k : Nat) : Ch := .tok (pK k)
def cMore : List Us → List Ch
 | [] => []
 | u :: us => cK 19 :: sp :: cNm u.name :: cMore us
def cUses : List Us → List Ch
 | [] => []
 | u :: us => cNm u.name :: cMore us
def cCaps (us : List Us) : List Ch := if us.length = 0 then [] else sp :: cK 5 :: sp :: cUses us
def cMark (op : Int) : List Ch := if op = 4 then [sp, cK 25, sp] else if op = 5 then [sp, cK 16, sp] else []
mutual
def cW : Wt → List Ch
 | .mk op num l => if op = 1 then [.tok (pNm anyWord)] else if op = 2 then [.tok (pNm (kindWords.getD num.toNat []))] else if op = 3 then [.tok (pNm (faceWords.getD num.toNat []))]
  else (if op = 6 then [cK 15] else []) ++ cWL op l true
def cWL : Int → List Wt → Bool → List Ch
 | _, [], _ => []
 | op, x :: xs, first => (if first then [] else cMark op) ++ ((if parW op x.op then cK 17 :: (cW x ++ [cK 18]) else cW x) ++ cWL op xs false)
end
def cWhen (w : Bool) (t : Wt) : List Ch := if w then sp :: cK 13 :: sp :: cW t else []
def cCoreB (c : CoreT) : List Ch := sp :: cNm c.word :: ((if c.has then sp :: ((if c.minus then [cK 20] else []) ++ [.tok (pNu c.num)]) else []) ++ cCaps c.caps)
def cNums (ns : List Int) : List Ch := ns.flatMap fun n => [sp, .tok (pNu n)]
def cWrapB (x : WrapT) : List Ch := sp :: cK 14 :: ((if x.opn then [sp, cK 11] else []) ++ (sp :: cNm x.word :: ((if x.sub.size = 0 then [] else [cK 22, cNm x.sub]) ++ (cNums x.nums ++ (cCaps x.caps ++ cWhen x.when_ x.want)))))
def cRoom (d : HandT) : List Ch := if d.room then sp :: cK 9 :: sp :: .tok (pNu d.inbox) :: (if d.drop.name.size = 0 then [] else [sp, cK 6, sp, cNm d.drop.name]) else []
def cAfter (us : List Us) : List Ch := if us.length = 0 then [] else sp :: cK 4 :: sp :: cUses us
def cHand (d : HandT) : List Ch := cK 8 :: sp :: cNm d.name :: sp :: cK 24 :: ((if d.of_.name.size = 0 then cCoreB d.core else [sp, cK 10, sp, cNm d.of_.name]) ++ (d.wraps.flatMap cWrapB ++ (cRoom d ++ (cAfter d.after ++ [cK 23, nl]))))
def cRoute (r : RouteT) : List Ch := cK 12 :: sp :: .tok (pTx (bs r.filter.name)) :: (cWhen r.when_ r.want ++ ((if r.els then [sp, cK 7] else []) ++ [sp, cK 21, sp, cNm r.to.name, cK 23, nl]))
def cTree (t : TreeT) : List Ch := t.hands.flatMap cHand ++ t.routes.flatMap cRoute
/-! their texts -/
theorem tx_k {k : Nat} (r : List Ch) : textC (cK k :: r) = wordsS.getD (k - 4) [] ++ textC r := rfl
theorem tx_sp (r : List Ch) : textC (sp :: r) = 32 :: textC r := rfl
theorem tx_nl (r : List Ch) : textC (nl :: r) = 10 :: textC r := rfl
theorem tx_nm (s : ByteArray) (r : List Ch) : textC (cNm s :: r) = bs s ++ textC r := rfl
theorem tx_more : ∀ us : List Us, textC (cMore us) = moreB false us
 | [] => rfl
 | u :: us => by
  rw [cMore, tx_k, tx_sp, tx_nm, tx_more us]
  simp [moreB, commaB, wordsS]
theorem tx_uses : ∀ us : List Us, textC (cUses us) = usesB us
 | [] => rfl
 | u :: us => by
  rw [cUses, tx_nm, tx_more, usesB_more]
  simp [moreB]
theorem tx_caps (us : List Us) : textC (cCaps us) = capsB us := by
 unfold cCaps capsB
 split
 ·rfl
 ·rw [tx_sp, tx_k, tx_sp, tx_uses]
  simp [spsB, spB, wordsS]
theorem tx_mark (op : Int) : textC (cMark op) = markB op := by
 unfold cMark markB
 split
 ·rfl
 ·split <;> rfl
mutual
theorem tx_w : ∀ t : Wt, textC (cW t) = wrW t
 | .mk op num l => by
  rw [cW, wrW]
  split
  ·simp [textC, pNm]
  ·split
   ·simp [textC, pNm]
   ·split
    ·simp [textC, pNm]
    ·rw [textC_app, tx_wl op l true]
     split <;> rfl
theorem tx_wl : ∀ (op : Int) (l : List Wt) (b : Bool), textC (cWL op l b) = wrL op l b
 | _, [], _ => by rw [cWL, wrL]; rfl
 | op, x :: xs, b => by
  rw [cWL, wrL, textC_app, textC_app, tx_wl op xs false]
  have e1 : textC (if b = true then [] else cMark op) = if b = true then [] else markB op := by
   split
   ·rfl
   ·exact tx_mark op
  have e2 : textC (if parW op x.op = true then cK 17 :: (cW x ++ [cK 18]) else cW x) = if parW op x.op = true then [40] ++ wrW x ++ [41] else wrW x := by
   split
   ·rw [tx_k, textC_app, tx_w x]
    rfl
   ·exact tx_w x
  rw [e1, e2]
end
theorem tx_when (w : Bool) (t : Wt) : textC (cWhen w t) = whenW w t := by
 unfold cWhen whenW
 split
 ·rw [tx_sp, tx_k, tx_sp, tx_w]
  simp [spsB, spB, wordsS]
 ·rfl
theorem tx_core (c : CoreT) : textC (cCoreB c) = coreW c := by
 unfold cCoreB coreW
 rw [tx_sp, tx_nm, textC_app, tx_caps]
 have e : textC (if c.has = true then sp :: ((if c.minus = true then [cK 20] else []) ++ [.tok (pNu c.num)]) else []) = if c.has = true then spsB [(if c.minus = true then [45] else []) ++ digW c.num] else [] := by
  split
  ·rw [tx_sp, textC_app]
   split <;> simp [textC, cK, pK, pNu, spsB, spB, wordsS]
  ·rfl
 rw [e]
 simp [spsB, spB]
theorem tx_nums : ∀ ns : List Int, textC (cNums ns) = (ns.map fun n => spsB [digW n]).flatten
 | [] => rfl
 | n :: ns => by
  have ih := tx_nums ns
  unfold cNums at ih ⊢
  rw [List.flatMap_cons, textC_app, ih]
  simp [textC, sp, pNu, spsB, spB]
theorem tx_wrap (x : WrapT) : textC (cWrapB x) = wrapW x := by
 unfold cWrapB wrapW subB
 rw [tx_sp, tx_k, textC_app, tx_sp, tx_nm, textC_app, textC_app, textC_app, tx_nums, tx_caps, tx_when]
 have e1 : textC (if x.opn = true then [sp, cK 11] else []) = if x.opn = true then spsB [[111, 112, 101, 110]] else [] := by split <;> rfl
 have e2 : textC (if x.sub.size = 0 then [] else [cK 22, cNm x.sub]) = if x.sub.size = 0 then [] else 58 :: bs x.sub := by
  split
  ·rfl
  ·simp [textC, cK, pK, cNm, pNm, wordsS]
 rw [e1, e2]
 simp [spsB, spB, wordsS]
theorem tx_wraps : ∀ xs : List WrapT, textC (xs.flatMap cWrapB) = (xs.map wrapW).flatten
 | [] => rfl
 | x :: xs => by rw [List.flatMap_cons, textC_app, tx_wrap, tx_wraps xs]; rfl
theorem tx_room (d : HandT) : textC (cRoom d) = roomW d := by
 unfold cRoom roomW
 split
 ·split
  ·simp [textC, sp, cK, pK, pNu, spsB, spB, wordsS]
  ·simp [textC, sp, cK, pK, pNu, cNm, pNm, spsB, spB, wordsS]
 ·rfl
theorem tx_after (us : List Us) : textC (cAfter us) = afterW us := by
 unfold cAfter afterW
 split
 ·rfl
 ·rw [tx_sp, tx_k, tx_sp, tx_uses]
  simp [spsB, spB, wordsS]
theorem tx_hand (d : HandT) : textC (cHand d) = handW d := by
 unfold cHand handW
 rw [tx_k, tx_sp, tx_nm, tx_sp, tx_k, textC_app, textC_app, textC_app, textC_app, tx_wraps, tx_room, tx_after]
 have e : textC (if d.of_.name.size = 0 then cCoreB d.core else [sp, cK 10, sp, cNm d.of_.name]) = if d.of_.name.size = 0 then coreW d.core else spsB [[111, 102], bs d.of_.name] := by
  split
  ·exact tx_core _
  ·simp [textC, sp, cK, pK, cNm, pNm, spsB, spB, wordsS]
 rw [e]
 simp [wordsS, textC, cK, pK, nl]
theorem tx_route (r : RouteT) : textC (cRoute r) = routeW r := by
 unfold cRoute routeW
 rw [tx_k, tx_sp, show textC (Ch.tok (pTx (bs r.filter.name)) :: (cWhen r.when_ r.want ++ ((if r.els = true then [sp, cK 7] else []) ++ [sp, cK 21, sp, cNm r.to.name, cK 23, nl]))) = quoteS (bs r.filter.name) ++ textC (cWhen r.when_ r.want ++ ((if r.els = true then [sp, cK 7] else []) ++ [sp, cK 21, sp, cNm r.to.name, cK 23, nl])) from rfl, textC_app, textC_app, tx_when]
 have e : textC (if r.els = true then [sp, cK 7] else []) = if r.els = true then spsB [[101, 108, 115, 101]] else [] := by split <;> rfl
 rw [e]
 simp [wordsS, textC, sp, cK, pK, cNm, pNm, nl, spsB, spB]
theorem tx_hands : ∀ ds : List HandT, textC (ds.flatMap cHand) = (ds.map handW).flatten
 | [] => rfl
 | d :: ds => by rw [List.flatMap_cons, textC_app, tx_hand, tx_hands ds]; rfl
theorem tx_routes : ∀ ds : List RouteT, textC (ds.flatMap cRoute) = (ds.map routeW).flatten
 | [] => rfl
 | d :: ds => by rw [List.flatMap_cons, textC_app, tx_route, tx_routes ds]; rfl
theorem tx_tree (t : TreeT) : textC (cTree t) = printW t := by
 unfold cTree printW
 rw [textC_app, tx_hands, tx_routes]
end
section
open Go Go.RowKit

theorem kFrom_ge : ∀ (ws : List (List UInt8)) (n : Nat) (s : List UInt8), kFrom ws n s ≠ 0 → n ≤ kFrom ws n s
 | [], _, _, h => absurd rfl h
 | x :: ws, n, s, h => by
  unfold kFrom at h ⊢
  split
  ·exact Nat.le_refl _
  ·rename_i hx
   rw [if_neg hx] at h
   have := kFrom_ge ws (n + 1) s h
   omega
theorem kindS_four {s : List UInt8} (h : kindS s ≠ 0) : 4 ≤ kindS s := kFrom_ge _ _ _ h
theorem name_l {s : ByteArray} (h : nameB s = true) : NameL (bs s) := by
 unfold nameB at h
 change (match scanS (bs s) with
  | .toks [t] => (t.kind == 1) && ((t.pos == 0) && (t.stop == (bs s).length))
  | _ => false) = true at h
 generalize bs s = l at *
 cases hs : scanS l with
 | bad p e => rw [hs] at h; cases h
 | toks ts =>
  rw [hs] at h
  match ts with
  | [] => cases h
  | _ :: _ :: _ => cases h
  | [t] =>
   simp only [Bool.and_eq_true, beq_iff_eq] at h
   obtain ⟨h1, h2, h3⟩ := h
   unfold scanS at hs
   split at hs
   ·cases hs
   ·have hf := scan_first (l := l) (a := 0) (r := 16384) (t := t) (ts := []) (Nat.zero_le _) (by rw [List.drop_zero]; exact hs)
    rw [h2, List.drop_zero] at hf
    obtain ⟨-, hf, -, -, -⟩ := hf
    cases l with
    | nil => simp [oneS] at hf
    | cons c r =>
     by_cases c1 : clsS c.toNat = 1
     ·rw [oneS_word r 0 c1] at hf
      by_cases hk : kindS ((c :: r).take (runS alnB (c :: r))) = 0
      ·rw [if_pos hk] at hf
       injection hf with f1 f2
       have f3 : t.stop = runS alnB (c :: r) := by rw [← f2]; show 0 + _ = _; omega
       have hr : runS alnB (c :: r) = (c :: r).length := by omega
       rw [hr, List.take_length] at hk
       rw [hr] at f1
       refine ⟨⟨c, r, rfl, c1, hr⟩, hk, ?_⟩
       split at f1
       ·cases f1
       ·omega
      ·rw [if_neg hk] at hf
       injection hf with f1 f2
       have : t.kind = kindS ((c :: r).take (runS alnB (c :: r))) := by rw [← f2]
       have hin := kindS_four hk
       omega
     ·exfalso
      have hkd : (oneS (c :: r) 0).2.kind = 1 := by rw [hf]; exact h1
      by_cases c2 : clsS c.toNat = 2
      ·rw [oneS_num r 0 c2] at hkd; cases hkd
      ·by_cases c3 : c = 34
       ·subst c3
        cases hq : qS r with
        | none => rw [oneS_text_none r 0 hq] at hkd; cases hkd
        | some x => rw [oneS_text_some r 0 hq] at hkd; cases hkd
       ·by_cases c4 : 2 ≤ (c :: r).length ∧ kindS ((c :: r).take 2) ≠ 0
        ·rw [oneS_two 0 c1 c2 c3 c4] at hkd
         have hin := kindS_four c4.2
         have hkd : kindS ((c :: r).take 2) = 1 := hkd
         omega
        ·by_cases c5 : kindS [c] ≠ 0
         ·rw [oneS_mark 0 c1 c2 c3 c4 c5] at hkd
          have hin := kindS_four c5
          have hkd : kindS [c] = 1 := hkd
          omega
         ·rw [oneS_none 0 c1 c2 c3 c4 c5] at hkd; cases hkd
def SoftC (cs : List Ch) : Prop := ∀ h, Soft h → Soft (hd (textC cs) h)
def AdjC (cs : List Ch) : Prop := ∀ h, Soft h → AdjT h cs
theorem soft_some {c : UInt8} (h1 : alnB c = false) (h2 : c ≠ 62) : Soft (some c) := fun d hd => by injection hd with hd; subst hd; exact ⟨h1, h2⟩
theorem softC_nil : SoftC [] := fun _ h => h
theorem softC_sp (r : List Ch) : SoftC (sp :: r) := fun _ _ => soft_some (by decide) (by decide)
theorem softC_nl (r : List Ch) : SoftC (nl :: r) := fun _ _ => soft_some (by decide) (by decide)
theorem softC_k {k : Nat} (hk : k = 18 ∨ k = 19 ∨ k = 22 ∨ k = 23) (r : List Ch) : SoftC (cK k :: r) := fun _ _ => by
 rcases hk with rfl | rfl | rfl | rfl <;> exact soft_some (by decide) (by decide)
theorem softC_app {a b : List Ch} (ha : SoftC a) (hb : SoftC b) : SoftC (a ++ b) := fun h hs => by rw [textC_app, hd_app]; exact ha _ (hb h hs)
theorem softC_ite {p : Prop} [Decidable p] {a b : List Ch} (ha : SoftC a) (hb : SoftC b) : SoftC (if p then a else b) := by split <;> assumption
theorem adjC_nil : AdjC [] := fun _ _ => trivial
theorem adjC_sp {r : List Ch} (hr : AdjC r) : AdjC (sp :: r) := fun h hs => ⟨gap_blank (.inl rfl), hr h hs⟩
theorem adjC_nl {r : List Ch} (hr : AdjC r) : AdjC (nl :: r) := fun h hs => ⟨gap_blank (.inr rfl), hr h hs⟩
theorem adjC_app {a b : List Ch} (ha : AdjC a) (hb : AdjC b) (hs : SoftC b) : AdjC (a ++ b) := fun h hh => adj_app a b h (ha _ (hs h hh)) (hb h hh)
theorem adjC_nm {s : ByteArray} {r : List Ch} (h : nameB s = true) (hr : AdjC r) (hs : SoftC r) : AdjC (cNm s :: r) := fun h' hh => ⟨nm_ok (name_l h) (hs h' hh), hr h' hh⟩
theorem adjC_nml {l : List UInt8} {r : List Ch} (h : NameL l) (hr : AdjC r) (hs : SoftC r) : AdjC (.tok (pNm l) :: r) := fun h' hh => ⟨nm_ok h (hs h' hh), hr h' hh⟩
theorem adjC_word {k : Nat} (h4 : 4 ≤ k) (h14 : k ≤ 14) {r : List Ch} (hr : AdjC r) (hs : SoftC r) : AdjC (cK k :: r) := fun h' hh => ⟨word_ok h4 h14 (hs h' hh), hr h' hh⟩
theorem adjC_mark {k : Nat} (hk : k = 15 ∨ k = 16 ∨ k = 17 ∨ k = 18 ∨ k = 19 ∨ k = 22 ∨ k = 23 ∨ k = 24 ∨ k = 25) {r : List Ch} (hr : AdjC r) : AdjC (cK k :: r) := fun h' hh => ⟨mark_ok hk _, hr h' hh⟩
theorem adjC_arrow {r : List Ch} (hr : AdjC r) : AdjC (cK 21 :: r) := fun h' hh => ⟨arrow_ok _, hr h' hh⟩
theorem adjC_text (l : List UInt8) {r : List Ch} (hr : AdjC r) : AdjC (.tok (pTx l) :: r) := fun h' hh => ⟨text_ok l _, hr h' hh⟩
theorem adjC_num {n : Int} (hn : NmN n) {r : List Ch} (hr : AdjC r) (hs : SoftC r) : AdjC (.tok (pNu n) :: r) := fun h' hh => ⟨num_ok hn.1 hn.2 (hs h' hh), hr h' hh⟩
theorem adjC_minus {n : Int} (hn : NmN n) {r : List Ch} (hr : AdjC r) (hs : SoftC r) : AdjC (cK 20 :: .tok (pNu n) :: r) := fun h' hh => by
 refine ⟨minus_ok ?_, adjC_num hn hr hs h' hh⟩
 obtain ⟨u, rfl⟩ : ∃ u : Nat, n = u := ⟨n.toNat, by have := hn.1; omega⟩
 obtain ⟨-, -, c, l, i3, i4, -, -⟩ := dec_law u
 have e : textC (.tok (pNu (u : Int)) :: r) = c :: (l ++ textC r) := by
  show digW (u : Int) ++ textC r = _
  rw [show digW (u : Int) = Lib.decDigits u from Lib.itoa_nonneg u, i3]; rfl
 rw [e]
 intro h
 injection h with h
 rw [h] at i4
 exact absurd i4 (by decide)
theorem adjC_ite {p : Prop} [Decidable p] {a b : List Ch} (ha : p → AdjC a) (hb : ¬ p → AdjC b) : AdjC (if p then a else b) := by
 split
 ·rename_i h; exact ha h
 ·rename_i h; exact hb h
theorem softC_more : ∀ us : List Us, SoftC (cMore us)
 | [] => softC_nil
 | _ :: _ => softC_k (.inr (.inl rfl)) _
theorem adj_more : ∀ us : List Us, namesB us = true → AdjC (cMore us)
 | [], _ => adjC_nil
 | u :: us, h => by
  unfold namesB at h
  rw [List.all_cons, Bool.and_eq_true] at h
  exact adjC_mark (by omega) (adjC_sp (adjC_nm h.1 (adj_more us h.2) (softC_more us)))
theorem adj_uses : ∀ us : List Us, namesB us = true → AdjC (cUses us)
 | [], _ => adjC_nil
 | u :: us, h => by
  unfold namesB at h
  rw [List.all_cons, Bool.and_eq_true] at h
  exact adjC_nm h.1 (adj_more us h.2) (softC_more us)
theorem softC_caps (us : List Us) : SoftC (cCaps us) := softC_ite softC_nil (softC_sp _)
theorem adj_caps {us : List Us} (h : namesB us = true) : AdjC (cCaps us) := adjC_ite (fun _ => adjC_nil) fun _ => adjC_sp (adjC_word (by omega) (by omega) (adjC_sp (adj_uses us h)) (softC_sp _))
theorem kw_name : ∀ k : Nat, k < 14 → NameL (kindWords.getD k []) := by
 intro k hk
 have : k = 0 ∨ k = 1 ∨ k = 2 ∨ k = 3 ∨ k = 4 ∨ k = 5 ∨ k = 6 ∨ k = 7 ∨ k = 8 ∨ k = 9 ∨ k = 10 ∨ k = 11 ∨ k = 12 ∨ k = 13 := by omega
 rcases this with rfl | rfl | rfl | rfl | rfl | rfl | rfl | rfl | rfl | rfl | rfl | rfl | rfl | rfl <;> exact ⟨⟨_, _, rfl, by decide, by decide⟩, by decide, by decide⟩
theorem fw_name : ∀ k : Nat, k < 10 → NameL (faceWords.getD k []) := by
 intro k hk
 have : k = 0 ∨ k = 1 ∨ k = 2 ∨ k = 3 ∨ k = 4 ∨ k = 5 ∨ k = 6 ∨ k = 7 ∨ k = 8 ∨ k = 9 := by omega
 rcases this with rfl | rfl | rfl | rfl | rfl | rfl | rfl | rfl | rfl | rfl <;> exact ⟨⟨_, _, rfl, by decide, by decide⟩, by decide, by decide⟩
theorem any_name : NameL anyWord := ⟨⟨_, _, rfl, by decide, by decide⟩, by decide, by decide⟩
theorem softC_mark {op : Int} (h : op = 4 ∨ op = 5) (r : List Ch) : SoftC (cMark op ++ r) := by
 rcases h with rfl | rfl <;> exact softC_sp _
mutual
theorem adj_w : ∀ (t : Wt) (d : Nat), patW t d = true → AdjC (cW t)
 | .mk op num l, d, h => by
  rw [patW, Bool.and_eq_true] at h
  rw [cW]
  obtain ⟨-, h⟩ := h
  split
  ·exact adjC_nml any_name adjC_nil softC_nil
  ·rename_i h1
   rw [if_neg h1] at h
   split
   ·rename_i h2
    rw [if_pos h2] at h
    simp only [Bool.and_eq_true, decide_eq_true_eq] at h
    exact adjC_nml (kw_name _ (by omega)) adjC_nil softC_nil
   ·rename_i h2
    rw [if_neg h2] at h
    split
    ·rename_i h3
     rw [if_pos h3] at h
     simp only [Bool.and_eq_true, decide_eq_true_eq] at h
     exact adjC_nml (fw_name _ (by omega)) adjC_nil softC_nil
    ·rename_i h3
     rw [if_neg h3] at h
     split
     ·rename_i h6
      rw [if_pos h6] at h
      simp only [Bool.and_eq_true, decide_eq_true_eq] at h
      exact adjC_mark (by omega) (adj_wl op l true (d + 1) (.inr (.inr (by omega))) h.2.2)
     ·rename_i h6
      rw [if_neg h6] at h
      split at h
      ·rename_i h45
       simp only [Bool.and_eq_true, decide_eq_true_eq] at h
       exact adj_wl op l true d (by omega) h.2.2
      ·cases h
theorem adj_wl : ∀ (op : Int) (l : List Wt) (b : Bool) (d : Nat), (op = 4 ∨ op = 5 ∨ l.length ≤ 1) → patL op l d = true → AdjC (cWL op l b)
 | _, [], _, _, _, _ => by rw [cWL]; exact adjC_nil
 | op, x :: xs, b, d, hop, h => by
  rw [patL, Bool.and_eq_true] at h
  rw [cWL]
  have hrest : AdjC (cWL op xs false) := adj_wl op xs false d (by rcases hop with h | h | h; exact .inl h; exact .inr (.inl h); exact .inr (.inr (by simp at h; simp [h]))) h.2
  have hsoft : SoftC (cWL op xs false) := by
   cases xs with
   | nil => rw [cWL]; exact softC_nil
   | cons y ys =>
    rw [cWL]
    exact softC_mark (by rcases hop with h | h | h; exact .inl h; exact .inr h; simp at h) _
  have hx : AdjC (if parW op x.op = true then cK 17 :: (cW x ++ [cK 18]) else cW x) := adjC_ite (fun _ => adjC_mark (by omega) (adjC_app (adj_w x _ h.1) (adjC_mark (by omega) adjC_nil) (softC_k (.inl rfl) _))) fun _ => adj_w x _ h.1
  have hm : AdjC ((if parW op x.op = true then cK 17 :: (cW x ++ [cK 18]) else cW x) ++ cWL op xs false) := adjC_app hx hrest hsoft
  cases b with
  | true => exact hm
  | false =>
   rw [if_neg (by decide)]
   unfold cMark
   split
   ·exact adjC_sp (adjC_mark (by omega) (adjC_sp hm))
   ·split
    ·exact adjC_sp (adjC_mark (by omega) (adjC_sp hm))
    ·exact hm
end
theorem softC_when (w : Bool) (t : Wt) : SoftC (cWhen w t) := softC_ite (softC_sp _) softC_nil
theorem adj_when {w : Bool} {t : Wt} (h : whenB w t = true) : AdjC (cWhen w t) := by
 cases w with
 | false => exact adjC_nil
 | true =>
  have h : rightB t = true := h
  unfold rightB at h
  rw [Bool.and_eq_true] at h
  exact adjC_sp (adjC_word (by omega) (by omega) (adjC_sp (adj_w t 0 h.1)) (softC_sp _))
theorem adj_core {c : CoreT} (h : coreB c = true) (hn : NmN c.num) : AdjC (cCoreB c) := by
 unfold coreB at h
 simp only [Bool.and_eq_true] at h
 have hc := adj_caps h.2.2
 have hs := softC_caps c.caps
 refine adjC_sp (adjC_nm h.1 (adjC_app (adjC_ite (fun _ => ?_) fun _ => adjC_nil) hc hs) (softC_app (softC_ite (softC_sp _) softC_nil) hs))
 refine adjC_sp ?_
 cases c.minus with
 | false => exact adjC_num hn adjC_nil softC_nil
 | true => exact adjC_minus hn adjC_nil softC_nil
theorem softC_core (c : CoreT) : SoftC (cCoreB c) := softC_sp _
theorem softC_nums : ∀ ns : List Int, SoftC (cNums ns)
 | [] => softC_nil
 | _ :: _ => softC_sp _
theorem adj_nums : ∀ ns : List Int, (∀ n ∈ ns, NmN n) → AdjC (cNums ns)
 | [], _ => adjC_nil
 | n :: ns, h => adjC_sp (adjC_num (h n (List.mem_cons_self ..)) (adj_nums ns fun m hm => h m (List.mem_cons_of_mem _ hm)) (softC_nums ns))
theorem adj_wrap {x : WrapT} (h : wrapB x = true) (hn : ∀ n ∈ x.nums, NmN n) : AdjC (cWrapB x) := by
 unfold wrapB at h
 simp only [Bool.and_eq_true] at h
 obtain ⟨h1, h2, h3, h4, h5⟩ := h
 have a5 := adj_when h5
 have s5 := softC_when x.when_ x.want
 have a4 := adjC_app (adj_caps h4) a5 s5
 have s4 := softC_app (softC_caps x.caps) s5
 have a3 := adjC_app (adj_nums x.nums hn) a4 s4
 have s3 := softC_app (softC_nums x.nums) s4
 have a2 : AdjC ((if x.sub.size = 0 then [] else [cK 22, cNm x.sub]) ++ (cNums x.nums ++ (cCaps x.caps ++ cWhen x.when_ x.want))) := adjC_app (adjC_ite (fun _ => adjC_nil) fun h0 => adjC_mark (by omega) (adjC_nm (by simpa [h0] using h2) adjC_nil softC_nil)) a3 s3
 have s2 : SoftC ((if x.sub.size = 0 then [] else [cK 22, cNm x.sub]) ++ (cNums x.nums ++ (cCaps x.caps ++ cWhen x.when_ x.want))) := softC_app (softC_ite softC_nil (softC_k (by omega) _)) s3
 refine adjC_sp (adjC_word (by omega) (by omega) (adjC_app (adjC_ite (fun _ => adjC_sp (adjC_word (by omega) (by omega) adjC_nil softC_nil)) fun _ => adjC_nil) (adjC_sp (adjC_nm h1 a2 s2)) (softC_sp _)) (softC_app (softC_ite (softC_sp _) softC_nil) (softC_sp _)))
theorem adj_wraps : ∀ xs : List WrapT, (∀ x ∈ xs, wrapB x = true ∧ ∀ n ∈ x.nums, NmN n) → AdjC (xs.flatMap cWrapB) ∧ SoftC (xs.flatMap cWrapB)
 | [], _ => ⟨adjC_nil, softC_nil⟩
 | x :: xs, h => by
  obtain ⟨h1, h2⟩ := adj_wraps xs fun y hy => h y (List.mem_cons_of_mem _ hy)
  obtain ⟨h3, h4⟩ := h x (List.mem_cons_self ..)
  rw [List.flatMap_cons]
  exact ⟨adjC_app (adj_wrap h3 h4) h1 h2, softC_app (softC_sp _) h2⟩
theorem adj_hand {d : HandT} (h : handB d = true) (hn : NmH d) : AdjC (cHand d) := by
 unfold handB headB at h
 simp only [Bool.and_eq_true] at h
 obtain ⟨⟨h1, h2, h3, h4⟩, h5, h6⟩ := h
 have aE : AdjC [cK 23, nl] := adjC_mark (by omega) (adjC_nl adjC_nil)
 have sE : SoftC [cK 23, nl] := softC_k (by omega) _
 have aA : AdjC (cAfter d.after ++ [cK 23, nl]) := adjC_app (adjC_ite (fun _ => adjC_nil) fun _ => adjC_sp (adjC_word (by omega) (by omega) (adjC_sp (adj_uses _ h2)) (softC_sp _))) aE sE
 have sA : SoftC (cAfter d.after ++ [cK 23, nl]) := softC_app (softC_ite softC_nil (softC_sp _)) sE
 have aR : AdjC (cRoom d ++ (cAfter d.after ++ [cK 23, nl])) := by
  refine adjC_app (adjC_ite (fun _ => ?_) fun _ => adjC_nil) aA sA
  refine adjC_sp (adjC_word (by omega) (by omega) (adjC_sp (adjC_num hn.2.2.2.1 (adjC_ite (fun _ => adjC_nil) fun h0 => ?_) (softC_ite softC_nil (softC_sp _)))) (softC_sp _))
  exact adjC_sp (adjC_word (by omega) (by omega) (adjC_sp (adjC_nm (by simpa [h0] using h4) adjC_nil softC_nil)) (softC_sp _))
 have sR : SoftC (cRoom d ++ (cAfter d.after ++ [cK 23, nl])) := softC_app (softC_ite (softC_sp _) softC_nil) sA
 obtain ⟨aW, sW⟩ := adj_wraps d.wraps fun x hx => ⟨List.all_eq_true.1 h6 x hx, (hn.2.2.1 x hx).1⟩
 have aW2 := adjC_app aW aR sR
 have sW2 := softC_app sW sR
 have aB : AdjC ((if d.of_.name.size = 0 then cCoreB d.core else [sp, cK 10, sp, cNm d.of_.name]) ++ (d.wraps.flatMap cWrapB ++ (cRoom d ++ (cAfter d.after ++ [cK 23, nl])))) := by
  refine adjC_app (adjC_ite (fun h0 => ?_) fun h0 => ?_) aW2 sW2
  ·rw [if_pos h0] at h5
   exact adj_core h5 hn.1
  ·rw [if_neg h0, Bool.and_eq_true] at h5
   exact adjC_sp (adjC_word (by omega) (by omega) (adjC_sp (adjC_nm h5.1 adjC_nil softC_nil)) (softC_sp _))
 exact adjC_word (by omega) (by omega) (adjC_sp (adjC_nm h1 (adjC_sp (adjC_mark (by omega) aB)) (softC_sp _))) (softC_sp _)
theorem adj_route {r : RouteT} (h : routeB r = true) : AdjC (cRoute r) := by
 unfold routeB at h
 simp only [Bool.and_eq_true] at h
 obtain ⟨h1, -, -, h4⟩ := h
 refine adjC_word (by omega) (by omega) (adjC_sp (adjC_text _ (adjC_app (adj_when h4) (adjC_app (adjC_ite (fun _ => adjC_sp (adjC_word (by omega) (by omega) adjC_nil softC_nil)) fun _ => adjC_nil) (adjC_sp (adjC_arrow (adjC_sp (adjC_nm h1 (adjC_mark (by omega) (adjC_nl adjC_nil)) (softC_k (by omega) _))))) (softC_sp _)) (softC_app (softC_ite (softC_sp _) softC_nil) (softC_sp _))))) (softC_sp _)
theorem adj_flat {α : Type} {f : α → List Ch} : ∀ xs : List α, (∀ x ∈ xs, ∀ h, AdjT h (f x)) → ∀ h, AdjT h (xs.flatMap f)
 | [], _, _ => trivial
 | x :: xs, h, hh => by
  rw [List.flatMap_cons]
  exact adj_app _ _ _ (h x (List.mem_cons_self ..) _) (adj_flat xs (fun y hy => h y (List.mem_cons_of_mem _ hy)) hh)
theorem adj_nl {a : List Ch} : ∀ {cs : List Ch}, cs = a ++ [nl] → (∀ h, Soft h → AdjT h cs) → ∀ h, AdjT h cs := by
 intro cs e hs h
 subst e
 have h1 := hs (some 32) (soft_some (by decide) (by decide))
 have key : ∀ (a : List Ch) (h h' : Option UInt8), AdjT h (a ++ [nl]) → AdjT h' (a ++ [nl]) := by
  intro a
  induction a with
  | nil => intro h h' hh; exact ⟨hh.1, trivial⟩
  | cons c a ih =>
   intro h h' hh
   cases c with
   | gap g => exact ⟨hh.1, ih h h' hh.2⟩
   | tok pc =>
    refine ⟨?_, ih h h' hh.2⟩
    have e : hd (textC (a ++ [nl])) h = hd (textC (a ++ [nl])) h' := by
     rw [textC_app, hd_app, hd_app]; rfl
    have h2 : PcOk pc (hd (textC (a ++ [nl])) h) := hh.1
    show PcOk pc (hd (textC (a ++ [nl])) h')
    rw [← e]
    exact h2
 exact key a _ h h1
theorem adj_tree {t : TreeT} (h : fitT t = true) (hn : NmT t) : AdjT none (cTree t) := by
 unfold fitT at h
 rw [Bool.and_eq_true] at h
 unfold cTree
 refine adj_app _ _ _ (adj_flat _ (fun d hd => ?_) _) (adj_flat _ (fun r hr => ?_) _)
 ·refine adj_nl (a := cK 8 :: sp :: cNm d.name :: sp :: cK 24 :: ((if d.of_.name.size = 0 then cCoreB d.core else [sp, cK 10, sp, cNm d.of_.name]) ++ (d.wraps.flatMap cWrapB ++ (cRoom d ++ (cAfter d.after ++ [cK 23]))))) (by simp [cHand]) (adj_hand (List.all_eq_true.1 h.1 d hd) (hn d hd))
 ·refine adj_nl (a := cK 12 :: sp :: .tok (pTx (bs r.filter.name)) :: (cWhen r.when_ r.want ++ ((if r.els then [sp, cK 7] else []) ++ [sp, cK 21, sp, cNm r.to.name, cK 23]))) (by simp [cRoute]) (adj_route (List.all_eq_true.1 h.2 r hr))
end
section
open List (length_append length_cons)
open Go Go.RowKit

theorem sees_le {S : Src} : ∀ (l : List Pc) (a : Nat), Sees S a l → 0 < l.length → a + l.length ≤ S.ts.length
 | [], _, _, h => absurd h (by simp)
 | [p], a, h, _ => by
  obtain ⟨⟨t, ht, -⟩, -⟩ := h
  have := (List.getElem?_eq_some_iff.1 ht).1
  simp; omega
 | p :: q :: r, a, h, _ => by
  have := sees_le (q :: r) (a + 1) h.2 (by simp)
  simp only [length_cons] at this ⊢; omega
def fk (l : List Pc) (e : Nat) : Nat := match l with
 | [] => e
 | p :: _ => p.kind
theorem fk_app (x y : List Pc) (e : Nat) : fk (x ++ y) e = fk x (fk y e) := by cases x <;> rfl
theorem Sees.fk {S : Src} {l : List Pc} {a e : Nat} (h : Sees S a l) (he : kindP S (a + l.length) = e) : kindP S a = fk l e := by
 cases l with
 | nil => exact he
 | cons p r => exact h.kind
theorem tk_k (k : Nat) (r : List Ch) : toksC (cK k :: r) = pK k :: toksC r := rfl
theorem tk_sp (r : List Ch) : toksC (sp :: r) = toksC r := rfl
theorem tk_nl (r : List Ch) : toksC (nl :: r) = toksC r := rfl
theorem tk_nm (s : ByteArray) (r : List Ch) : toksC (cNm s :: r) = pNm (bs s) :: toksC r := rfl
theorem ba_list (l : List UInt8) : (ba l).data.toList = l := by simp [ba]
theorem word_any : wordW anyWord = some (.mk 1 0 []) := rfl
theorem word_kind : ∀ k : Nat, k < 14 → wordW (kindWords.getD k []) = some (.mk 2 (k : Nat) []) := by
 intro k hk
 have : k = 0 ∨ k = 1 ∨ k = 2 ∨ k = 3 ∨ k = 4 ∨ k = 5 ∨ k = 6 ∨ k = 7 ∨ k = 8 ∨ k = 9 ∨ k = 10 ∨ k = 11 ∨ k = 12 ∨ k = 13 := by omega
 rcases this with rfl | rfl | rfl | rfl | rfl | rfl | rfl | rfl | rfl | rfl | rfl | rfl | rfl | rfl <;> rfl
theorem word_face : ∀ k : Nat, k < 10 → wordW (faceWords.getD k []) = some (.mk 3 (k : Nat) []) := by
 intro k hk
 have : k = 0 ∨ k = 1 ∨ k = 2 ∨ k = 3 ∨ k = 4 ∨ k = 5 ∨ k = 6 ∨ k = 7 ∨ k = 8 ∨ k = 9 := by omega
 rcases this with rfl | rfl | rfl | rfl | rfl | rfl | rfl | rfl | rfl | rfl <;> rfl
theorem cnt_mem {x : Wt} : ∀ {l : List Wt}, x ∈ l → cntW x ≤ cntL l
 | y :: l, h => by
  rw [cntL]
  rcases List.mem_cons.1 h with rfl | h
  ·omega
  ·have := cnt_mem h; omega
def pieceC (op : Int) (x : Wt) : List Ch := if parW op x.op then cK 17 :: (cW x ++ [cK 18]) else cW x
theorem patL_mem {op : Int} {x : Wt} {d : Nat} : ∀ {l : List Wt}, patL op l d = true → x ∈ l → patW x (d + (if parW op x.op then 1 else 0)) = true
 | y :: l, h, hx => by
  rw [patL, Bool.and_eq_true] at h
  rcases List.mem_cons.1 hx with rfl | hx
  ·exact h.1
  ·exact patL_mem h.2 hx
section
variable {S : Src}
theorem more_back {op : Int} {mark : Nat} {operand : Nat → PR Wt} (hm : toksC (cMark op) = [pK mark]) (nk : Nat → Prop) (hnk : nk mark) :
  ∀ (xs acc : List Wt) (f a e : Nat), (∀ y ∈ xs, ∀ a, Sees S a (toksC (pieceC op y)) → nk (kindP S (a + (toksC (pieceC op y)).length)) → operand a = .ok y (a + (toksC (pieceC op y)).length)) →
   Sees S a (toksC (cWL op xs false)) → kindP S (a + (toksC (cWL op xs false)).length) = e → e ≠ mark → nk e → xs.length < f → moreW S mark operand f acc a = .ok (acc ++ xs) (a + (toksC (cWL op xs false)).length)
 | [], acc, f, a, e, _, _, he, hne, _, hf => by
  obtain ⟨f, rfl⟩ : ∃ g, f = g + 1 := ⟨f - 1, by simp at hf; omega⟩
  rw [cWL] at he ⊢
  have he : kindP S a = e := he
  unfold moreW
  rw [if_neg (by omega), List.append_nil]
  rfl
 | y :: ys, acc, f, a, e, hop, hs, he, hne, hnke, hf => by
  obtain ⟨f, rfl⟩ : ∃ g, f = g + 1 := ⟨f - 1, by simp at hf; omega⟩
  have e1 : toksC (cWL op (y :: ys) false) = pK mark :: (toksC (pieceC op y) ++ toksC (cWL op ys false)) := by
   rw [cWL, if_neg (by decide), toksC_app, hm, toksC_app]; rfl
  rw [e1] at hs he ⊢
  have hk : kindP S a = mark := hs.kind
  obtain ⟨-, hs⟩ := hs
  rw [sees_app] at hs
  rw [length_cons, length_append] at he ⊢
  have hkn : kindP S (a + 1 + (toksC (pieceC op y)).length) = fk (toksC (cWL op ys false)) e := hs.2.fk (by rw [← he]; congr 1; omega)
  have hnk2 : nk (kindP S (a + 1 + (toksC (pieceC op y)).length)) := by
   rw [hkn]
   cases ys with
   | nil => rw [cWL]; exact hnke
   | cons z zs => rw [cWL, if_neg (by decide), toksC_app, hm]; exact hnk
  have h1 := hop y (List.mem_cons_self ..) (a + 1) hs.1 hnk2
  have h2 := more_back hm nk hnk ys (acc ++ [y]) f (a + 1 + (toksC (pieceC op y)).length) e (fun z hz => hop z (List.mem_cons_of_mem _ hz)) hs.2 (by rw [← he]; congr 1; omega) hne hnke (by simp at hf; omega)
  unfold moreW
  rw [if_pos hk, h1, PR.bind_ok, h2, List.append_assoc]
  congr 1; omega
theorem row_back {op : Int} {mark : Nat} {operand : Nat → PR Wt} (hm : toksC (cMark op) = [pK mark]) (nk : Nat → Prop) (hnk : nk mark) {l : List Wt} (h2 : 2 ≤ l.length) {a e : Nat} (hop : ∀ y ∈ l, ∀ a, Sees S a (toksC (pieceC op y)) → nk (kindP S (a + (toksC (pieceC op y)).length)) → operand a = .ok y (a + (toksC (pieceC op y)).length))
  (hs : Sees S a (toksC (cWL op l true))) (he : kindP S (a + (toksC (cWL op l true)).length) = e) (hne : e ≠ mark) (hnke : nk e) : rowP S op mark operand a = .ok (.mk op 0 l) (a + (toksC (cWL op l true)).length) := by
 match l, h2 with
 | x :: y :: ys, _ =>
  have e1 : toksC (cWL op (x :: y :: ys) true) = toksC (pieceC op x) ++ toksC (cWL op (y :: ys) false) := by
   rw [cWL, if_pos rfl, List.nil_append, toksC_app]; rfl
  have h0 : 0 < (toksC (cWL op (y :: ys) false)).length := by
   rw [cWL, if_neg (by decide), toksC_app, hm]; simp
  have hw := sees_le _ _ hs (by rw [e1, length_append]; omega)
  have hlen : ∀ zs : List Wt, zs.length ≤ (toksC (cWL op zs false)).length := by
   intro zs
   induction zs with
   | nil => simp
   | cons z zs ih => rw [cWL, if_neg (by decide), toksC_app, toksC_app, hm]; simp; omega
  have hl2 := hlen (y :: ys)
  rw [e1] at hs he hw ⊢
  rw [sees_app] at hs
  rw [length_append] at he hw ⊢
  have hkn : kindP S (a + (toksC (pieceC op x)).length) = mark := by
   have h := hs.2
   rw [cWL, if_neg (by decide), toksC_app, hm] at h
   exact h.kind
  have h1 := hop x (List.mem_cons_self ..) a hs.1 (by rw [hkn]; exact hnk)
  have h2 := more_back hm nk hnk (y :: ys) [x] (fuel S) (a + (toksC (pieceC op x)).length) e (fun z hz => hop z (List.mem_cons_of_mem _ hz)) hs.2 (by rw [← he]; congr 1; omega) hne hnke (by unfold fuel; omega)
  unfold rowP
  rw [h1, PR.bind_ok, h2, PR.bind_ok]
  show PR.ok (Wt.mk op 0 (x :: y :: ys)) _ = _
  congr 1; omega
theorem single_back {op : Int} {mark : Nat} {operand : Nat → PR Wt} {x : Wt} {a b : Nat} (h : operand a = .ok x b) (hk : kindP S b ≠ mark) : rowP S op mark operand a = .ok x b := by
 unfold rowP
 rw [h, PR.bind_ok]
 unfold fuel moreW
 rw [if_neg hk]
 rfl
theorem pats_back : ∀ (n : Nat) (x : Wt), cntW x ≤ n →
  (∀ d f a, patW x d = true → x.op ≠ 4 → x.op ≠ 5 → Sees S a (toksC (cW x)) → (toksC (cW x)).length < f → oneP S f d a = .ok x (a + (toksC (cW x)).length)) ∧
  (∀ d f a, patW x d = true → x.op ≠ 4 → Sees S a (toksC (cW x)) → (toksC (cW x)).length < f → kindP S (a + (toksC (cW x)).length) ≠ 16 → rowP S 5 16 (oneP S f d) a = .ok x (a + (toksC (cW x)).length)) ∧
  (∀ d f a, patW x d = true → Sees S a (toksC (cW x)) → (toksC (cW x)).length < f → kindP S (a + (toksC (cW x)).length) ≠ 16 → kindP S (a + (toksC (cW x)).length) ≠ 25 → rowP S 4 25 (rowP S 5 16 (oneP S f d)) a = .ok x (a + (toksC (cW x)).length)) ∧
  (∀ d f a, patW x (d + 1) = true → Sees S a (toksC (cK 17 :: (cW x ++ [cK 18]))) → (toksC (cW x)).length + 1 < f → oneP S f d a = .ok x (a + (toksC (cK 17 :: (cW x ++ [cK 18]))).length)) := by
 intro n
 induction n with
 | zero => intro x hx; have := cntW_pos x; omega
 | succ n ih =>
  intro x hx
  obtain ⟨op, num, l⟩ := x
  have hch : ∀ y ∈ l, cntW y ≤ n := fun y hy => by
   have := cnt_mem hy
   rw [cntW] at hx; omega
  -- an operand as oneP reads it
  have hone : ∀ (o : Int), o = 5 ∨ o = 6 → ∀ y ∈ l, ∀ d f a, patW y (d + (if parW o y.op then 1 else 0)) = true → Sees S a (toksC (pieceC o y)) → (toksC (pieceC o y)).length < f → oneP S f d a = .ok y (a + (toksC (pieceC o y)).length) := by
   intro o ho y hy d f a hp hs hf
   obtain ⟨i1, -, -, i4⟩ := ih y (hch y hy)
   unfold pieceC at hs hf ⊢
   by_cases hpar : parW o y.op = true
   ·rw [if_pos hpar] at hs hf hp ⊢
    refine i4 d f a hp hs ?_
    rw [tk_k, toksC_app] at hf
    simp at hf; omega
   ·rw [if_neg hpar] at hs hf hp ⊢
    have h45 : y.op ≠ 4 ∧ y.op ≠ 5 := by
     rcases ho with rfl | rfl <;> (unfold parW at hpar; constructor <;> (intro h; rw [h] at hpar; exact hpar (by decide)))
    exact i1 d f a hp h45.1 h45.2 hs hf
  have A : ∀ d f a, patW (.mk op num l) d = true → op ≠ 4 → op ≠ 5 → Sees S a (toksC (cW (.mk op num l))) → (toksC (cW (.mk op num l))).length < f → oneP S f d a = .ok (.mk op num l) (a + (toksC (cW (.mk op num l))).length) := by
   intro d f a hp h4 h5 hs hf
   obtain ⟨f, rfl⟩ : ∃ g, f = g + 1 := ⟨f - 1, by omega⟩
   have hp0 := hp
   rw [patW, Bool.and_eq_true] at hp
   obtain ⟨h32, hp⟩ := hp
   rw [cW] at hs hf ⊢
   by_cases h1 : op = 1
   ·subst h1
    rw [if_pos rfl] at hs hf hp ⊢
    simp only [Bool.and_eq_true, decide_eq_true_eq] at hp
    obtain ⟨rfl, hl⟩ := hp
    obtain rfl := List.eq_nil_of_length_eq_zero hl
    have hk : kindP S a = 1 := hs.kind
    have hn : nmP S a = ba anyWord := hs.nm
    conv => lhs; unfold oneP
    rw [if_neg (by omega), if_neg (by omega), if_pos hk, hn, ba_list, word_any]
    rfl
   ·rw [if_neg h1] at hs hf hp ⊢
    by_cases h2 : op = 2
    ·subst h2
     rw [if_pos rfl] at hs hf hp ⊢
     simp only [Bool.and_eq_true, decide_eq_true_eq] at hp
     obtain ⟨hn0, hn1, hl⟩ := hp
     obtain rfl := List.eq_nil_of_length_eq_zero hl
     have hk : kindP S a = 1 := hs.kind
     have hn : nmP S a = ba (kindWords.getD num.toNat []) := hs.nm
     conv => lhs; unfold oneP
     rw [if_neg (by omega), if_neg (by omega), if_pos hk, hn, ba_list, word_kind _ (by omega)]
     show PR.ok (Wt.mk 2 ((num.toNat : Nat) : Int) []) (a + 1) = _
     rw [Int.toNat_of_nonneg hn0]
     rfl
    ·rw [if_neg h2] at hs hf hp ⊢
     by_cases h3 : op = 3
     ·subst h3
      rw [if_pos rfl] at hs hf hp ⊢
      simp only [Bool.and_eq_true, decide_eq_true_eq] at hp
      obtain ⟨hn0, hn1, hl⟩ := hp
      obtain rfl := List.eq_nil_of_length_eq_zero hl
      have hk : kindP S a = 1 := hs.kind
      have hn : nmP S a = ba (faceWords.getD num.toNat []) := hs.nm
      conv => lhs; unfold oneP
      rw [if_neg (by omega), if_neg (by omega), if_pos hk, hn, ba_list, word_face _ (by omega)]
      show PR.ok (Wt.mk 3 ((num.toNat : Nat) : Int) []) (a + 1) = _
      rw [Int.toNat_of_nonneg hn0]
      rfl
     ·rw [if_neg h3] at hs hf hp ⊢
      by_cases h6 : op = 6
      ·subst h6
       rw [if_pos rfl] at hs hf hp ⊢
       simp only [Bool.and_eq_true, decide_eq_true_eq] at hp
       obtain ⟨rfl, hl, hpl⟩ := hp
       match l, hl with
       | [y], _ =>
        have e1 : toksC ([cK 15] ++ cWL 6 [y] true) = pK 15 :: toksC (pieceC 6 y) := by
         rw [List.singleton_append, tk_k, cWL, if_pos rfl, List.nil_append, toksC_app, cWL]
         show pK 15 :: (toksC (pieceC 6 y) ++ []) = _
         rw [List.append_nil]
        rw [e1] at hs hf ⊢
        rw [length_cons] at hf ⊢
        have hk : kindP S a = 15 := hs.kind
        have hpy := patL_mem hpl (List.mem_singleton.2 rfl)
        have hd : d ≠ 32 := by
         intro hd
         subst hd
         have : ∀ (z : Wt) (e : Nat), patW z e = true → e ≤ 32 := fun z e h => by
          obtain ⟨o, m, k⟩ := z
          rw [patW, Bool.and_eq_true] at h
          exact of_decide_eq_true h.1
         have := this _ _ hpy
         omega
        have h7 := hone 6 (.inr rfl) y (List.mem_singleton.2 rfl) (d + 1) f (a + 1) hpy hs.2 (by omega)
        conv => lhs; unfold oneP
        rw [if_pos hk, if_neg hd, h7, PR.bind_ok]
        congr 1; omega
      ·rw [if_neg h6, if_neg (by omega)] at hp
       cases hp
  have B : ∀ d f a, patW (.mk op num l) d = true → op ≠ 4 → Sees S a (toksC (cW (.mk op num l))) → (toksC (cW (.mk op num l))).length < f → kindP S (a + (toksC (cW (.mk op num l))).length) ≠ 16 → rowP S 5 16 (oneP S f d) a = .ok (.mk op num l) (a + (toksC (cW (.mk op num l))).length) := by
   intro d f a hp h4 hs hf hk
   by_cases h5 : op = 5
   ·subst h5
    have hp0 := hp
    rw [patW, Bool.and_eq_true] at hp
    obtain ⟨-, hp⟩ := hp
    rw [if_neg (by decide), if_neg (by decide), if_neg (by decide), if_neg (by decide), if_pos (.inr rfl)] at hp
    simp only [Bool.and_eq_true, decide_eq_true_eq] at hp
    obtain ⟨rfl, h2, hpl⟩ := hp
    have e1 : cW (.mk 5 0 l) = cWL 5 l true := by
     rw [cW, if_neg (by decide), if_neg (by decide), if_neg (by decide), if_neg (by decide)]; rfl
    rw [e1] at hs hf hk ⊢
    refine row_back (op := 5) (mark := 16) rfl (fun _ => True) trivial h2 (fun y hy a' hs' _ => ?_) hs rfl hk trivial
    refine hone 5 (.inl rfl) y hy d f a' (patL_mem hpl hy) hs' ?_
    have : ∀ (ys : List Wt) (b : Bool), y ∈ ys → (toksC (pieceC 5 y)).length ≤ (toksC (cWL 5 ys b)).length := by
     intro ys
     induction ys with
     | nil => intro b h; cases h
     | cons z zs ihz =>
      intro b h
      rw [cWL, toksC_app, toksC_app, length_append, length_append]
      rcases List.mem_cons.1 h with rfl | h
      ·show _ ≤ _ + ((toksC (pieceC 5 y)).length + _); omega
      ·have := ihz false h; omega
    have := this l true hy
    omega
   ·exact single_back (A d f a hp h4 h5 hs hf) hk
  have C : ∀ d f a, patW (.mk op num l) d = true → Sees S a (toksC (cW (.mk op num l))) → (toksC (cW (.mk op num l))).length < f → kindP S (a + (toksC (cW (.mk op num l))).length) ≠ 16 → kindP S (a + (toksC (cW (.mk op num l))).length) ≠ 25 → rowP S 4 25 (rowP S 5 16 (oneP S f d)) a = .ok (.mk op num l) (a + (toksC (cW (.mk op num l))).length) := by
   intro d f a hp hs hf hk hk2
   by_cases h4 : op = 4
   ·subst h4
    rw [patW, Bool.and_eq_true] at hp
    obtain ⟨-, hp⟩ := hp
    rw [if_neg (by decide), if_neg (by decide), if_neg (by decide), if_neg (by decide), if_pos (.inl rfl)] at hp
    simp only [Bool.and_eq_true, decide_eq_true_eq] at hp
    obtain ⟨rfl, h2, hpl⟩ := hp
    have e1 : cW (.mk 4 0 l) = cWL 4 l true := by
     rw [cW, if_neg (by decide), if_neg (by decide), if_neg (by decide), if_neg (by decide)]; rfl
    rw [e1] at hs hf hk hk2 ⊢
    refine row_back (op := 4) (mark := 25) rfl (fun k => k ≠ 16) (by decide) h2 (fun y hy a' hs' hk' => ?_) hs rfl hk2 hk
    have hle : ∀ (ys : List Wt) (b : Bool), y ∈ ys → (toksC (pieceC 4 y)).length ≤ (toksC (cWL 4 ys b)).length := by
     intro ys
     induction ys with
     | nil => intro b h; cases h
     | cons z zs ihz =>
      intro b h
      rw [cWL, toksC_app, toksC_app, length_append, length_append]
      rcases List.mem_cons.1 h with rfl | h
      ·show _ ≤ _ + ((toksC (pieceC 4 y)).length + _); omega
      ·have := ihz false h; omega
    have hle := hle l true hy
    obtain ⟨-, i2, -, i4⟩ := ih y (hch y hy)
    have hpy := patL_mem hpl hy
    unfold pieceC at hs' hk' hle ⊢
    by_cases hpar : parW 4 y.op = true
    ·rw [if_pos hpar] at hs' hk' hle hpy ⊢
     refine single_back (i4 d f a' hpy hs' ?_) hk'
     rw [tk_k, toksC_app] at hle
     simp at hle; omega
    ·rw [if_neg hpar] at hs' hk' hle hpy ⊢
     have h4 : y.op ≠ 4 := by intro h; rw [h] at hpar; exact hpar (by decide)
     exact i2 d f a' hpy h4 hs' (by omega) hk'
   ·exact single_back (B d f a hp h4 hs hf hk) hk2
  refine ⟨A, B, C, fun d f a hp hs hf => ?_⟩
  obtain ⟨f, rfl⟩ : ∃ g, f = g + 1 := ⟨f - 1, by omega⟩
  rw [tk_k, toksC_app] at hs ⊢
  have hk : kindP S a = 17 := hs.kind
  obtain ⟨-, hs⟩ := hs
  rw [sees_app] at hs
  have hk18 : kindP S (a + 1 + (toksC (cW (.mk op num l))).length) = 18 := hs.2.kind
  have hd : d ≠ 32 := by
   intro hd
   subst hd
   rw [patW, Bool.and_eq_true] at hp
   have := of_decide_eq_true hp.1
   omega
  have h := C (d + 1) f (a + 1) hp hs.1 (by omega) (by omega) (by omega)
  conv => lhs; unfold oneP
  rw [if_neg (by omega), if_pos hk, if_neg hd, h, PR.bind_ok]
  unfold wantP
  rw [if_pos hk18, PR.bind_ok]
  rw [length_cons, length_append]
  show PR.ok _ _ = PR.ok _ (a + ((toksC (cW (Wt.mk op num l))).length + 1 + 1))
  congr 1; omega
theorem want_back {t : Wt} {a : Nat} (hr : patW t 0 = true) (hs : Sees S a (toksC (cW t))) (hk : kindP S (a + (toksC (cW t)).length) ≠ 16) (hk2 : kindP S (a + (toksC (cW t)).length) ≠ 25) : wantW S a = .ok t (a + (toksC (cW t)).length) := by
 have hpos : ∀ t : Wt, patW t 0 = true → True := fun _ _ => trivial
 by_cases h0 : 0 < (toksC (cW t)).length
 ·have := sees_le _ _ hs h0
  exact (pats_back (cntW t) t (Nat.le_refl _)).2.2.1 0 (fuel S) a hr hs (by unfold fuel; omega) hk hk2
 ·exact (pats_back (cntW t) t (Nat.le_refl _)).2.2.1 0 (fuel S) a hr hs (by unfold fuel; omega) hk hk2
end
end
section
open List (length_append length_cons length_nil)
open Go Go.RowKit

theorem eqL_cons {α β : Type} {p : α → β → Bool} {x : α} {y : β} {xs : List α} {ys : List β} (h : p x y = true) (h2 : eqL p xs ys = true) : eqL p (x :: xs) (y :: ys) = true := by
 unfold eqL at h2 ⊢
 rw [Bool.and_eq_true, decide_eq_true_eq] at h2
 rw [Bool.and_eq_true, decide_eq_true_eq]
 exact ⟨by simp [h2.1], by rw [List.zip_cons_cons, List.all_cons, h, h2.2]; rfl⟩
theorem eqL_nil {α β : Type} (p : α → β → Bool) : eqL p [] [] = true := rfl
theorem take_yes {S : Src} {k a : Nat} (h : kindP S a = k) : takeP S k a = .ok true (a + 1) := by unfold takeP; rw [if_pos h]
theorem take_no {S : Src} {k a : Nat} (h : kindP S a ≠ k) : takeP S k a = .ok false a := by unfold takeP; rw [if_neg h]
theorem want_yes {S : Src} {k a : Nat} (h : kindP S a = k) : wantP S k a = .ok () (a + 1) := by unfold wantP; rw [if_pos h]
theorem sz0 {s : ByteArray} (h : s.size = 0) : ByteArray.empty = s := by
 obtain ⟨d⟩ := s
 have h : d.size = 0 := h
 rw [Array.eq_empty_of_size_eq_zero h]
 rfl
section
variable {S : Src}
theorem Sees.k {k a : Nat} {r : List Pc} (h : Sees S a (pK k :: r)) : kindP S a = k := h.kind
theorem Sees.n {l : List UInt8} {a : Nat} {r : List Pc} (h : Sees S a (pNm l :: r)) : kindP S a = 1 := h.kind
theorem Sees.u {n : Int} {a : Nat} {r : List Pc} (h : Sees S a (pNu n :: r)) : kindP S a = 2 := h.kind
theorem name_back {s : ByteArray} {r : List Pc} {a : Nat} (h : Sees S a (pNm (bs s) :: r)) : nameP S a = .ok ⟨s, (posP S a : Nat)⟩ (a + 1) := by
 unfold nameP
 rw [if_pos h.n, h.nm]
 show PR.ok (⟨ba (bs s), _⟩ : Us) _ = _
 rw [ba_bs]
theorem num_back {n : Int} (hn : NmN n) {r : List Pc} {a : Nat} (h : Sees S a (pNu n :: r)) : numP S a = .ok n (a + 1) := by
 unfold numP
 rw [if_pos h.u, h.num]
 show PR.ok ((n.toNat : Nat) : Int) _ = _
 rw [Int.toNat_of_nonneg hn.1]
theorem more_names : ∀ (us acc : List Us) (f a : Nat), Sees S a (toksC (cMore us)) → kindP S (a + (toksC (cMore us)).length) ≠ 19 → us.length < f →
  ∃ us', moreU S f acc a = .ok (acc ++ us') (a + (toksC (cMore us)).length) ∧ sameU us' us = true
 | [], acc, f, a, _, hk, hf => by
  obtain ⟨f, rfl⟩ : ∃ g, f = g + 1 := ⟨f - 1, by simp at hf; omega⟩
  refine ⟨[], ?_, rfl⟩
  have hk : kindP S a ≠ 19 := hk
  unfold moreU
  rw [if_neg hk, List.append_nil]
  rfl
 | u :: us, acc, f, a, hs, hk, hf => by
  obtain ⟨f, rfl⟩ : ∃ g, f = g + 1 := ⟨f - 1, by simp at hf; omega⟩
  have e1 : toksC (cMore (u :: us)) = pK 19 :: pNm (bs u.name) :: toksC (cMore us) := rfl
  rw [e1] at hs hk ⊢
  have hk19 : kindP S a = 19 := hs.kind
  obtain ⟨us', h1, h2⟩ := more_names us (acc ++ [⟨u.name, (posP S (a + 1) : Nat)⟩]) f (a + 1 + 1) hs.2.2 (by rw [show a + 1 + 1 + (toksC (cMore us)).length = a + (pK 19 :: pNm (bs u.name) :: toksC (cMore us)).length by simp; omega]; exact hk) (by simp at hf; omega)
  refine ⟨⟨u.name, (posP S (a + 1) : Nat)⟩ :: us', ?_, eqL_cons (decide_eq_true rfl) h2⟩
  unfold moreU
  rw [if_pos hk19, name_back hs.2, PR.bind_ok, h1, List.append_assoc]
  congr 1
  simp; omega
theorem list_back {us : List Us} (h0 : us.length ≠ 0) {a : Nat} (hs : Sees S a (toksC (cUses us))) (hk : kindP S (a + (toksC (cUses us)).length) ≠ 19) : ∃ us', listP S a = .ok us' (a + (toksC (cUses us)).length) ∧ sameU us' us = true := by
 match us, h0 with
 | u :: us, _ =>
  have e1 : toksC (cUses (u :: us)) = pNm (bs u.name) :: toksC (cMore us) := rfl
  have hle := sees_le _ _ hs (by rw [e1]; simp)
  have hlen : ∀ vs : List Us, vs.length ≤ (toksC (cMore vs)).length := by
   intro vs
   induction vs with
   | nil => simp
   | cons v vs ih =>
    show vs.length + 1 ≤ (toksC (cMore vs)).length + 1 + 1
    omega
  have hl := hlen us
  rw [e1] at hs hk hle ⊢
  rw [length_cons] at hk hle ⊢
  obtain ⟨us', h1, h2⟩ := more_names us [⟨u.name, (posP S a : Nat)⟩] (fuel S) (a + 1) hs.2 (by rw [show a + 1 + (toksC (cMore us)).length = a + ((toksC (cMore us)).length + 1) by omega]; exact hk) (by unfold fuel; omega)
  refine ⟨⟨u.name, (posP S a : Nat)⟩ :: us', ?_, eqL_cons (decide_eq_true rfl) h2⟩
  unfold listP
  rw [name_back hs, PR.bind_ok, h1]
  congr 1; omega
theorem len0 {us : List Us} (h : us.length = 0) : us = [] := List.eq_nil_of_length_eq_zero h
theorem caps_back {us : List Us} {a e : Nat} (hs : Sees S a (toksC (cCaps us))) (he : kindP S (a + (toksC (cCaps us)).length) = e) (h5 : e ≠ 5) (h19 : e ≠ 19) :
  ∃ us', ((takeP S 5 a).bind fun c a => if c = true then listP S a else .ok [] a) = .ok us' (a + (toksC (cCaps us)).length) ∧ sameU us' us = true := by
 unfold cCaps at hs he ⊢
 by_cases h0 : us.length = 0
 ·rw [if_pos h0] at hs he ⊢
  have he : kindP S a = e := he
  refine ⟨[], ?_, by rw [len0 h0]; rfl⟩
  rw [take_no (by omega), PR.bind_ok]
  rfl
 ·rw [if_neg h0] at hs he ⊢
  rw [tk_sp, tk_k, tk_sp] at hs he ⊢
  obtain ⟨us', h1, h2⟩ := list_back h0 hs.2 (by rw [show a + 1 + (toksC (cUses us)).length = a + (pK 5 :: toksC (cUses us)).length by simp; omega, he]; exact h19)
  refine ⟨us', ?_, h2⟩
  rw [take_yes hs.k, PR.bind_ok, if_pos rfl, h1]
  congr 1
  simp; omega
theorem fk_caps (us : List Us) (e : Nat) : fk (toksC (cCaps us)) e = if us.length = 0 then e else 5 := by
 unfold cCaps
 split <;> rfl
theorem core_back {c : CoreT} (hc : coreB c = true) (hn : NmN c.num) {a e : Nat} (hs : Sees S a (toksC (cCoreB c))) (he : kindP S (a + (toksC (cCoreB c)).length) = e) (hE : e = 14 ∨ e = 9 ∨ e = 4 ∨ e = 23) :
  ∃ c', coreP S a = .ok c' (a + (toksC (cCoreB c)).length) ∧ sameC c' c = true := by
 unfold coreB at hc
 simp only [Bool.and_eq_true] at hc
 have e0 : toksC (cCoreB c) = pNm (bs c.word) :: ((if c.has then (if c.minus then [pK 20] else []) ++ [pNu c.num] else []) ++ toksC (cCaps c.caps)) := by
  unfold cCoreB
  rw [tk_sp, tk_nm, toksC_app]
  congr 2
  split
  ·rw [tk_sp, toksC_app]
   split <;> rfl
  ·rfl
 rw [e0] at hs he ⊢
 have hnm := name_back hs
 obtain ⟨-, hs⟩ := hs
 rw [sees_app] at hs
 obtain ⟨hs1, hs2⟩ := hs
 rw [length_cons, length_append] at he ⊢
 cases hh : c.has with
 | false =>
  rw [hh] at hs1 hs2 he hc
  simp only [Bool.false_eq_true, if_false, length_nil, Nat.zero_add, Nat.add_zero] at hs1 hs2 he hc ⊢
  have hm : c.num = 0 ∧ c.minus = false := by
   have := hc.2.1
   simp only [Bool.false_or, Bool.and_eq_true, decide_eq_true_eq, Bool.not_eq_true'] at this
   exact this
  have hk : kindP S (a + 1) = if c.caps.length = 0 then e else 5 := by rw [← fk_caps]; exact hs2.fk (by rw [← he]; congr 1; omega)
  have hk20 : kindP S (a + 1) ≠ 20 := by rw [hk]; split <;> omega
  have hk2 : kindP S (a + 1) ≠ 2 := by rw [hk]; split <;> omega
  obtain ⟨us', h1, h2⟩ := caps_back hs2 (show kindP S (a + 1 + (toksC (cCaps c.caps)).length) = e by rw [← he]; congr 1; omega) (by omega) (by omega)
  refine ⟨⟨c.word, false, false, 0, us', (posP S a : Nat)⟩, ?_, by simp [sameC, hh, hm.1, hm.2, h2]⟩
  unfold coreP
  rw [hnm, PR.bind_ok, take_no hk20, PR.bind_ok, if_neg (by simp [hk2]), PR.bind_ok, ← PR.assoc, h1, PR.bind_ok]
  congr 1; omega
 | true =>
  rw [hh] at hs1 hs2 he
  simp only [if_true] at hs1 hs2 he
  cases hmi : c.minus with
  | false =>
   rw [hmi] at hs1 hs2 he
   simp only [Bool.false_eq_true, if_false, List.nil_append, List.length_singleton] at hs1 hs2 he
   have hk2 : kindP S (a + 1) = 2 := hs1.kind
   obtain ⟨us', h1, h2⟩ := caps_back hs2 (show kindP S (a + 1 + 1 + (toksC (cCaps c.caps)).length) = e by rw [← he]; congr 1; omega) (by omega) (by omega)
   refine ⟨⟨c.word, true, false, c.num, us', (posP S a : Nat)⟩, ?_, by simp [sameC, hh, hmi, h2]⟩
   unfold coreP
   rw [hnm, PR.bind_ok, take_no (by omega), PR.bind_ok, if_pos (.inr hk2), num_back hn hs1, PR.bind_ok, PR.bind_ok, ← PR.assoc, h1, PR.bind_ok]
   simp only [if_true, Bool.false_eq_true, if_false, List.nil_append, List.length_singleton]
   congr 1; omega
  | true =>
   rw [hmi] at hs1 hs2 he
   simp only [if_true, List.cons_append, List.nil_append, length_cons, length_nil, Nat.zero_add] at hs1 hs2 he
   have hk20 : kindP S (a + 1) = 20 := hs1.kind
   obtain ⟨us', h1, h2⟩ := caps_back hs2 (show kindP S (a + 1 + (1 + 1) + (toksC (cCaps c.caps)).length) = e by rw [← he]; congr 1; omega) (by omega) (by omega)
   refine ⟨⟨c.word, true, true, c.num, us', (posP S a : Nat)⟩, ?_, by simp [sameC, hh, hmi, h2]⟩
   unfold coreP
   rw [hnm, PR.bind_ok, take_yes hk20, PR.bind_ok, if_pos (.inl rfl), num_back hn hs1.2, PR.bind_ok, PR.bind_ok, ← PR.assoc, h1, PR.bind_ok]
   simp only [if_true, List.cons_append, List.nil_append, length_cons, length_nil]
   congr 1; omega
theorem tk_nums : ∀ ns : List Int, toksC (cNums ns) = ns.map pNu
 | [] => rfl
 | n :: ns => by
  have ih := tk_nums ns
  unfold cNums at ih ⊢
  rw [List.flatMap_cons, toksC_app, ih]
  rfl
theorem nums_back : ∀ (ns acc : List Int) (f a e : Nat), (∀ n ∈ ns, NmN n) → ns.length ≤ f → Sees S a (ns.map pNu) → kindP S (a + ns.length) = e → e ≠ 2 → numsP S f acc a = .ok (acc ++ ns) (a + ns.length)
 | [], acc, 0, a, e, _, _, _, _, _ => by rw [List.append_nil]; rfl
 | [], acc, f + 1, a, e, _, _, _, he, h2 => by
  have he : kindP S a = e := he
  unfold numsP
  rw [if_neg (by omega), List.append_nil]
  rfl
 | n :: ns, acc, 0, a, e, _, hf, _, _, _ => by simp at hf
 | n :: ns, acc, f + 1, a, e, hn, hf, hs, he, h2 => by
  rw [List.map_cons] at hs
  have hk : kindP S a = 2 := hs.kind
  have ih := nums_back ns (acc ++ [n]) f (a + 1) e (fun m hm => hn m (List.mem_cons_of_mem _ hm)) (by simp at hf; omega) hs.2 (by rw [← he]; simp only [length_cons]; congr 1; omega) h2
  unfold numsP
  rw [if_pos hk, num_back (hn n (List.mem_cons_self ..)) hs, PR.bind_ok, ih, List.append_assoc]
  simp only [length_cons]
  congr 1; omega
theorem fk_nums (ns : List Int) (e : Nat) : fk (toksC (cNums ns)) e = if ns.length = 0 then e else 2 := by
 rw [tk_nums]
 cases ns <;> rfl
theorem when_back {w : Bool} {t : Wt} (h : whenB w t = true) {a e : Nat} (hs : Sees S a (toksC (cWhen w t))) (he : kindP S (a + (toksC (cWhen w t)).length) = e) (h13 : e ≠ 13) (h16 : e ≠ 16) (h25 : e ≠ 25) :
  takeP S 13 a = .ok w (if w then a + 1 else a) ∧ (w = true → wantW S (a + 1) = .ok t (a + (toksC (cWhen w t)).length)) ∧ (w = false → t = wtZ ∧ a + (toksC (cWhen w t)).length = a) := by
 cases w with
 | false =>
  have he : kindP S a = e := he
  refine ⟨take_no (by omega), fun h => by (cases h), fun _ => ⟨?_, rfl⟩⟩
  have h : zeroW t = true := h
  obtain ⟨op, num, l⟩ := t
  unfold zeroW at h
  simp only [Bool.and_eq_true, decide_eq_true_eq] at h
  obtain ⟨h1, h2, h3⟩ := h
  have h1 : op = 0 := h1
  have h2 : num = 0 := h2
  have h3 : l = [] := List.eq_nil_of_length_eq_zero h3
  rw [h1, h2, h3]
  rfl
 | true =>
  have h : rightB t = true := h
  unfold rightB at h
  rw [Bool.and_eq_true] at h
  have e1 : toksC (cWhen true t) = pK 13 :: toksC (cW t) := rfl
  rw [e1] at hs he ⊢
  rw [length_cons] at he ⊢
  refine ⟨take_yes hs.k, fun _ => ?_, fun h => by (cases h)⟩
  have he2 : kindP S (a + 1 + (toksC (cW t)).length) = e := by rw [← he]; congr 1; omega
  rw [want_back h.1 hs.2 (by omega) (by omega)]
  congr 1; omega
theorem fk_when (w : Bool) (t : Wt) (e : Nat) : fk (toksC (cWhen w t)) e = if w then 13 else e := by cases w <;> rfl
theorem wrap_back {x : WrapT} (h : wrapB x = true) (hn : ∀ n ∈ x.nums, NmN n) {a e : Nat} (hs : Sees S (a + 1) (toksC (cWrapB x)).tail) (he : kindP S (a + (toksC (cWrapB x)).length) = e) (hE : e = 14 ∨ e = 9 ∨ e = 4 ∨ e = 23) :
  ∃ x', wrapP S (a + 1) = .ok x' (a + (toksC (cWrapB x)).length) ∧ sameX x' x = true := by
 unfold wrapB at h
 simp only [Bool.and_eq_true, decide_eq_true_eq] at h
 obtain ⟨h1, h2, h3, h4, h5⟩ := h
 have e0 : toksC (cWrapB x) = pK 14 :: ((if x.opn then [pK 11] else []) ++ (pNm (bs x.word) :: ((if x.sub.size = 0 then [] else [pK 22, pNm (bs x.sub)]) ++ (toksC (cNums x.nums) ++ (toksC (cCaps x.caps) ++ toksC (cWhen x.when_ x.want)))))) := by
  unfold cWrapB
  rw [tk_sp, tk_k, toksC_app, tk_sp, tk_nm, toksC_app, toksC_app, toksC_app]
  congr 2
  ·split <;> rfl
  ·congr 2
   split <;> rfl
 rw [e0] at hs he ⊢
 rw [List.tail_cons, sees_app] at hs
 obtain ⟨hs1, hs⟩ := hs
 obtain ⟨b, hb⟩ : ∃ b, a + 1 + (if x.opn = true then [pK 11] else []).length = b := ⟨_, rfl⟩
 have htk : takeP S 11 (a + 1) = .ok x.opn b := by
  cases ho : x.opn with
  | true => rw [ho] at hs1 hb; rw [take_yes hs1.k, ← hb]; rfl
  | false =>
   rw [ho] at hs hb
   have hk : kindP S (a + 1) = 1 := hs.kind
   rw [take_no (by omega), ← hb]; rfl
 rw [hb] at hs
 have hnm := name_back hs
 obtain ⟨-, hs⟩ := hs
 rw [sees_app, sees_app, sees_app] at hs
 obtain ⟨hs2, hs3, hs4, hs5⟩ := hs
 simp only [length_cons, length_append] at he ⊢
 obtain ⟨q, hq⟩ : ∃ q, b + 1 + (if x.sub.size = 0 then ([] : List Pc) else [pK 22, pNm (bs x.sub)]).length = q := ⟨_, rfl⟩
 rw [hq] at hs3 hs4 hs5
 have he5 : kindP S (q + (toksC (cNums x.nums)).length + (toksC (cCaps x.caps)).length + (toksC (cWhen x.when_ x.want)).length) = e := by rw [← he]; congr 1; omega
 have k5 : kindP S (q + (toksC (cNums x.nums)).length + (toksC (cCaps x.caps)).length) = if x.when_ then 13 else e := by rw [← fk_when]; exact hs5.fk he5
 have k4 : kindP S (q + (toksC (cNums x.nums)).length) = if x.caps.length = 0 then (if x.when_ then 13 else e) else 5 := by rw [← fk_caps]; exact hs4.fk k5
 have k3 : kindP S q = if x.nums.length = 0 then (if x.caps.length = 0 then (if x.when_ then 13 else e) else 5) else 2 := by rw [← fk_nums]; exact hs3.fk k4
 have k3n : kindP S q ≠ 22 := by rw [k3]; repeat' split <;> try omega
 have k4n : kindP S (q + (toksC (cNums x.nums)).length) ≠ 2 := by rw [k4]; repeat' split <;> try omega
 have k5n : kindP S (q + (toksC (cNums x.nums)).length + (toksC (cCaps x.caps)).length) ≠ 5 ∧ kindP S (q + (toksC (cNums x.nums)).length + (toksC (cCaps x.caps)).length) ≠ 19 := by rw [k5]; constructor <;> (split <;> omega)
 have hsub : ((takeP S 22 (b + 1)).bind fun c a => (if c = true then (nameP S a).bind fun s a => .ok s.name a else .ok ByteArray.empty a : PR ByteArray)) = .ok x.sub q := by
  by_cases h0 : x.sub.size = 0
  ·rw [if_pos h0] at hq
   have hq : b + 1 = q := hq
   rw [hq, take_no k3n, PR.bind_ok]
   show PR.ok ByteArray.empty q = _
   rw [sz0 h0]
  ·rw [if_neg h0] at hs2 hq
   rw [take_yes hs2.k, PR.bind_ok, if_pos rfl, name_back hs2.2, PR.bind_ok]
   rw [← hq]
   rfl
 have hnums := nums_back x.nums [] 2 q _ hn h3 (by rw [← tk_nums]; exact hs3) (show kindP S (q + x.nums.length) = kindP S (q + (toksC (cNums x.nums)).length) by rw [tk_nums, List.length_map]) k4n
 have hnl : q + x.nums.length = q + (toksC (cNums x.nums)).length := by rw [tk_nums, List.length_map]
 rw [hnl, List.nil_append] at hnums
 obtain ⟨us', hc1, hc2⟩ := caps_back hs4 rfl k5n.1 k5n.2
 obtain ⟨hw1, hw2, hw3⟩ := when_back h5 hs5 he5 (by omega) (by omega) (by omega)
 obtain ⟨z, hz⟩ : ∃ z, q + (toksC (cNums x.nums)).length + (toksC (cCaps x.caps)).length = z := ⟨_, rfl⟩
 rw [hz] at hw1 hw2 hw3 hc1
 refine ⟨⟨x.opn, x.word, x.sub, x.nums, us', x.when_, x.want, (posP S b : Nat)⟩, ?_, by simp [sameX, sameW_refl, sameNum_refl, hc2]⟩
 unfold wrapP
 rw [htk, PR.bind_ok, hnm, PR.bind_ok, ← PR.assoc, hsub, PR.bind_ok, hnums, PR.bind_ok, ← PR.assoc, hc1, PR.bind_ok, hw1, PR.bind_ok]
 cases hw : x.when_ with
 | true =>
  rw [if_pos rfl, if_pos rfl, hw2 hw, PR.bind_ok]
  have e8 : (toksC (cWhen x.when_ x.want)).length = (toksC (cWhen true x.want)).length := by rw [hw]
  congr 1; omega
 | false =>
  obtain ⟨h7, h8⟩ := hw3 hw
  rw [if_neg (by decide), if_neg (by decide), PR.bind_ok, h7]
  have e9 : (toksC (cWhen false wtZ)).length = 0 := rfl
  congr 1; omega
theorem fk_wraps (xs : List WrapT) (e : Nat) : fk (toksC (xs.flatMap cWrapB)) e = if xs.length = 0 then e else 14 := by cases xs <;> rfl
theorem wraps_back : ∀ (xs acc : List WrapT) (f a e : Nat), (∀ x ∈ xs, wrapB x = true ∧ ∀ n ∈ x.nums, NmN n) → xs.length < f → Sees S a (toksC (xs.flatMap cWrapB)) → kindP S (a + (toksC (xs.flatMap cWrapB)).length) = e → (e = 9 ∨ e = 4 ∨ e = 23) →
  ∃ xs', wrapsP S f acc a = .ok (acc ++ xs') (a + (toksC (xs.flatMap cWrapB)).length) ∧ eqL sameX xs' xs = true
 | [], acc, f, a, e, _, hf, _, he, hE => by
  obtain ⟨f, rfl⟩ : ∃ g, f = g + 1 := ⟨f - 1, by simp at hf; omega⟩
  have he : kindP S a = e := he
  refine ⟨[], ?_, rfl⟩
  unfold wrapsP
  rw [take_no (by omega), PR.bind_ok, if_neg (by decide), List.append_nil]
  rfl
 | x :: xs, acc, f, a, e, hx, hf, hs, he, hE => by
  obtain ⟨f, rfl⟩ : ∃ g, f = g + 1 := ⟨f - 1, by simp at hf; omega⟩
  rw [List.flatMap_cons, toksC_app] at hs he ⊢
  rw [sees_app] at hs
  rw [length_append] at he ⊢
  obtain ⟨hs1, hs2⟩ := hs
  have e1 : toksC (cWrapB x) = pK 14 :: (toksC (cWrapB x)).tail := rfl
  have hk : kindP S a = 14 := by rw [e1] at hs1; exact hs1.k
  have ht : Sees S (a + 1) (toksC (cWrapB x)).tail := by rw [e1] at hs1; exact hs1.2
  have he2 : kindP S (a + (toksC (cWrapB x)).length + (toksC (xs.flatMap cWrapB)).length) = e := by rw [← he]; congr 1; omega
  have hk2 : kindP S (a + (toksC (cWrapB x)).length) = if xs.length = 0 then e else 14 := by rw [← fk_wraps]; exact hs2.fk he2
  obtain ⟨h1, h2⟩ := hx x (List.mem_cons_self ..)
  obtain ⟨x', h3, h4⟩ := wrap_back h1 h2 ht rfl (by rw [hk2]; split <;> omega)
  obtain ⟨xs', h5, h6⟩ := wraps_back xs (acc ++ [x']) f _ e (fun y hy => hx y (List.mem_cons_of_mem _ hy)) (by simp at hf; omega) hs2 he2 hE
  refine ⟨x' :: xs', ?_, eqL_cons h4 h6⟩
  unfold wrapsP
  rw [take_yes hk, PR.bind_ok, if_pos rfl, h3, PR.bind_ok, h5, List.append_assoc]
  congr 1; omega
theorem fk_room (d : HandT) (e : Nat) : fk (toksC (cRoom d)) e = if d.room then 9 else e := by
 unfold cRoom
 split <;> rfl
theorem room_back {d : HandT} (hr : (d.room || (decide (d.inbox = 0) && decide (d.drop.name.size = 0))) = true) (hn : NmN d.inbox) {a e : Nat} (hs : Sees S a (toksC (cRoom d))) (he : kindP S (a + (toksC (cRoom d)).length) = e) (hE : e = 4 ∨ e = 23) :
  ∃ u : Us, roomP S a = .ok (d.room, d.inbox, u) (a + (toksC (cRoom d)).length) ∧ u.name = d.drop.name := by
 unfold cRoom at hs he ⊢
 cases hm : d.room with
 | false =>
  rw [hm] at hs he hr
  simp only [Bool.false_or, Bool.and_eq_true, decide_eq_true_eq] at hr
  rw [if_neg (by decide)] at hs he ⊢
  have he : kindP S a = e := he
  refine ⟨usZ, ?_, sz0 hr.2⟩
  unfold roomP
  rw [take_no (by omega), PR.bind_ok, if_neg (by decide), hr.1]
  rfl
 | true =>
  rw [hm, if_pos rfl] at hs he
  rw [if_pos rfl]
  rw [tk_sp, tk_k, tk_sp] at hs he ⊢
  have e1 : toksC (Ch.tok (pNu d.inbox) :: if d.drop.name.size = 0 then [] else [sp, cK 6, sp, cNm d.drop.name]) = pNu d.inbox :: (if d.drop.name.size = 0 then [] else [pK 6, pNm (bs d.drop.name)]) := by
   show pNu d.inbox :: _ = _
   congr 1
   split <;> rfl
  rw [e1] at hs he ⊢
  have hk := hs.k
  have hnum := num_back hn hs.2
  obtain ⟨-, -, hs⟩ := hs
  by_cases h0 : d.drop.name.size = 0
  ·rw [if_pos h0] at he ⊢
   have he : kindP S (a + 1 + 1) = e := he
   refine ⟨usZ, ?_, sz0 h0⟩
   unfold roomP
   rw [take_yes hk, PR.bind_ok, if_pos rfl, hnum, PR.bind_ok, take_no (by omega), PR.bind_ok, if_neg (by decide), PR.bind_ok]
   rfl
  ·rw [if_neg h0] at hs he ⊢
   refine ⟨⟨d.drop.name, (posP S (a + 1 + 1 + 1) : Nat)⟩, ?_, rfl⟩
   unfold roomP
   rw [take_yes hk, PR.bind_ok, if_pos rfl, hnum, PR.bind_ok, take_yes hs.k, PR.bind_ok, if_pos rfl, name_back hs.2, PR.bind_ok]
   rfl
theorem fk_after (us : List Us) (e : Nat) : fk (toksC (cAfter us)) e = if us.length = 0 then e else 4 := by
 unfold cAfter
 split <;> rfl
theorem after_back {us : List Us} {a e : Nat} (hs : Sees S a (toksC (cAfter us))) (he : kindP S (a + (toksC (cAfter us)).length) = e) (h4 : e ≠ 4) (h19 : e ≠ 19) :
  ∃ us', ((takeP S 4 a).bind fun c a => if c = true then listP S a else .ok [] a) = .ok us' (a + (toksC (cAfter us)).length) ∧ sameU us' us = true := by
 unfold cAfter at hs he ⊢
 by_cases h0 : us.length = 0
 ·rw [if_pos h0] at hs he ⊢
  have he : kindP S a = e := he
  refine ⟨[], ?_, by rw [len0 h0]; rfl⟩
  rw [take_no (by omega), PR.bind_ok]
  rfl
 ·rw [if_neg h0] at hs he ⊢
  rw [tk_sp, tk_k, tk_sp] at hs he ⊢
  obtain ⟨us', h1, h2⟩ := list_back h0 hs.2 (by rw [show a + 1 + (toksC (cUses us)).length = a + (pK 4 :: toksC (cUses us)).length by simp; omega, he]; exact h19)
  refine ⟨us', ?_, h2⟩
  rw [take_yes hs.k, PR.bind_ok, if_pos rfl, h1]
  congr 1
  simp; omega
theorem sameC_zero {c : CoreT} (h : noCoreB c = true) : sameC coreZ c = true := by
 unfold noCoreB at h
 simp only [Bool.and_eq_true, decide_eq_true_eq, Bool.not_eq_true'] at h
 obtain ⟨h1, h2, h3, h4, h5⟩ := h
 have := sz0 h1
 simp only [sameC, coreZ, this, h2, h3, h4, len0 h5, decide_true, Bool.true_and]
 rfl
theorem hand_back {d : HandT} (h : handB d = true) (hn : NmH d) {a : Nat} (hs : Sees S a (toksC (cHand d))) : ∃ d', handlerP S a = .ok d' (a + (toksC (cHand d)).length) ∧ sameH d' d = true := by
 unfold handB headB at h
 simp only [Bool.and_eq_true] at h
 obtain ⟨⟨h1, h2, h3, h4⟩, h5, h6⟩ := h
 have e0 : toksC (cHand d) = pK 8 :: pNm (bs d.name) :: pK 24 :: (toksC (if d.of_.name.size = 0 then cCoreB d.core else [sp, cK 10, sp, cNm d.of_.name]) ++ (toksC (d.wraps.flatMap cWrapB) ++ (toksC (cRoom d) ++ (toksC (cAfter d.after) ++ [pK 23])))) := by
  unfold cHand
  rw [tk_k, tk_sp, tk_nm, tk_sp, tk_k, toksC_app, toksC_app, toksC_app, toksC_app]
  rfl
 have hle := sees_le _ _ hs (by rw [e0]; simp)
 rw [e0] at hs hle ⊢
 have hnm := name_back hs.2
 have hk24 : kindP S (a + 1 + 1) = 24 := hs.2.2.k
 obtain ⟨-, -, -, hs⟩ := hs
 simp only [sees_app] at hs
 obtain ⟨s1, s2, s3, s4, s5⟩ := hs
 simp only [length_cons, length_append, length_nil] at hle ⊢
 obtain ⟨b, hb⟩ : ∃ b, a + 1 + 1 + 1 = b := ⟨_, rfl⟩
 obtain ⟨n1, hn1⟩ : ∃ n, (toksC (if d.of_.name.size = 0 then cCoreB d.core else [sp, cK 10, sp, cNm d.of_.name])).length = n := ⟨_, rfl⟩
 obtain ⟨n2, hn2⟩ : ∃ n, (toksC (d.wraps.flatMap cWrapB)).length = n := ⟨_, rfl⟩
 obtain ⟨n3, hn3⟩ : ∃ n, (toksC (cRoom d)).length = n := ⟨_, rfl⟩
 obtain ⟨n4, hn4⟩ : ∃ n, (toksC (cAfter d.after)).length = n := ⟨_, rfl⟩
 rw [hb, hn1, hn2, hn3, hn4] at s5
 rw [hb, hn1, hn2, hn3] at s4
 rw [hb, hn1, hn2] at s3
 rw [hb, hn1] at s2
 rw [hb] at s1
 have k5 : kindP S (b + n1 + n2 + n3 + n4) = 23 := s5.k
 have k4 : kindP S (b + n1 + n2 + n3) = if d.after.length = 0 then 23 else 4 := by rw [← fk_after]; exact s4.fk (by rw [hn4]; exact k5)
 have k3 : kindP S (b + n1 + n2) = if d.room then 9 else (if d.after.length = 0 then 23 else 4) := by rw [← fk_room]; exact s3.fk (by rw [hn3]; exact k4)
 have k2 : kindP S (b + n1) = if d.wraps.length = 0 then (if d.room then 9 else (if d.after.length = 0 then 23 else 4)) else 14 := by rw [← fk_wraps]; exact s2.fk (by rw [hn2]; exact k3)
 have hoc : ∃ u c, ((takeP S 10 b).bind fun o b => (if o = true then (nameP S b).bind fun u b => .ok (u, coreZ) b else (coreP S b).bind fun c b => .ok (usZ, c) b : PR (Us × CoreT))) = .ok (u, c) (b + n1) ∧ u.name = d.of_.name ∧ sameC c d.core = true := by
  by_cases h0 : d.of_.name.size = 0
  ·rw [if_pos h0] at s1 h5 hn1
   have hk : kindP S b = 1 := by
    have e : toksC (cCoreB d.core) = pNm (bs d.core.word) :: (toksC (cCoreB d.core)).tail := rfl
    rw [e] at s1
    exact s1.n
   obtain ⟨c', hc1, hc2⟩ := core_back h5 hn.1 s1 rfl (by rw [hn1, k2]; repeat' split <;> try omega)
   refine ⟨usZ, c', ?_, sz0 h0, hc2⟩
   rw [take_no (by omega), PR.bind_ok, if_neg (by decide), hc1, PR.bind_ok, hn1]
  ·rw [if_neg h0] at s1 h5 hn1
   rw [Bool.and_eq_true] at h5
   have e : toksC [sp, cK 10, sp, cNm d.of_.name] = [pK 10, pNm (bs d.of_.name)] := rfl
   rw [e] at s1 hn1
   refine ⟨⟨d.of_.name, (posP S (b + 1) : Nat)⟩, coreZ, ?_, rfl, sameC_zero h5.2⟩
   rw [take_yes s1.k, PR.bind_ok, if_pos rfl, name_back s1.2, PR.bind_ok, ← hn1]
   rfl
 obtain ⟨u, c, hoc, hu, hc⟩ := hoc
 have hwl : ∀ xs : List WrapT, xs.length ≤ (toksC (xs.flatMap cWrapB)).length := by
  intro xs
  induction xs with
  | nil => simp
  | cons x xs ih =>
   rw [List.flatMap_cons, toksC_app, length_append]
   have : 1 ≤ (toksC (cWrapB x)).length := by
    show 1 ≤ (toksC (cWrapB x)).tail.length + 1
    omega
   simp only [length_cons]; omega
 have hwl := hwl d.wraps
 obtain ⟨xs', hw1, hw2⟩ := wraps_back d.wraps [] (fuel S) (b + n1) (if d.room then 9 else (if d.after.length = 0 then 23 else 4)) (fun x hx => ⟨List.all_eq_true.1 h6 x hx, (hn.2.2.1 x hx).1⟩) (by unfold fuel; omega) s2 (by rw [hn2]; exact k3) (by repeat' split <;> try omega)
 rw [hn2, List.nil_append] at hw1
 obtain ⟨ud, hr1, hr2⟩ := room_back (e := if d.after.length = 0 then 23 else 4) h3 hn.2.2.2.1 s3 (by rw [hn3]; exact k4) (by split <;> omega)
 rw [hn3] at hr1
 obtain ⟨af, ha1, ha2⟩ := after_back (e := 23) s4 (by rw [hn4]; exact k5) (by omega) (by omega)
 rw [hn4] at ha1
 refine ⟨⟨d.name, u, c, xs', d.room, d.inbox, ud, af, (posP S a : Nat)⟩, ?_, by simp [sameH, hu, hc, hw2, hr2, ha2]⟩
 unfold handlerP
 rw [hnm, PR.bind_ok, want_yes hk24, PR.bind_ok, hb, ← PR.assoc, hoc, PR.bind_ok, hw1, PR.bind_ok, hr1, PR.bind_ok, ← PR.assoc, ha1, PR.bind_ok, want_yes k5, PR.bind_ok]
 congr 1; omega
theorem text_back {l : List UInt8} {r : List Pc} {a : Nat} (h : Sees S a (pTx l :: r)) : textT S a = ba l ∧ kindP S a = 3 := ⟨h.text, h.kind⟩
theorem route_back {r : RouteT} (h : routeB r = true) {a : Nat} (hs : Sees S a (toksC (cRoute r))) : ∃ r', routeP S a = .ok r' (a + (toksC (cRoute r)).length) ∧ sameR r' r = true := by
 unfold routeB at h
 simp only [Bool.and_eq_true] at h
 obtain ⟨h1, -, h3, h4⟩ := h
 have e0 : toksC (cRoute r) = pK 12 :: pTx (bs r.filter.name) :: (toksC (cWhen r.when_ r.want) ++ ((if r.els then [pK 7] else []) ++ [pK 21, pNm (bs r.to.name), pK 23])) := by
  unfold cRoute
  rw [tk_k, tk_sp, show toksC (Ch.tok (pTx (bs r.filter.name)) :: (cWhen r.when_ r.want ++ ((if r.els = true then [sp, cK 7] else []) ++ [sp, cK 21, sp, cNm r.to.name, cK 23, nl]))) = pTx (bs r.filter.name) :: toksC (cWhen r.when_ r.want ++ ((if r.els = true then [sp, cK 7] else []) ++ [sp, cK 21, sp, cNm r.to.name, cK 23, nl])) from rfl, toksC_app, toksC_app]
  congr 3
  split <;> rfl
 rw [e0] at hs ⊢
 obtain ⟨ht1, ht2⟩ := text_back hs.2
 obtain ⟨-, -, hs⟩ := hs
 simp only [sees_app] at hs
 obtain ⟨s1, s2, s3⟩ := hs
 simp only [length_cons, length_append, length_nil]
 obtain ⟨b, hb⟩ : ∃ b, a + 1 + 1 = b := ⟨_, rfl⟩
 obtain ⟨n1, hn1⟩ : ∃ n, (toksC (cWhen r.when_ r.want)).length = n := ⟨_, rfl⟩
 obtain ⟨n2, hn2⟩ : ∃ n, (if r.els = true then [pK 7] else []).length = n := ⟨_, rfl⟩
 rw [hb, hn1, hn2] at s3
 rw [hb, hn1] at s2
 rw [hb] at s1
 have k3 : kindP S (b + n1 + n2) = 21 := s3.k
 have k2 : kindP S (b + n1) = if r.els then 7 else 21 := by
  have := s2.fk (e := 21) (by rw [hn2]; exact k3)
  rw [this]
  cases r.els <;> rfl
 obtain ⟨w1, w2, w3⟩ := when_back (e := if r.els then 7 else 21) h4 s1 (by rw [hn1]; exact k2) (by split <;> omega) (by split <;> omega) (by split <;> omega)
 rw [hn1] at w2 w3
 have hwe : ((if r.when_ = true then (wantW S (if r.when_ = true then b + 1 else b)).bind fun x b => .ok (x, false) b else (takeP S 7 (if r.when_ = true then b + 1 else b)).bind fun e b => .ok (wtZ, e) b : PR (Wt × Bool))) = .ok (r.want, r.els) (b + n1 + n2) := by
  cases hw : r.when_ with
  | true =>
   have he : r.els = false := by
    rw [hw] at h3
    simpa using h3
   rw [he] at hn2
   rw [if_pos rfl, if_pos rfl, w2 hw, PR.bind_ok, he, ← hn2]
   rfl
  | false =>
   obtain ⟨h7, h8⟩ := w3 hw
   rw [if_neg (by decide), if_neg (by decide), h7]
   have hb1 : b + n1 = b := by omega
   rw [hb1] at k2 ⊢
   cases he : r.els with
   | true =>
    rw [he] at hn2 k2
    have k2 : kindP S b = 7 := k2
    rw [take_yes k2, PR.bind_ok, ← hn2]
    rfl
   | false =>
    rw [he] at hn2 k2
    have k2 : kindP S b = 21 := k2
    rw [take_no (by omega), PR.bind_ok, ← hn2]
    rfl
 have hn := name_back s3.2
 have k23 : kindP S (b + n1 + n2 + 1 + 1) = 23 := s3.2.2.k
 refine ⟨⟨⟨r.filter.name, (posP S (a + 1) : Nat)⟩, r.when_, r.want, r.els, ⟨r.to.name, (posP S (b + n1 + n2 + 1) : Nat)⟩, (posP S a : Nat)⟩, ?_, by simp [sameR, sameW_refl]⟩
 unfold routeP
 rw [want_yes ht2, PR.bind_ok, hb, w1, PR.bind_ok, hwe, PR.bind_ok, want_yes k3, PR.bind_ok, hn, PR.bind_ok, want_yes k23, PR.bind_ok, ht1, ba_bs]
 congr 1; omega
theorem routes_back : ∀ (rs : List RouteT) (hs acc : List _) (f a : Nat), (∀ r ∈ rs, routeB r = true) → Sees S a (toksC (rs.flatMap cRoute)) → kindP S (a + (toksC (rs.flatMap cRoute)).length) = 0 → rs.length < f →
  ∃ rs' b, configP S f hs acc a = .ok ⟨hs, acc ++ rs'⟩ b ∧ eqL sameR rs' rs = true
 | [], hs, acc, f, a, _, _, hk, hf => by
  obtain ⟨f, rfl⟩ : ∃ g, f = g + 1 := ⟨f - 1, by simp at hf; omega⟩
  have hk : kindP S a = 0 := hk
  refine ⟨[], a, ?_, rfl⟩
  unfold configP
  rw [if_pos hk, List.append_nil]
 | r :: rs, hs, acc, f, a, hr, hs1, hk, hf => by
  obtain ⟨f, rfl⟩ : ∃ g, f = g + 1 := ⟨f - 1, by simp at hf; omega⟩
  rw [List.flatMap_cons, toksC_app] at hs1 hk
  rw [sees_app] at hs1
  rw [length_append] at hk
  obtain ⟨h1, h2⟩ := hs1
  have hk12 : kindP S a = 12 := by
   have e : toksC (cRoute r) = pK 12 :: (toksC (cRoute r)).tail := rfl
   rw [e] at h1
   exact h1.k
  obtain ⟨r', h3, h4⟩ := route_back (hr r (List.mem_cons_self ..)) h1
  obtain ⟨rs', b, h5, h6⟩ := routes_back rs hs (acc ++ [r']) f _ (fun y hy => hr y (List.mem_cons_of_mem _ hy)) h2 (by rw [← hk]; congr 1; omega) (by simp at hf; omega)
  refine ⟨r' :: rs', b, ?_, eqL_cons h4 h6⟩
  unfold configP
  rw [if_neg (by omega), if_neg (by omega), if_pos hk12, h3, PR.bind_ok, h5, List.append_assoc]
  rfl
theorem hands_back : ∀ (ds : List HandT) (rs : List RouteT) (acc : List HandT) (f a : Nat), (∀ d ∈ ds, handB d = true ∧ NmH d) → (∀ r ∈ rs, routeB r = true) → Sees S a (toksC (ds.flatMap cHand) ++ toksC (rs.flatMap cRoute)) → kindP S (a + (toksC (ds.flatMap cHand) ++ toksC (rs.flatMap cRoute)).length) = 0 → ds.length + rs.length < f →
  ∃ ds' rs' b, configP S f acc [] a = .ok ⟨acc ++ ds', rs'⟩ b ∧ eqL sameH ds' ds = true ∧ eqL sameR rs' rs = true
 | [], rs, acc, f, a, _, hr, hs, hk, hf => by
  obtain ⟨rs', b, h1, h2⟩ := routes_back rs acc [] f a hr hs hk (by simp at hf; omega)
  exact ⟨[], rs', b, by rw [h1, List.append_nil]; rfl, rfl, h2⟩
 | d :: ds, rs, acc, f, a, hd, hr, hs, hk, hf => by
  obtain ⟨f, rfl⟩ : ∃ g, f = g + 1 := ⟨f - 1, by simp at hf; omega⟩
  rw [List.flatMap_cons, toksC_app, List.append_assoc] at hs hk
  rw [sees_app] at hs
  rw [length_append] at hk
  obtain ⟨h1, h2⟩ := hs
  have hk8 : kindP S a = 8 := by
   have e : toksC (cHand d) = pK 8 :: (toksC (cHand d)).tail := rfl
   rw [e] at h1
   exact h1.k
  obtain ⟨h7, h8⟩ := hd d (List.mem_cons_self ..)
  obtain ⟨d', h3, h4⟩ := hand_back h7 h8 h1
  obtain ⟨ds', rs', b, h5, h6, h9⟩ := hands_back ds rs (acc ++ [d']) f _ (fun y hy => hd y (List.mem_cons_of_mem _ hy)) hr h2 (by rw [← hk]; congr 1; omega) (by simp at hf; omega)
  refine ⟨d' :: ds', rs', b, ?_, eqL_cons h4 h6, h9⟩
  unfold configP
  rw [if_neg (by omega), if_pos hk8, h3, PR.bind_ok, h5, List.append_assoc]
  rfl
end
theorem tree_back {t : TreeT} (h : fitT t = true) (hn : NmT t) {l : List UInt8} {cs : List Ch} (hl : l = textC cs) (ht : toksC cs = toksC (cTree t)) (hA : AdjT none cs) :
  (∃ t', parseS l = .tree t' ∧ sameT t' t = true) ∨ (∃ q e, parseS l = .fault q e ∧ 60 ≤ e ∧ e ≤ 66 ∧ (65536 < l.length ∨ 16384 < (toksC cs).length)) := by
 subst hl
 unfold parseS
 rcases scan_text hA with ⟨us, h1, h2, h3⟩ | ⟨q, e, h1, h2, h3, h4⟩
 ·rw [h1]
  unfold fitT at h
  rw [Bool.and_eq_true] at h
  rw [ht] at h2 h3
  unfold cTree at h2 h3
  rw [toksC_app] at h2 h3
  have hlen : ∀ (ds : List HandT) (rs : List RouteT), ds.length + rs.length ≤ (toksC (ds.flatMap cHand) ++ toksC (rs.flatMap cRoute)).length := by
   intro ds rs
   have a1 : ds.length ≤ (toksC (ds.flatMap cHand)).length := by
    induction ds with
    | nil => simp
    | cons d ds ih =>
     rw [List.flatMap_cons, toksC_app, length_append]
     have : 1 ≤ (toksC (cHand d)).length := by
      show 1 ≤ (toksC (cHand d)).tail.length + 1
      omega
     simp only [length_cons]; omega
   have a2 : rs.length ≤ (toksC (rs.flatMap cRoute)).length := by
    induction rs with
    | nil => simp
    | cons d ds ih =>
     rw [List.flatMap_cons, toksC_app, length_append]
     have : 1 ≤ (toksC (cRoute d)).length := by
      show 1 ≤ (toksC (cRoute d)).tail.length + 1
      omega
     simp only [length_cons]; omega
   rw [length_append]; omega
  have hl2 := hlen t.hands t.routes
  have hk : kindP ⟨textC cs, us⟩ (0 + (toksC (t.hands.flatMap cHand) ++ toksC (t.routes.flatMap cRoute)).length) = 0 := by
   unfold kindP
   rw [List.getElem?_eq_none (by rw [← h3]; show us.length ≤ _; omega)]
  obtain ⟨ds', rs', b, h5, h6, h7⟩ := hands_back (S := ⟨textC cs, us⟩) t.hands t.routes [] (us.length + 1) 0 (fun d hd => ⟨List.all_eq_true.1 h.1 d hd, hn d hd⟩) (fun r hr => List.all_eq_true.1 h.2 r hr) h2 hk (by omega)
  refine .inl ⟨⟨ds', rs'⟩, ?_, by unfold sameT; rw [h6, h7]; rfl⟩
  simp only
  rw [h5]
  rfl
 ·rw [h1]
  exact .inr ⟨q, e, rfl, h2, h3, h4⟩
theorem print_back {t : TreeT} (h : fitT t = true) (hn : NmT t) : (∃ t', parseS (printW t) = .tree t' ∧ sameT t' t = true) ∨ (∃ q e, parseS (printW t) = .fault q e ∧ 60 ≤ e ∧ e ≤ 66) := by
 rcases tree_back h hn (tx_tree t).symm rfl (adj_tree h hn) with h1 | ⟨q, e, h1, h2, h3, -⟩
 ·exact .inl h1
 ·exact .inr ⟨q, e, h1, h2, h3⟩
theorem want_text {t : Wt} (h : rightB t = true) : wantS (wrW t) = some t ∨ (wantS (wrW t) = none ∧ 1000 ≤ (wrW t).length) := by
 unfold rightB at h
 rw [Bool.and_eq_true] at h
 have hA : AdjT none (cW t) := adj_w t 0 h.1 none fun c hc => by cases hc
 unfold wantS
 rw [← tx_w]
 rcases scan_text hA with ⟨us, h1, h2, h3⟩ | ⟨q, e, h1, -, -, h4⟩
 ·rw [h1]
  have hk : kindP ⟨textC (cW t), us⟩ (0 + (toksC (cW t)).length) = 0 := by
   unfold kindP
   rw [List.getElem?_eq_none (by rw [← h3]; show us.length ≤ _; omega)]
  have h5 := want_back h.1 h2 (by omega) (by omega)
  simp only
  rw [h5]
  simp only
  rw [if_pos hk]
  exact .inl rfl
 ·rw [h1]
  refine .inr ⟨rfl, ?_⟩
  have hlen : ∀ cs : List Ch, AdjT none cs → (toksC cs).length ≤ (textC cs).length := by
   intro cs
   induction cs with
   | nil => intro _; simp [toksC]
   | cons c cs ih =>
    intro hA
    cases c with
    | gap g =>
     have := ih hA.2
     simp only [toksC, textC, length_append]; omega
    | tok pc =>
     have := ih hA.2
     have h0 : 0 < pc.own.length := List.length_pos_iff.2 hA.1.1
     simp only [toksC, textC, length_append, length_cons]; omega
  have := hlen _ hA
  omega
end
section
open List (length_cons)
open Go Go.RowKit

/-! ### tokens of a scan -/
theorem runS_take (p : UInt8 → Bool) : ∀ l : List UInt8, runS p (l.take (runS p l)) = runS p l
 | [] => by simp [runS]
 | c :: r => by
  by_cases hc : p c = true
  ·have e : runS p (c :: r) = runS p r + 1 := by simp [runS, hc]
   have e2 : ∀ y, runS p (c :: y) = runS p y + 1 := fun y => by simp [runS, hc]
   rw [e, List.take_succ_cons, e2, runS_take p r]
  ·have e : runS p (c :: r) = 0 := by simp [runS, hc]
   rw [e]; rfl
theorem scan_toks1 (L : List UInt8) : ∀ (ts : List Tok) (a r : Nat), a ≤ L.length → scanAt (L.drop a) a r = .toks ts → ∀ t ∈ ts, oneS (L.drop t.pos) t.pos = (0, t) ∧ t.stop ≤ L.length
 | [], _, _, _, _, t, h => absurd h List.not_mem_nil
 | u :: ts, a, r, ha, hs, t, h => by
  obtain ⟨-, h1, -, h3, h4⟩ := scan_first ha hs
  rcases List.mem_cons.1 h with rfl | h
  ·exact ⟨h1, h3⟩
  ·exact scan_toks1 L ts u.stop (r - 1) h3 h4 t h
theorem scan_tok {L : List UInt8} {ts : List Tok} (h : scanS L = .toks ts) {t : Tok} (ht : t ∈ ts) : oneS (L.drop t.pos) t.pos = (0, t) ∧ t.stop ≤ L.length ∧ L.length ≤ 65536 := by
 unfold scanS at h
 split at h
 ·cases h
 ·obtain ⟨h1, h2⟩ := scan_toks1 L ts 0 16384 (Nat.zero_le _) (by rw [List.drop_zero]; exact h) t ht
  exact ⟨h1, h2, by omega⟩
theorem name_of {l : List UInt8} (h : NameL l) : nameB (ba l) = true := by
 have hok := nm_ok h (hh := none) (fun c hc => by cases hc)
 obtain ⟨hne, hok⟩ := hok
 obtain ⟨h0, h1⟩ := hok [] rfl 0
 rw [List.append_nil] at h0 h1
 have hne : l ≠ [] := hne
 have h0 : skipN l = some 0 := h0
 have h1 : oneS l 0 = (0, ⟨1, 0, 0 + l.length, 0, []⟩) := h1
 have hs : scanS l = .toks [⟨1, 0, 0 + l.length, 0, []⟩] := by
  unfold scanS
  rw [if_neg (by have := h.2.2; omega)]
  rw [scanAt_tok hne _ _ h0, h1, if_neg (by simp), if_neg (by decide), if_neg (by simp)]
  show consS _ (scanAt (l.drop (0 + l.length - 0)) _ _) = _
  rw [List.drop_of_length_le (by omega), scanAt_nil]
  rfl
 unfold nameB
 rw [ba_list, hs]
 simp
theorem tok_name {l : List UInt8} {p : Nat} {t : Tok} (h : oneS l p = (0, t)) (hk : t.kind = 1) : NameL (l.take (t.stop - p)) := by
 cases l with
 | nil => simp [oneS] at h
 | cons c r =>
  by_cases c1 : clsS c.toNat = 1
  ·rw [oneS_word r p c1] at h
   by_cases hk0 : kindS ((c :: r).take (runS alnB (c :: r))) = 0
   ·rw [if_pos hk0] at h
    injection h with f1 f2
    have f3 : t.stop - p = runS alnB (c :: r) := by rw [← f2]; show p + _ - p = _; omega
    have hpos := runS_pos alnB c r (by simp [alnB, c1])
    have hle := runS_le alnB (c :: r)
    rw [f3]
    have hlen : ((c :: r).take (runS alnB (c :: r))).length = runS alnB (c :: r) := by rw [List.length_take]; omega
    refine ⟨?_, hk0, ?_⟩
    ·obtain ⟨m, hm⟩ : ∃ m, runS alnB (c :: r) = m + 1 := ⟨runS alnB (c :: r) - 1, by omega⟩
     refine ⟨c, r.take m, by rw [hm, List.take_succ_cons], c1, ?_⟩
     rw [runS_take, hlen]
    ·rw [hlen]
     split at f1
     ·cases f1
     ·omega
   ·rw [if_neg hk0] at h
    injection h with f1 f2
    have : t.kind = kindS ((c :: r).take (runS alnB (c :: r))) := by rw [← f2]
    have hin := kindS_four hk0
    omega
  ·exfalso
   have hkd : (oneS (c :: r) p).2.kind = 1 := by rw [h]; exact hk
   by_cases c2 : clsS c.toNat = 2
   ·rw [oneS_num r p c2] at hkd; cases hkd
   ·by_cases c3 : c = 34
    ·subst c3
     cases hq : qS r with
     | none => rw [oneS_text_none r p hq] at hkd; cases hkd
     | some x => rw [oneS_text_some r p hq] at hkd; cases hkd
    ·by_cases c4 : 2 ≤ (c :: r).length ∧ kindS ((c :: r).take 2) ≠ 0
     ·rw [oneS_two p c1 c2 c3 c4] at hkd
      have hin := kindS_four c4.2
      have hkd : kindS ((c :: r).take 2) = 1 := hkd
      omega
     ·by_cases c5 : kindS [c] ≠ 0
      ·rw [oneS_mark p c1 c2 c3 c4 c5] at hkd
       have hin := kindS_four c5
       have hkd : kindS [c] = 1 := hkd
       omega
      ·rw [oneS_none p c1 c2 c3 c4 c5] at hkd; cases hkd
theorem qS_len : ∀ (n : Nat) (l : List UInt8) (x : List UInt8 × Nat), l.length ≤ n → qS l = some x → x.1.length + 1 ≤ x.2
 | n, [], x, _, h => by simp [qS] at h
 | 0, c :: r, x, hn, h => by simp at hn
 | n + 1, c :: r, x, hn, h => by
  simp only [length_cons] at hn
  unfold qS at h
  split at h
  ·simp at h; subst h; simp
  ·split at h
   ·simp at h
   ·split at h
    ·split at h
     ·simp at h
     ·rename_i d r2
      simp only [length_cons] at hn
      split at h
      ·obtain ⟨y, hy, rfl⟩ := Option.map_eq_some_iff.1 h
       have := qS_len n r2 y (by omega) hy
       simp; omega
      ·split at h
       ·split at h
        ·rename_i g hh r3
         simp only [length_cons] at hn
         split at h
         ·obtain ⟨y, hy, rfl⟩ := Option.map_eq_some_iff.1 h
          have := qS_len n r3 y (by omega) hy
          simp; omega
         ·simp at h
        ·simp at h
       ·simp at h
    ·obtain ⟨y, hy, rfl⟩ := Option.map_eq_some_iff.1 h
     have := qS_len n r y (by omega) hy
     simp; omega
theorem tok_num {l : List UInt8} {p : Nat} {t : Tok} (h : oneS l p = (0, t)) : t.num < 18446744073709551616 ∧ t.text.length + 2 ≤ t.stop - p + 2 := by
 cases l with
 | nil => simp [oneS] at h
 | cons c r =>
  by_cases c1 : clsS c.toNat = 1
  ·rw [oneS_word r p c1] at h
   split at h <;> (injection h with f1 f2; rw [← f2]; exact ⟨by show 0 < _; omega, by show 0 + 2 ≤ _; omega⟩)
  ·by_cases c2 : clsS c.toNat = 2
   ·rw [oneS_num r p c2] at h
    injection h with f1 f2
    rw [← f2]
    refine ⟨?_, by show 0 + 2 ≤ _; omega⟩
    show numV _ < _
    split at f1
    ·cases f1
    ·rename_i hh
     rcases Nat.lt_or_ge (numV ((c :: r).take (runS digB (c :: r)))) 18446744073709551616 with h | h
     ·exact h
     ·exact absurd (.inl (by omega)) hh
   ·by_cases c3 : c = 34
    ·subst c3
     cases hq : qS r with
     | none => rw [oneS_text_none r p hq] at h; injection h with f1 f2; cases f1
     | some x =>
      rw [oneS_text_some r p hq] at h
      injection h with f1 f2
      rw [← f2]
      have := qS_len _ r x (Nat.le_refl _) hq
      exact ⟨by show 0 < _; omega, by show x.1.length + 2 ≤ p + x.2 + 1 - p + 2; omega⟩
    ·by_cases c4 : 2 ≤ (c :: r).length ∧ kindS ((c :: r).take 2) ≠ 0
     ·rw [oneS_two p c1 c2 c3 c4] at h
      injection h with f1 f2
      rw [← f2]
      exact ⟨by show 0 < _; omega, by show 0 + 2 ≤ _; omega⟩
     ·by_cases c5 : kindS [c] ≠ 0
      ·rw [oneS_mark p c1 c2 c3 c4 c5] at h
       injection h with f1 f2
       rw [← f2]
       exact ⟨by show 0 < _; omega, by show 0 + 2 ≤ _; omega⟩
      ·rw [oneS_none p c1 c2 c3 c4 c5] at h
       injection h with f1 f2
       cases f1
/-! ### patterns that are read -/
mutual
theorem pat_down : ∀ (t : Wt) (d e : Nat), e ≤ d → patW t d = true → patW t e = true
 | .mk op num l, d, e, hde, h => by
  rw [patW, Bool.and_eq_true, decide_eq_true_eq] at h ⊢
  refine ⟨by omega, ?_⟩
  have h := h.2
  split
  ·rename_i h1; rwa [if_pos h1] at h
  ·rename_i h1
   rw [if_neg h1] at h
   split
   ·rename_i h2; rwa [if_pos h2] at h
   ·rename_i h2
    rw [if_neg h2] at h
    split
    ·rename_i h3; rwa [if_pos h3] at h
    ·rename_i h3
     rw [if_neg h3] at h
     split
     ·rename_i h6
      rw [if_pos h6] at h
      simp only [Bool.and_eq_true] at h ⊢
      exact ⟨h.1, h.2.1, patL_down op l (d + 1) (e + 1) (by omega) h.2.2⟩
     ·rename_i h6
      rw [if_neg h6] at h
      split
      ·rename_i h45
       rw [if_pos h45] at h
       simp only [Bool.and_eq_true] at h ⊢
       exact ⟨h.1, h.2.1, patL_down op l d e hde h.2.2⟩
      ·rename_i h45
       rw [if_neg h45] at h
       exact h
theorem patL_down : ∀ (op : Int) (l : List Wt) (d e : Nat), e ≤ d → patL op l d = true → patL op l e = true
 | _, [], _, _, _, _ => by rw [patL]
 | op, x :: xs, d, e, hde, h => by
  rw [patL, Bool.and_eq_true] at h ⊢
  exact ⟨pat_down x _ _ (by omega) h.1, patL_down op xs d e hde h.2⟩
end
theorem patL_all1 {op : Int} {d : Nat} : ∀ l : List Wt, (∀ x ∈ l, patW x (d + (if parW op x.op then 1 else 0)) = true) → patL op l d = true
 | [], _ => by rw [patL]
 | x :: xs, h => by
  rw [patL, Bool.and_eq_true]
  exact ⟨h x (List.mem_cons_self ..), patL_all1 xs fun y hy => h y (List.mem_cons_of_mem _ hy)⟩
theorem cntL_app : ∀ a b : List Wt, cntL (a ++ b) = cntL a + cntL b
 | [], b => by simp [cntL]
 | x :: a, b => by rw [List.cons_append, cntL, cntL, cntL_app a b]; omega
section
variable {S : Src}
theorem more_fit {mark : Nat} {operand : Nat → PR Wt} {Q : Wt → Prop} (hop : ∀ a x b, operand a = .ok x b → Q x ∧ a + cntW x ≤ b) : ∀ (f : Nat) (acc : List Wt) (a : Nat) (l : List Wt) (b : Nat), moreW S mark operand f acc a = .ok l b → (∀ x ∈ acc, Q x) →
  (∀ x ∈ l, Q x) ∧ a + cntL l + (l.length - acc.length) ≤ b + cntL acc ∧ acc.length ≤ l.length ∧ (l.length = acc.length → l = acc)
 | 0, acc, a, l, b, h, hq => by
  unfold moreW at h
  injection h with h1 h2
  subst h1; subst h2
  exact ⟨hq, by omega, Nat.le_refl _, fun _ => rfl⟩
 | f + 1, acc, a, l, b, h, hq => by
  unfold moreW at h
  split at h
  ·cases ho : operand (a + 1) with
   | bad p e => rw [ho] at h; cases h
   | ok x c =>
    rw [ho, PR.bind_ok] at h
    obtain ⟨h1, h2⟩ := hop _ _ _ ho
    obtain ⟨h3, h4, h5, h6⟩ := more_fit hop f (acc ++ [x]) c l b h fun y hy => by
     rcases List.mem_append.1 hy with hy | hy
     ·exact hq y hy
     ·rw [List.mem_singleton] at hy; rw [hy]; exact h1
    rw [cntL_app, List.length_append, List.length_singleton] at h4
    rw [List.length_append, List.length_singleton] at h5
    have : cntL [x] = cntW x := by simp [cntL]
    exact ⟨h3, by omega, by omega, fun h => by omega⟩
  ·injection h with h1 h2
   subst h1; subst h2
   exact ⟨hq, by omega, Nat.le_refl _, fun _ => rfl⟩
theorem row_fit {op : Int} {mark : Nat} {operand : Nat → PR Wt} {Q : Wt → Prop} (hop : ∀ a x b, operand a = .ok x b → Q x ∧ a + cntW x ≤ b) {a b : Nat} {x : Wt} (h : rowP S op mark operand a = .ok x b) :
  a + cntW x ≤ b ∧ (Q x ∨ ∃ l, x = .mk op 0 l ∧ 2 ≤ l.length ∧ ∀ y ∈ l, Q y) := by
 unfold rowP at h
 cases ho : operand a with
 | bad p e => rw [ho] at h; cases h
 | ok y c =>
  rw [ho, PR.bind_ok] at h
  obtain ⟨h1, h2⟩ := hop _ _ _ ho
  cases hm : moreW S mark operand (fuel S) [y] c with
  | bad p e => rw [hm] at h; cases h
  | ok l d =>
   rw [hm, PR.bind_ok] at h
   injection h with h3 h4
   subst h4
   obtain ⟨h5, h6, h7, h8⟩ := more_fit hop _ _ _ _ _ hm fun z hz => by rw [List.mem_singleton] at hz; rw [hz]; exact h1
   have e1 : cntL [y] = cntW y := by simp [cntL]
   rw [List.length_singleton] at h6 h7 h8
   by_cases hl : l.length = 1
   ·have := h8 hl
    subst this
    have h3 : y = x := h3
    subst h3
    exact ⟨by omega, .inl h1⟩
   ·match l, hl, h7 with
    | z :: z2 :: zs, _, _ =>
     have h3 : Wt.mk op 0 (z :: z2 :: zs) = x := h3
     subst h3
     refine ⟨?_, .inr ⟨_, rfl, by simp, h5⟩⟩
     rw [cntW]
     simp only [length_cons] at h6
     omega
theorem wordW_fit {s : List UInt8} {x : Wt} (h : wordW s = some x) {d : Nat} (hd : d ≤ 32) : patW x d = true ∧ cntW x = 1 ∧ x.op ≠ 4 ∧ x.op ≠ 5 := by
 have hf : ∀ (ws : List (List UInt8)) (n k : Nat) (s : List UInt8), fFrom ws n s = some k → n ≤ k ∧ k < n + ws.length := by
  intro ws
  induction ws with
  | nil => intro n k s h; cases h
  | cons w ws ih =>
   intro n k s h
   unfold fFrom at h
   split at h
   ·injection h with h; subst h; simp
   ·have := ih _ _ _ h; simp; omega
 unfold wordW at h
 split at h
 ·injection h with h; subst h
  exact ⟨by simp [patW, hd], by simp [cntW, cntL], by decide, by decide⟩
 ·cases h1 : fFrom kindWords 0 s with
  | some k =>
   rw [h1] at h
   injection h with h; subst h
   have := (hf _ _ _ _ h1).2
   have hk : k < 14 := by simpa [kindWords] using this
   exact ⟨by simp [patW, hd]; omega, by simp [cntW, cntL], by show (2 : Int) ≠ 4; decide, by show (2 : Int) ≠ 5; decide⟩
  | none =>
   rw [h1] at h
   cases h2 : fFrom faceWords 0 s with
   | some k =>
    rw [h2] at h
    injection h with h; subst h
    have := (hf _ _ _ _ h2).2
    have hk : k < 10 := by simpa [faceWords] using this
    exact ⟨by simp [patW, hd]; omega, by simp [cntW, cntL], by show (3 : Int) ≠ 4; decide, by show (3 : Int) ≠ 5; decide⟩
   | none => rw [h2] at h; cases h
def KW (d : Nat) (x : Wt) : Prop := patW x (d + (if x.op = 4 ∨ x.op = 5 then 1 else 0)) = true
theorem KW.down {d : Nat} {x : Wt} (h : KW d x) : patW x d = true := pat_down x _ d (by omega) h
theorem both_fit {d : Nat} {operand : Nat → PR Wt} (hd : d ≤ 32) (hop : ∀ a x b, operand a = .ok x b → KW d x ∧ a + cntW x ≤ b) {a b : Nat} {x : Wt} (h : rowP S 5 16 operand a = .ok x b) : patW x (d + (if x.op = 4 then 1 else 0)) = true ∧ a + cntW x ≤ b := by
 obtain ⟨h1, h2⟩ := row_fit hop h
 refine ⟨?_, h1⟩
 rcases h2 with h2 | ⟨l, rfl, hl, hq⟩
 ·unfold KW at h2
  refine pat_down x _ _ ?_ h2
  split <;> split <;> first | omega | (rename_i h4 h5; exact absurd (.inl h4) h5)
 ·show patW (.mk 5 0 l) (d + (if (5 : Int) = 4 then 1 else 0)) = true
  rw [if_neg (by decide), patW, Bool.and_eq_true, decide_eq_true_eq]
  refine ⟨by omega, ?_⟩
  rw [if_neg (by decide), if_neg (by decide), if_neg (by decide), if_neg (by decide), if_pos (.inr rfl)]
  simp only [Bool.and_eq_true, decide_eq_true_eq]
  refine ⟨trivial, hl, patL_all1 l fun y hy => ?_⟩
  have := hq y hy
  unfold KW at this
  refine pat_down y _ _ ?_ this
  unfold parW
  by_cases h4 : y.op = 4
  ·simp [h4]
  ·by_cases h5 : y.op = 5 <;> simp [h4, h5]
theorem either_fit {d : Nat} {operand : Nat → PR Wt} (hd : d ≤ 32) (hop : ∀ a x b, operand a = .ok x b → patW x (d + (if x.op = 4 then 1 else 0)) = true ∧ a + cntW x ≤ b) {a b : Nat} {x : Wt} (h : rowP S 4 25 operand a = .ok x b) : patW x d = true ∧ a + cntW x ≤ b := by
 obtain ⟨h1, h2⟩ := row_fit (Q := fun x => patW x (d + (if x.op = 4 then 1 else 0)) = true) hop h
 refine ⟨?_, h1⟩
 rcases h2 with h2 | ⟨l, rfl, hl, hq⟩
 ·exact pat_down x _ _ (by omega) h2
 ·rw [patW, Bool.and_eq_true, decide_eq_true_eq]
  refine ⟨by omega, ?_⟩
  rw [if_neg (by decide), if_neg (by decide), if_neg (by decide), if_neg (by decide), if_pos (.inl rfl)]
  simp only [Bool.and_eq_true, decide_eq_true_eq]
  refine ⟨trivial, hl, patL_all1 l fun y hy => ?_⟩
  have := hq y hy
  refine pat_down y _ _ ?_ this
  unfold parW
  by_cases h4 : y.op = 4
  ·simp [h4]
  ·by_cases h5 : y.op = 5 <;> simp [h4, h5]
theorem one_fit : ∀ (f d : Nat), d ≤ 32 → ∀ a x b, oneP S f d a = .ok x b → KW d x ∧ a + cntW x ≤ b
 | 0, _, _, _, _, _, h => by cases h
 | f + 1, d, hd, a, x, b, h => by
  unfold oneP at h
  split at h
  ·split at h
   ·cases h
   ·rename_i hne
    cases hn : oneP S f (d + 1) (a + 1) with
    | bad p e => rw [hn] at h; cases h
    | ok y c =>
     rw [hn, PR.bind_ok] at h
     injection h with h1 h2
     subst h1; subst h2
     obtain ⟨h3, h4⟩ := one_fit f (d + 1) (by omega) _ _ _ hn
     refine ⟨?_, by rw [cntW]; simp only [cntL]; omega⟩
     show patW (.mk 6 0 [y]) (d + (if (6 : Int) = 4 ∨ (6 : Int) = 5 then 1 else 0)) = true
     rw [if_neg (by decide), patW, Bool.and_eq_true, decide_eq_true_eq]
     refine ⟨by omega, ?_⟩
     rw [if_neg (by decide), if_neg (by decide), if_neg (by decide), if_pos rfl]
     simp only [Bool.and_eq_true, decide_eq_true_eq]
     refine ⟨trivial, rfl, patL_all1 _ fun z hz => ?_⟩
     rw [List.mem_singleton] at hz
     subst hz
     unfold KW at h3
     refine pat_down z _ _ ?_ h3
     unfold parW
     by_cases h4 : z.op = 4
     ·simp [h4]
     ·by_cases h5 : z.op = 5 <;> simp [h4, h5]
  ·split at h
   ·split at h
    ·cases h
    ·rename_i hne
     cases hn : rowP S 4 25 (rowP S 5 16 (oneP S f (d + 1))) (a + 1) with
     | bad p e => rw [hn] at h; cases h
     | ok y c =>
      rw [hn, PR.bind_ok] at h
      unfold wantP at h
      split at h
      ·rw [PR.bind_ok] at h
       injection h with h1 h2
       subst h1; subst h2
       obtain ⟨h3, h4⟩ := either_fit (by omega) (fun a x b h => both_fit (by omega) (one_fit f (d + 1) (by omega)) h) hn
       refine ⟨?_, by omega⟩
       unfold KW
       exact pat_down _ _ _ (by split <;> omega) h3
      ·cases h
   ·split at h
    ·cases hw : wordW (nmP S a).data.toList with
     | none => rw [hw] at h; cases h
     | some w =>
      rw [hw] at h
      injection h with h1 h2
      subst h1; subst h2
      obtain ⟨h3, h4, h5, h6⟩ := wordW_fit hw hd
      refine ⟨?_, by omega⟩
      unfold KW
      rw [if_neg (by omega)]
      exact h3
    ·cases h
theorem want_fit {a b : Nat} {x : Wt} (h : wantW S a = .ok x b) : patW x 0 = true ∧ a + cntW x ≤ b := either_fit (by omega) (fun a x b h => both_fit (by omega) (one_fit (fuel S) 0 (by omega)) h) h
end
end
section
open Go Go.RowKit

structure Sc (S : Src) : Prop where
 scan : scanS S.l = .toks S.ts
 few : S.ts.length ≤ 16384
theorem sc_of {l : List UInt8} {ts : List Tok} (h : scanS l = .toks ts) : Sc ⟨l, ts⟩ := ⟨h, (scanS_ok h).2.1⟩
theorem wgL_app {α : Type} (f : α → Nat) : ∀ a b : List α, wgL f (a ++ b) = wgL f a + wgL f b
 | [], b => by simp [wgL]
 | x :: a, b => by rw [List.cons_append, wgL, wgL, wgL_app f a b]; omega
theorem tok_text {l : List UInt8} {p : Nat} {t : Tok} (h : oneS l p = (0, t)) (hk : t.kind = 3) : p + t.text.length + 2 ≤ t.stop := by
 cases l with
 | nil => simp [oneS] at h
 | cons c r =>
  have hkd : (oneS (c :: r) p).2.kind = 3 := by rw [h]; exact hk
  by_cases c1 : clsS c.toNat = 1
  ·rw [oneS_word r p c1] at hkd
   split at hkd
   ·cases hkd
   ·rename_i hk0
    have hin := kindS_four hk0
    have hkd : kindS ((c :: r).take (runS alnB (c :: r))) = 3 := hkd
    omega
  ·by_cases c2 : clsS c.toNat = 2
   ·rw [oneS_num r p c2] at hkd; cases hkd
   ·by_cases c3 : c = 34
    ·subst c3
     cases hq : qS r with
     | none => rw [oneS_text_none r p hq] at hkd; cases hkd
     | some x =>
      rw [oneS_text_some r p hq] at h
      injection h with f1 f2
      rw [← f2]
      have := qS_len _ r x (Nat.le_refl _) hq
      show p + x.1.length + 2 ≤ p + x.2 + 1
      omega
    ·by_cases c4 : 2 ≤ (c :: r).length ∧ kindS ((c :: r).take 2) ≠ 0
     ·rw [oneS_two p c1 c2 c3 c4] at hkd
      have hin := kindS_four c4.2
      have hkd : kindS ((c :: r).take 2) = 3 := hkd
      omega
     ·by_cases c5 : kindS [c] ≠ 0
      ·rw [oneS_mark p c1 c2 c3 c4 c5] at hkd
       have hin := kindS_four c5
       have hkd : kindS [c] = 3 := hkd
       omega
      ·rw [oneS_none p c1 c2 c3 c4 c5] at hkd; cases hkd
section
variable {S : Src}
theorem pos_le (hS : Sc S) (a : Nat) : posP S a ≤ S.l.length := by
 unfold posP
 cases h : S.ts[a]? with
 | none => exact Nat.le_refl _
 | some t =>
  have := (scanS_ok hS.scan).2.2 t (List.mem_of_getElem? h)
  exact Nat.le_trans this.2.2.1 this.2.2.2
theorem take_le {k a b : Nat} {x : Bool} (h : takeP S k a = .ok x b) : a ≤ b ∧ (x = false → b = a) ∧ (x = true → b = a + 1) := by
 unfold takeP at h
 split at h <;> (injection h with h1 h2; subst h1; subst h2)
 ·exact ⟨by omega, fun h => (by cases h), fun _ => rfl⟩
 ·exact ⟨Nat.le_refl _, fun _ => rfl, fun h => (by cases h)⟩
theorem want_le {k a b : Nat} {x : Unit} (h : wantP S k a = .ok x b) : b = a + 1 := by
 unfold wantP at h
 split at h
 ·injection h with h1 h2; exact h2.symm
 ·cases h
theorem take_bad {k a p e : Nat} (h : takeP S k a = .bad p e) : False := by
 unfold takeP at h
 split at h <;> cases h
theorem name_len {s : ByteArray} (h : nameB s = true) : s.size ≤ 32 := by
 have := (name_l h).2.2
 rw [bs_len] at this
 exact this
theorem name_fit (hS : Sc S) {a b : Nat} {u : Us} (h : nameP S a = .ok u b) : nameB u.name = true ∧ b = a + 1 ∧ u.name.size ≤ 32 := by
 unfold nameP at h
 split at h
 ·rename_i hk
  injection h with h1 h2
  subst h1
  unfold kindP at hk
  unfold nmP
  cases ht : S.ts[a]? with
  | none => rw [ht] at hk; cases hk
  | some t =>
   rw [ht] at hk
   obtain ⟨h3, -, -⟩ := scan_tok hS.scan (List.mem_of_getElem? ht)
   have h4 := tok_name h3 hk
   refine ⟨name_of h4, h2.symm, ?_⟩
   show (ba _).size ≤ 32
   have := h4.2.2
   rw [ba_size]
   exact this
 ·cases h
theorem num_fit (hS : Sc S) {a b : Nat} {n : Int} (h : numP S a = .ok n b) : NmN n ∧ b = a + 1 := by
 unfold numP at h
 split at h
 ·injection h with h1 h2
  subst h1
  refine ⟨?_, h2.symm⟩
  unfold numT
  cases ht : S.ts[a]? with
  | none => exact ⟨by show (0 : Int) ≤ 0; decide, by show (0 : Int) < _; decide⟩
  | some t =>
   obtain ⟨h3, -, -⟩ := scan_tok hS.scan (List.mem_of_getElem? ht)
   have := (tok_num h3).1
   exact ⟨by show (0 : Int) ≤ (t.num : Nat); omega, by show ((t.num : Nat) : Int) < _; omega⟩
 ·cases h
theorem text_fit (hS : Sc S) {a : Nat} (hk : kindP S a = 3) : (textT S a).size ≤ 65534 := by
 unfold textT
 unfold kindP at hk
 cases ht : S.ts[a]? with
 | none => rw [ht] at hk; cases hk
 | some t =>
  rw [ht] at hk
  obtain ⟨h3, h4, h5⟩ := scan_tok hS.scan (List.mem_of_getElem? ht)
  show (ba t.text).size ≤ _
  rw [ba_size]
  have h6 := tok_text h3 hk
  omega
theorem moreU_fit (hS : Sc S) : ∀ (f : Nat) (acc : List Us) (a : Nat) (l : List Us) (b : Nat), moreU S f acc a = .ok l b → namesB acc = true → namesB l = true ∧ 65537 * a + wgL Us.wg l ≤ 65537 * b + wgL Us.wg acc ∧ a + l.length ≤ b + acc.length
 | 0, acc, a, l, b, h, hq => by
  unfold moreU at h
  injection h with h1 h2
  subst h1; subst h2
  exact ⟨hq, Nat.le_refl _, Nat.le_refl _⟩
 | f + 1, acc, a, l, b, h, hq => by
  unfold moreU at h
  split at h
  ·cases ho : nameP S (a + 1) with
   | bad p e => rw [ho] at h; cases h
   | ok u c =>
    rw [ho, PR.bind_ok] at h
    obtain ⟨h1, h2, h3⟩ := name_fit hS ho
    obtain ⟨h4, h5, h6⟩ := moreU_fit hS f (acc ++ [u]) c l b h (by unfold namesB at hq ⊢; rw [List.all_append, hq]; simp [h1])
    rw [wgL_app] at h5
    rw [List.length_append, List.length_singleton] at h6
    have e : wgL Us.wg [u] = u.name.size + 1 := rfl
    exact ⟨h4, by omega, by omega⟩
  ·injection h with h1 h2
   subst h1; subst h2
   exact ⟨hq, Nat.le_refl _, Nat.le_refl _⟩
theorem list_fit (hS : Sc S) {a b : Nat} {l : List Us} (h : listP S a = .ok l b) : namesB l = true ∧ 65537 * a + wgL Us.wg l ≤ 65537 * b ∧ a + l.length ≤ b := by
 unfold listP at h
 cases ho : nameP S a with
 | bad p e => rw [ho] at h; cases h
 | ok u c =>
  rw [ho, PR.bind_ok] at h
  obtain ⟨h1, h2, h3⟩ := name_fit hS ho
  obtain ⟨h4, h5, h6⟩ := moreU_fit hS _ _ _ _ _ h (by unfold namesB; simp [h1])
  rw [List.length_singleton] at h6
  have e : wgL Us.wg [u] = u.name.size + 1 := rfl
  exact ⟨h4, by omega, by omega⟩
theorem opt_fit (hS : Sc S) {k a b : Nat} {l : List Us} (h : ((takeP S k a).bind fun c a => if c = true then listP S a else .ok [] a) = .ok l b) : namesB l = true ∧ 65537 * a + wgL Us.wg l ≤ 65537 * b ∧ a + l.length ≤ b := by
 cases ho : takeP S k a with
 | bad p e => exact (take_bad ho).elim
 | ok c d =>
  rw [ho, PR.bind_ok] at h
  obtain ⟨h1, -, -⟩ := take_le ho
  split at h
  ·obtain ⟨h4, h5, h6⟩ := list_fit hS h
   exact ⟨h4, by omega, by omega⟩
  ·injection h with h2 h3
   subst h2; subst h3
   exact ⟨rfl, by show _ + 0 ≤ _; omega, by show _ + 0 ≤ _; omega⟩
theorem core_fit (hS : Sc S) {a b : Nat} {c : CoreT} (h : coreP S a = .ok c b) : coreB c = true ∧ NmN c.num ∧ 65537 * a + c.wg ≤ 65537 * b ∧ a + c.caps.length ≤ b := by
 unfold coreP at h
 cases ho : nameP S a with
 | bad p e => rw [ho] at h; cases h
 | ok u a1 =>
  rw [ho, PR.bind_ok] at h
  obtain ⟨h1, h2, h3⟩ := name_fit hS ho
  cases hm : takeP S 20 a1 with
  | bad p e => exact (take_bad hm).elim
  | ok m a2 =>
   rw [hm, PR.bind_ok] at h
   obtain ⟨m1, m2, m3⟩ := take_le hm
   cases hn : (if m = true ∨ kindP S a2 = 2 then (numP S a2).bind fun n a => .ok (true, n) a else .ok (false, 0) a2 : PR (Bool × Int)) with
   | bad p e => rw [hn] at h; cases h
   | ok hn' a3 =>
    rw [hn, PR.bind_ok, ← PR.assoc] at h
    have hh : NmN hn'.2 ∧ a2 ≤ a3 ∧ (hn'.1 = false → hn'.2 = 0 ∧ m = false) := by
     split at hn
     ·cases hq : numP S a2 with
      | bad p e => rw [hq] at hn; cases hn
      | ok n c =>
       rw [hq, PR.bind_ok] at hn
       injection hn with n1 n2
       obtain ⟨q1, q2⟩ := num_fit hS hq
       subst n1; subst n2
       exact ⟨q1, by omega, fun h => by cases h⟩
     ·rename_i hno
      injection hn with n1 n2
      subst n1; subst n2
      refine ⟨⟨by decide, by decide⟩, Nat.le_refl _, fun _ => ⟨rfl, ?_⟩⟩
      cases m with
      | false => rfl
      | true => exact absurd (.inl rfl) hno
    cases hc : ((takeP S 5 a3).bind fun c a => if c = true then listP S a else .ok [] a) with
    | bad p e => rw [hc] at h; cases h
    | ok us a4 =>
     rw [hc, PR.bind_ok] at h
     injection h with c1 c2
     subst c1; subst c2
     obtain ⟨q1, q2, q3⟩ := opt_fit hS hc
     refine ⟨?_, hh.1, by show 65537 * a + (u.name.size + 1 + wgL Us.wg us) ≤ _; omega, by show a + us.length ≤ _; omega⟩
     unfold coreB
     simp only [Bool.and_eq_true]
     refine ⟨h1, ?_, q1⟩
     cases hb : hn'.1 with
     | true => rfl
     | false =>
      obtain ⟨z1, z2⟩ := hh.2.2 hb
      simp [z1, z2]
theorem nums_fit (hS : Sc S) : ∀ (f : Nat) (acc : List Int) (a : Nat) (l : List Int) (b : Nat), numsP S f acc a = .ok l b → (∀ n ∈ acc, NmN n) → (∀ n ∈ l, NmN n) ∧ l.length ≤ acc.length + f ∧ a + l.length ≤ b + acc.length
 | 0, acc, a, l, b, h, hq => by
  unfold numsP at h
  injection h with h1 h2
  subst h1; subst h2
  exact ⟨hq, Nat.le_refl _, Nat.le_refl _⟩
 | f + 1, acc, a, l, b, h, hq => by
  unfold numsP at h
  split at h
  ·cases ho : numP S a with
   | bad p e => rw [ho] at h; cases h
   | ok n c =>
    rw [ho, PR.bind_ok] at h
    obtain ⟨h1, h2⟩ := num_fit hS ho
    obtain ⟨h4, h5, h6⟩ := nums_fit hS f (acc ++ [n]) c l b h fun m hm => by
     rcases List.mem_append.1 hm with hm | hm
     ·exact hq m hm
     ·rw [List.mem_singleton] at hm; rw [hm]; exact h1
    rw [List.length_append, List.length_singleton] at h5 h6
    exact ⟨h4, by omega, by omega⟩
  ·injection h with h1 h2
   subst h1; subst h2
   exact ⟨hq, by omega, Nat.le_refl _⟩
theorem when_fit (hS : Sc S) {w : Bool} {a b : Nat} {t : Wt} (hb : b ≤ S.ts.length) (h : (if w = true then wantW S a else .ok wtZ a) = .ok t b) : whenB w t = true ∧ a + cntW t ≤ b + 1 ∧ a ≤ b := by
 cases w with
 | true =>
  obtain ⟨h1, h2⟩ := want_fit h
  have := hS.few
  have := cntW_pos t
  refine ⟨?_, by omega, by omega⟩
  show rightB t = true
  unfold rightB
  rw [h1, decide_eq_true (by omega)]
  rfl
 | false =>
  injection h with h1 h2
  subst h1; subst h2
  exact ⟨rfl, by show a + cntW wtZ ≤ _; simp [wtZ, cntW, cntL], Nat.le_refl _⟩
theorem wrap_fit (hS : Sc S) {a b : Nat} (hb : b ≤ S.ts.length) {x : WrapT} (h : wrapP S a = .ok x b) : wrapB x = true ∧ NmW x ∧ SmW x ∧ 65537 * a + x.wg ≤ 65537 * b := by
 unfold wrapP at h
 cases h1 : takeP S 11 a with
 | bad p e => exact (take_bad h1).elim
 | ok o a1 =>
 rw [h1, PR.bind_ok] at h
 obtain ⟨l1, -, -⟩ := take_le h1
 cases h2 : nameP S a1 with
 | bad p e => rw [h2] at h; cases h
 | ok u a2 =>
 rw [h2, PR.bind_ok, ← PR.assoc] at h
 obtain ⟨n1, n2, n3⟩ := name_fit hS h2
 cases h3 : ((takeP S 22 a2).bind fun c a => (if c = true then (nameP S a).bind fun s a => .ok s.name a else .ok ByteArray.empty a : PR ByteArray)) with
 | bad p e => rw [h3] at h; cases h
 | ok sub a3 =>
 rw [h3, PR.bind_ok] at h
 have hsub : (sub.size = 0 ∨ nameB sub = true) ∧ sub.size ≤ 32 ∧ 65537 * a2 + sub.size ≤ 65537 * a3 := by
  cases h4 : takeP S 22 a2 with
  | bad p e => exact (take_bad h4).elim
  | ok c d =>
   rw [h4, PR.bind_ok] at h3
   obtain ⟨l4, -, -⟩ := take_le h4
   split at h3
   ·cases h5 : nameP S d with
    | bad p e => rw [h5] at h3; cases h3
    | ok s d2 =>
     rw [h5, PR.bind_ok] at h3
     injection h3 with e1 e2
     obtain ⟨m1, m2, m3⟩ := name_fit hS h5
     subst e1; subst e2
     exact ⟨.inr m1, m3, by omega⟩
   ·injection h3 with e1 e2
    subst e1; subst e2
    have e0 : (ByteArray.empty).size = 0 := rfl
    exact ⟨.inl e0, by omega, by omega⟩
 cases h6 : numsP S 2 [] a3 with
 | bad p e => rw [h6] at h; cases h
 | ok ns a4 =>
 rw [h6, PR.bind_ok, ← PR.assoc] at h
 obtain ⟨q1, q2, q3⟩ := nums_fit hS _ _ _ _ _ h6 fun n hn => absurd hn List.not_mem_nil
 simp only [List.length_nil, Nat.zero_add, Nat.add_zero] at q2 q3
 cases h7 : ((takeP S 5 a4).bind fun c a => if c = true then listP S a else .ok [] a) with
 | bad p e => rw [h7] at h; cases h
 | ok us a5 =>
 rw [h7, PR.bind_ok] at h
 obtain ⟨c1, c2, c3⟩ := opt_fit hS h7
 cases h8 : takeP S 13 a5 with
 | bad p e => exact (take_bad h8).elim
 | ok w a6 =>
 rw [h8, PR.bind_ok] at h
 obtain ⟨l8, l8a, l8b⟩ := take_le h8
 cases h9 : (if w = true then wantW S a6 else .ok wtZ a6 : PR Wt) with
 | bad p e => rw [h9] at h; cases h
 | ok t a7 =>
 rw [h9, PR.bind_ok] at h
 injection h with e1 e2
 subst e2
 obtain ⟨w1, w2, w3⟩ := when_fit hS hb h9
 have hw : 65537 * a5 + cntW t ≤ 65537 * a7 + 1 := by
  cases w with
  | true => have := l8b rfl; omega
  | false => omega
 subst e1
 have hfew := hS.few
 refine ⟨?_, ⟨q1, by show us.length ≤ _; omega⟩, ⟨by show u.name.size ≤ _; omega, by show sub.size ≤ _; omega, fun v hv => ?_⟩, by show 65537 * a + (u.name.size + sub.size + 1 + ns.length + wgL Us.wg us + cntW t) ≤ _; omega⟩
 ·unfold wrapB
  simp only [Bool.and_eq_true, decide_eq_true_eq, Bool.or_eq_true]
  exact ⟨n1, hsub.1, q2, c1, w1⟩
 ·have := wgL_mem (f := Us.wg) hv
  have e : v.wg = v.name.size + 1 := rfl
  have := List.all_eq_true.1 c1 v hv
  have := name_len this
  omega
theorem want_in {k a b : Nat} (hk : 0 < k) {u : Unit} (h : wantP S k a = .ok u b) : b ≤ S.ts.length := by
 unfold wantP at h
 split at h
 ·rename_i h1
  injection h with h2 h3
  have : a < S.ts.length := kind_lt h1 hk
  omega
 ·cases h
theorem wraps_fit (hS : Sc S) : ∀ (f : Nat) (acc : List WrapT) (a : Nat) (l : List WrapT) (b : Nat), b ≤ S.ts.length → wrapsP S f acc a = .ok l b → (∀ x ∈ acc, wrapB x = true ∧ NmW x ∧ SmW x) →
  (∀ x ∈ l, wrapB x = true ∧ NmW x ∧ SmW x) ∧ 65537 * a + wgL WrapT.wg l ≤ 65537 * b + wgL WrapT.wg acc
 | 0, acc, a, l, b, _, h, hq => by
  unfold wrapsP at h
  injection h with h1 h2
  subst h1; subst h2
  exact ⟨hq, Nat.le_refl _⟩
 | f + 1, acc, a, l, b, hb, h, hq => by
  unfold wrapsP at h
  cases h1 : takeP S 14 a with
  | bad p e => exact (take_bad h1).elim
  | ok o a1 =>
  rw [h1, PR.bind_ok] at h
  obtain ⟨l1, l2, -⟩ := take_le h1
  split at h
  ·cases h2 : wrapP S a1 with
   | bad p e => rw [h2] at h; cases h
   | ok x a2 =>
    rw [h2, PR.bind_ok] at h
    have hle : a2 ≤ b := wrapsP_le f _ _ _ _ h
    obtain ⟨q1, q2, q3, q4⟩ := wrap_fit hS (by omega) h2
    obtain ⟨q5, q6⟩ := wraps_fit hS f (acc ++ [x]) a2 l b hb h fun y hy => by
     rcases List.mem_append.1 hy with hy | hy
     ·exact hq y hy
     ·rw [List.mem_singleton] at hy; rw [hy]; exact ⟨q1, q2, q3⟩
    rw [wgL_app] at q6
    have e : wgL WrapT.wg [x] = x.wg := by simp [wgL]
    exact ⟨q5, by omega⟩
  ·injection h with h3 h4
   subst h3; subst h4
   exact ⟨hq, by omega⟩
theorem room_fit (hS : Sc S) {a b : Nat} {x : Bool × Int × Us} (h : roomP S a = .ok x b) : (x.1 || (decide (x.2.1 = 0) && decide (x.2.2.name.size = 0))) = true ∧ NmN x.2.1 ∧ (x.2.2.name.size = 0 ∨ nameB x.2.2.name = true) ∧ x.2.2.name.size ≤ 32 ∧ 65537 * a + x.2.2.name.size ≤ 65537 * b := by
 unfold roomP at h
 cases h1 : takeP S 9 a with
 | bad p e => exact (take_bad h1).elim
 | ok r a1 =>
 rw [h1, PR.bind_ok] at h
 obtain ⟨l1, -, -⟩ := take_le h1
 split at h
 ·cases h2 : numP S a1 with
  | bad p e => rw [h2] at h; cases h
  | ok n a2 =>
  rw [h2, PR.bind_ok] at h
  obtain ⟨n1, n2⟩ := num_fit hS h2
  cases h3 : takeP S 6 a2 with
  | bad p e => exact (take_bad h3).elim
  | ok d a3 =>
  rw [h3, PR.bind_ok] at h
  obtain ⟨l3, -, -⟩ := take_le h3
  split at h
  ·cases h4 : nameP S a3 with
   | bad p e => rw [h4] at h; cases h
   | ok u a4 =>
    rw [h4, PR.bind_ok] at h
    injection h with e1 e2
    obtain ⟨m1, m2, m3⟩ := name_fit hS h4
    subst e1; subst e2
    exact ⟨rfl, n1, .inr m1, m3, by show 65537 * a + u.name.size ≤ _; omega⟩
  ·rw [PR.bind_ok] at h
   injection h with e1 e2
   subst e1; subst e2
   have e0 : usZ.name.size = 0 := rfl
   exact ⟨rfl, n1, .inl e0, by show usZ.name.size ≤ _; omega, by show 65537 * a + usZ.name.size ≤ _; omega⟩
 ·injection h with e1 e2
  subst e1; subst e2
  have e0 : usZ.name.size = 0 := rfl
  exact ⟨rfl, ⟨by decide, by decide⟩, .inl e0, by show usZ.name.size ≤ _; omega, by show 65537 * a + usZ.name.size ≤ _; omega⟩
theorem us_small {us : List Us} (h : namesB us = true) : SmU us := fun v hv => by
 have := name_len (List.all_eq_true.1 h v hv)
 omega
theorem hand_fit (hS : Sc S) {a b : Nat} {d : HandT} (h : handlerP S a = .ok d b) : handB d = true ∧ NmH d ∧ SmH d ∧ 65537 * a + d.wg ≤ 65537 * b ∧ b ≤ S.ts.length := by
 unfold handlerP at h
 cases h1 : nameP S (a + 1) with
 | bad p e => rw [h1] at h; cases h
 | ok nm a1 =>
 rw [h1, PR.bind_ok] at h
 obtain ⟨n1, n2, n3⟩ := name_fit hS h1
 cases h2 : wantP S 24 a1 with
 | bad p e => rw [h2] at h; cases h
 | ok u0 a2 =>
 rw [h2, PR.bind_ok, ← PR.assoc] at h
 have l2 := want_le h2
 cases h3 : ((takeP S 10 a2).bind fun o b => (if o = true then (nameP S b).bind fun u b => .ok (u, coreZ) b else (coreP S b).bind fun c b => .ok (usZ, c) b : PR (Us × CoreT))) with
 | bad p e => rw [h3] at h; cases h
 | ok oc a3 =>
 rw [h3, PR.bind_ok] at h
 have hoc : (if oc.1.name.size = 0 then coreB oc.2 else nameB oc.1.name && noCoreB oc.2) = true ∧ NmN oc.2.num ∧ a2 + oc.2.caps.length ≤ a3 ∧ oc.1.name.size ≤ 32 ∧ oc.2.word.size ≤ 32 ∧ namesB oc.2.caps = true ∧ 65537 * a2 + oc.1.name.size + oc.2.wg ≤ 65537 * a3 + 1 := by
  cases h4 : takeP S 10 a2 with
  | bad p e => exact (take_bad h4).elim
  | ok c d0 =>
   rw [h4, PR.bind_ok] at h3
   obtain ⟨l4, -, -⟩ := take_le h4
   split at h3
   ·cases h5 : nameP S d0 with
    | bad p e => rw [h5] at h3; cases h3
    | ok u d2 =>
     rw [h5, PR.bind_ok] at h3
     injection h3 with e1 e2
     obtain ⟨m1, m2, m3⟩ := name_fit hS h5
     subst e1; subst e2
     have hpos : u.name.size ≠ 0 := by
      intro h0
      have := (name_l m1).1.ne
      have hb := bs_len u.name
      exact this (List.eq_nil_of_length_eq_zero (by omega))
     refine ⟨?_, ⟨by show (0 : Int) ≤ 0; decide, by show (0 : Int) < _; decide⟩, by show a2 + 0 ≤ _; omega, m3, Nat.zero_le _, rfl, ?_⟩
     ·show (if u.name.size = 0 then _ else _) = true
      rw [if_neg hpos, m1]
      rfl
     ·have e0 : coreZ.wg = 1 := rfl
      show 65537 * a2 + u.name.size + coreZ.wg ≤ _
      omega
   ·cases h5 : coreP S d0 with
    | bad p e => rw [h5] at h3; cases h3
    | ok c d2 =>
     rw [h5, PR.bind_ok] at h3
     injection h3 with e1 e2
     subst e1; subst e2
     obtain ⟨m1, m2, m3, m4⟩ := core_fit hS h5
     have hfew := hS.few
     have hw : nameB c.word = true ∧ namesB c.caps = true := by
      unfold coreB at m1
      simp only [Bool.and_eq_true] at m1
      exact ⟨m1.1, m1.2.2⟩
     have e0 : usZ.name.size = 0 := rfl
     refine ⟨by show (if usZ.name.size = 0 then _ else _) = true; rw [if_pos e0]; exact m1, m2, by show a2 + c.caps.length ≤ _; omega, by show usZ.name.size ≤ _; omega, name_len hw.1, hw.2, ?_⟩
     show 65537 * a2 + usZ.name.size + c.wg ≤ _
     omega
 obtain ⟨oc1, oc2, oc3, oc4, oc5, oc6, oc7⟩ := hoc
 cases h5 : wrapsP S (fuel S) [] a3 with
 | bad p e => rw [h5] at h; cases h
 | ok ws a4 =>
 rw [h5, PR.bind_ok] at h
 cases h6 : roomP S a4 with
 | bad p e => rw [h6] at h; cases h
 | ok r a5 =>
 rw [h6, PR.bind_ok, ← PR.assoc] at h
 obtain ⟨r1, r2, r3, r4, r5⟩ := room_fit hS h6
 cases h7 : ((takeP S 4 a5).bind fun c a => if c = true then listP S a else .ok [] a) with
 | bad p e => rw [h7] at h; cases h
 | ok af a6 =>
 rw [h7, PR.bind_ok] at h
 obtain ⟨c1, c2, c3⟩ := opt_fit hS h7
 cases h8 : wantP S 23 a6 with
 | bad p e => rw [h8] at h; cases h
 | ok u1 a7 =>
 rw [h8, PR.bind_ok] at h
 have l8 := want_le h8
 have hb := want_in (by omega) h8
 injection h with e1 e2
 subst e1; subst e2
 have hfew := hS.few
 have g1 := wrapsP_le _ _ _ _ _ h5
 have g2 := roomP_le h6
 obtain ⟨w1, w2⟩ := wraps_fit hS _ _ _ _ _ (by omega) h5 fun x hx => absurd hx List.not_mem_nil
 have e0 : wgL WrapT.wg [] = 0 := rfl
 refine ⟨?_, ⟨oc2, by show oc.2.caps.length ≤ _; omega, fun x hx => (w1 x hx).2.1, r2, by show af.length ≤ _; omega⟩, ⟨by show nm.name.size ≤ _; omega, by show oc.1.name.size ≤ _; omega, by show oc.2.word.size ≤ _; omega, us_small oc6, fun x hx => (w1 x hx).2.2, by show r.2.2.name.size ≤ _; omega, us_small c1⟩,
  by show 65537 * a + (nm.name.size + oc.1.name.size + 1 + oc.2.wg + wgL WrapT.wg ws + r.2.2.name.size + wgL Us.wg af) ≤ _; omega, hb⟩
 unfold handB headB
 simp only [Bool.and_eq_true]
 refine ⟨⟨n1, c1, r1, ?_⟩, oc1, List.all_eq_true.2 fun x hx => (w1 x hx).1⟩
 rcases r3 with h | h
 ·rw [decide_eq_true h]; rfl
 ·rw [h, Bool.or_true]
theorem route_fit (hS : Sc S) {a b : Nat} {r : RouteT} (h : routeP S a = .ok r b) : routeB r = true ∧ SmR r ∧ 65537 * a + r.wg ≤ 65537 * b ∧ b ≤ S.ts.length := by
 unfold routeP at h
 cases h1 : wantP S 3 (a + 1) with
 | bad p e => rw [h1] at h; cases h
 | ok u0 a1 =>
 rw [h1, PR.bind_ok] at h
 have l1 := want_le h1
 have hk : kindP S (a + 1) = 3 := by
  unfold wantP at h1
  split at h1
  ·assumption
  ·cases h1
 have ht := text_fit hS hk
 cases h2 : takeP S 13 a1 with
 | bad p e => exact (take_bad h2).elim
 | ok w a2 =>
 rw [h2, PR.bind_ok] at h
 obtain ⟨l2, -, -⟩ := take_le h2
 cases h3 : (if w = true then (wantW S a2).bind fun x b => .ok (x, false) b else (takeP S 7 a2).bind fun e b => .ok (wtZ, e) b : PR (Wt × Bool)) with
 | bad p e => rw [h3] at h; cases h
 | ok we a3 =>
 rw [h3, PR.bind_ok] at h
 cases h4 : wantP S 21 a3 with
 | bad p e => rw [h4] at h; cases h
 | ok u1 a4 =>
 rw [h4, PR.bind_ok] at h
 have l4 := want_le h4
 cases h5 : nameP S a4 with
 | bad p e => rw [h5] at h; cases h
 | ok tz a5 =>
 rw [h5, PR.bind_ok] at h
 obtain ⟨n1, n2, n3⟩ := name_fit hS h5
 cases h6 : wantP S 23 a5 with
 | bad p e => rw [h6] at h; cases h
 | ok u2 a6 =>
 rw [h6, PR.bind_ok] at h
 have l6 := want_le h6
 have hb := want_in (by omega) h6
 injection h with e1 e2
 subst e1; subst e2
 have hwe : whenB w we.1 = true ∧ (!(w && we.2)) = true ∧ a2 + cntW we.1 ≤ a3 + 1 ∧ a2 ≤ a3 := by
  cases w with
  | true =>
   rw [if_pos rfl] at h3
   cases h7 : wantW S a2 with
   | bad p e => rw [h7] at h3; cases h3
   | ok x c =>
    rw [h7, PR.bind_ok] at h3
    injection h3 with e1 e2
    subst e1; subst e2
    obtain ⟨q1, q2, q3⟩ := when_fit hS (w := true) (by omega) (show (if true = true then wantW S a2 else .ok wtZ a2) = .ok x c by rw [if_pos rfl]; exact h7)
    exact ⟨q1, rfl, q2, q3⟩
  | false =>
   rw [if_neg (by decide)] at h3
   cases h7 : takeP S 7 a2 with
   | bad p e => exact (take_bad h7).elim
   | ok e c =>
    rw [h7, PR.bind_ok] at h3
    obtain ⟨l7, -, -⟩ := take_le h7
    injection h3 with e1 e2
    subst e1; subst e2
    exact ⟨rfl, rfl, by show a2 + cntW wtZ ≤ _; simp [wtZ, cntW, cntL]; omega, l7⟩
 obtain ⟨q1, q2, q3, q4⟩ := hwe
 refine ⟨?_, ⟨by show tz.name.size ≤ _; omega, by show (textT S (a + 1)).size ≤ _; omega⟩, by show 65537 * a + ((textT S (a + 1)).size + tz.name.size + 1 + cntW we.1) ≤ _; omega, hb⟩
 unfold routeB
 simp only [Bool.and_eq_true, decide_eq_true_eq]
 exact ⟨n1, by show (textT S (a + 1)).size ≤ _; omega, q2, q1⟩
def DeclOk (hs : List HandT) (rs : List RouteT) : Prop := (∀ d ∈ hs, handB d = true ∧ NmH d ∧ SmH d) ∧ ∀ r ∈ rs, routeB r = true ∧ SmR r
theorem config_fit (hS : Sc S) : ∀ (f : Nat) (hs : List HandT) (rs : List RouteT) (a : Nat) (t : TreeT) (b : Nat), a ≤ S.ts.length → configP S f hs rs a = .ok t b → DeclOk hs rs → DeclOk t.hands t.routes ∧ 65537 * a + t.wg ≤ 65537 * b + (wgL HandT.wg hs + wgL RouteT.wg rs) ∧ b ≤ S.ts.length
 | 0, hs, rs, a, t, b, ha, h, hq => by
  unfold configP at h
  injection h with h1 h2
  subst h1; subst h2
  exact ⟨hq, Nat.le_refl _, ha⟩
 | f + 1, hs, rs, a, t, b, ha, h, hq => by
  unfold configP at h
  split at h
  ·injection h with h1 h2
   subst h1; subst h2
   exact ⟨hq, Nat.le_refl _, ha⟩
  ·split at h
   ·cases h1 : handlerP S a with
    | bad p e => rw [h1] at h; cases h
    | ok d c =>
     rw [h1, PR.bind_ok] at h
     obtain ⟨q1, q2, q3, q4, hc⟩ := hand_fit hS h1
     obtain ⟨q5, q6, q7⟩ := config_fit hS f _ _ _ _ _ hc h ⟨fun y hy => by
      rcases List.mem_append.1 hy with hy | hy
      ·exact hq.1 y hy
      ·rw [List.mem_singleton] at hy; rw [hy]; exact ⟨q1, q2, q3⟩, hq.2⟩
     rw [wgL_app] at q6
     have e : wgL HandT.wg [d] = d.wg := by simp [wgL]
     exact ⟨q5, by omega, q7⟩
   ·split at h
    ·cases h1 : routeP S a with
     | bad p e => rw [h1] at h; cases h
     | ok r c =>
      rw [h1, PR.bind_ok] at h
      obtain ⟨q1, q2, q3, hc⟩ := route_fit hS h1
      obtain ⟨q5, q6, q7⟩ := config_fit hS f _ _ _ _ _ hc h ⟨hq.1, fun y hy => by
       rcases List.mem_append.1 hy with hy | hy
       ·exact hq.2 y hy
       ·rw [List.mem_singleton] at hy; rw [hy]; exact ⟨q1, q2⟩⟩
      rw [wgL_app] at q6
      have e : wgL RouteT.wg [r] = r.wg := by simp [wgL]
      exact ⟨q5, by omega, q7⟩
    ·cases h
end
end
section
open Go Go.RowKit

/-! ### faults -/
section
variable {S : Src}
def Flt (S : Src) (p e : Nat) : Prop := p ≤ S.l.length ∧ 70 ≤ e ∧ e ≤ 72
theorem want_flt (hS : Sc S) {k a p e : Nat} (h : wantP S k a = .bad p e) : Flt S p e := by
 unfold wantP at h
 split at h
 ·cases h
 ·injection h with h1 h2; subst h1; subst h2; exact ⟨pos_le hS a, by omega, by omega⟩
theorem name_flt (hS : Sc S) {a p e : Nat} (h : nameP S a = .bad p e) : Flt S p e := by
 unfold nameP at h
 split at h
 ·cases h
 ·injection h with h1 h2; subst h1; subst h2; exact ⟨pos_le hS a, by omega, by omega⟩
theorem num_flt (hS : Sc S) {a p e : Nat} (h : numP S a = .bad p e) : Flt S p e := by
 unfold numP at h
 split at h
 ·cases h
 ·injection h with h1 h2; subst h1; subst h2; exact ⟨pos_le hS a, by omega, by omega⟩
theorem bind_flt {α β : Type} {r : PR α} {f : α → Nat → PR β} {p e : Nat} (h : r.bind f = .bad p e) (h1 : ∀ p e, r = .bad p e → Flt S p e) (h2 : ∀ x a, r = .ok x a → ∀ p e, f x a = .bad p e → Flt S p e) : Flt S p e := by
 cases r with
 | ok x a => exact h2 x a rfl p e h
 | bad q k => injection h with e1 e2; subst e1; subst e2; exact h1 _ _ rfl
theorem moreU_flt (hS : Sc S) : ∀ (f : Nat) (acc : List Us) (a p e : Nat), moreU S f acc a = .bad p e → Flt S p e
 | 0, acc, a, p, e, h => by cases h
 | f + 1, acc, a, p, e, h => by
  unfold moreU at h
  split at h
  ·exact bind_flt h (fun _ _ h => name_flt hS h) fun _ _ _ p e h => moreU_flt hS f _ _ p e h
  ·cases h
theorem list_flt (hS : Sc S) {a p e : Nat} (h : listP S a = .bad p e) : Flt S p e := bind_flt h (fun _ _ h => name_flt hS h) fun _ _ _ p e h => moreU_flt hS _ _ _ p e h
theorem take_flt {k a p e : Nat} (h : takeP S k a = .bad p e) : Flt S p e := (take_bad h).elim
theorem moreW_flt {mark : Nat} (hm : 0 < mark) {operand : Nat → PR Wt} {A : Nat} (hlt : ∀ a x b, operand a = .ok x b → a < b) (hop : ∀ a p e, A ≤ a → a ≤ S.ts.length → operand a = .bad p e → Flt S p e) : ∀ (f : Nat) (acc : List Wt) (a p e : Nat), A ≤ a → moreW S mark operand f acc a = .bad p e → Flt S p e
 | 0, acc, a, p, e, _, h => by cases h
 | f + 1, acc, a, p, e, ha, h => by
  unfold moreW at h
  split at h
  ·rename_i hk
   have hk2 : a < S.ts.length := kind_lt hk hm
   exact bind_flt h (fun _ _ h => hop _ _ _ (by omega) (by omega) h) fun x b hx p e h => moreW_flt hm hlt hop f _ _ p e (by have := hlt _ _ _ hx; omega) h
  ·cases h
theorem rowP_flt {op : Int} {mark : Nat} (hm : 0 < mark) {operand : Nat → PR Wt} {A : Nat} (hlt : ∀ a x b, operand a = .ok x b → a < b) (hop : ∀ a p e, A ≤ a → a ≤ S.ts.length → operand a = .bad p e → Flt S p e) {a p e : Nat} (ha : A ≤ a) (hl : a ≤ S.ts.length) (h : rowP S op mark operand a = .bad p e) : Flt S p e := by
 unfold rowP at h
 refine bind_flt h (fun _ _ h => hop _ _ _ ha hl h) fun x b hx p e h => bind_flt h (fun _ _ h => moreW_flt hm hlt hop _ _ _ _ _ (by have := hlt _ _ _ hx; omega) h) fun _ _ _ p e h => by cases h
theorem one_flt (hS : Sc S) : ∀ (f d a p e : Nat), S.ts.length < f + a → a ≤ S.ts.length → oneP S f d a = .bad p e → Flt S p e
 | 0, d, a, p, e, hf, ha, h => by omega
 | f + 1, d, a, p, e, hf, ha, h => by
  have hp := pos_le hS a
  unfold oneP at h
  split at h
  ·rename_i hk
   have hk2 : a < S.ts.length := kind_lt hk (by omega)
   split at h
   ·injection h with h1 h2; subst h1; subst h2; exact ⟨hp, by omega, by omega⟩
   ·exact bind_flt h (fun _ _ h => one_flt hS f _ _ _ _ (by omega) (by omega) h) fun _ _ _ p e h => by cases h
  ·split at h
   ·rename_i hk
    have hk2 : a < S.ts.length := kind_lt hk (by omega)
    split at h
    ·injection h with h1 h2; subst h1; subst h2; exact ⟨hp, by omega, by omega⟩
    ·refine bind_flt h (fun _ _ h => ?_) fun _ _ _ p e h => bind_flt h (fun _ _ h => want_flt hS h) fun _ _ _ p e h => by cases h
     exact rowP_flt (by omega) (A := a + 1) (fun b x c h => rowP_lt (fun b x c h => oneP_lt f _ b x c h) b x c h) (fun a' p e ha' hl' h => rowP_flt (by omega) (A := a') (fun b x c h => oneP_lt f _ b x c h) (fun a'' p e ha'' hl'' h => one_flt hS f _ _ _ _ (by omega) hl'' h) (Nat.le_refl _) hl' h) (Nat.le_refl _) (by omega) h
   ·split at h
    ·cases hw : wordW (nmP S a).data.toList with
     | none => rw [hw] at h; injection h with h1 h2; subst h1; subst h2; exact ⟨hp, by omega, by omega⟩
     | some w => rw [hw] at h; cases h
    ·injection h with h1 h2; subst h1; subst h2; exact ⟨hp, by omega, by omega⟩
theorem wantW_flt (hS : Sc S) {a p e : Nat} (ha : a ≤ S.ts.length) (h : wantW S a = .bad p e) : Flt S p e :=
 rowP_flt (by omega) (A := 0) (fun b x c h => rowP_lt (fun b x c h => oneP_lt (fuel S) _ b x c h) b x c h) (fun a' p e _ hl' h => rowP_flt (by omega) (A := 0) (fun b x c h => oneP_lt (fuel S) _ b x c h) (fun a'' p e _ hl'' h => one_flt hS (fuel S) _ _ _ _ (by unfold fuel; omega) hl'' h) (Nat.zero_le _) hl' h) (Nat.zero_le _) ha h
theorem takeT {k a b : Nat} (hk : 0 < k) {c : Bool} (h : takeP S k a = .ok c b) (hc : c = true) : b ≤ S.ts.length := by
 subst hc
 unfold takeP at h
 split at h
 ·rename_i h1
  injection h with h2 h3
  have : a < S.ts.length := kind_lt h1 hk
  omega
 ·injection h with h2 h3
  cases h2
theorem opt_flt (hS : Sc S) {k a p e : Nat} (h : ((takeP S k a).bind fun c a => if c = true then listP S a else .ok [] a) = .bad p e) : Flt S p e :=
 bind_flt h (fun _ _ h => take_flt h) fun c a _ p e h => by
  split at h
  ·exact list_flt hS h
  ·cases h
theorem core_flt (hS : Sc S) {a p e : Nat} (h : coreP S a = .bad p e) : Flt S p e := by
 unfold coreP at h
 refine bind_flt h (fun _ _ h => name_flt hS h) fun u a1 _ p e h => bind_flt h (fun _ _ h => take_flt h) fun m a2 _ p e h => bind_flt h (fun p e h => ?_) fun hn a3 _ p e h => ?_
 ·split at h
  ·exact bind_flt h (fun _ _ h => num_flt hS h) fun _ _ _ p e h => by cases h
  ·cases h
 ·rw [← PR.assoc] at h
  exact bind_flt h (fun _ _ h => opt_flt hS h) fun _ _ _ p e h => by cases h
theorem nums_flt (hS : Sc S) : ∀ (f : Nat) (acc : List Int) (a p e : Nat), numsP S f acc a = .bad p e → Flt S p e
 | 0, acc, a, p, e, h => by cases h
 | f + 1, acc, a, p, e, h => by
  unfold numsP at h
  split at h
  ·exact bind_flt h (fun _ _ h => num_flt hS h) fun _ _ _ p e h => nums_flt hS f _ _ p e h
  ·cases h
theorem wrap_flt (hS : Sc S) {a p e : Nat} (h : wrapP S a = .bad p e) : Flt S p e := by
 unfold wrapP at h
 refine bind_flt h (fun _ _ h => take_flt h) fun o a1 _ p e h => bind_flt h (fun _ _ h => name_flt hS h) fun u a2 _ p e h => ?_
 rw [← PR.assoc] at h
 refine bind_flt h (fun p e h => bind_flt h (fun _ _ h => take_flt h) fun c a _ p e h => ?_) fun sub a3 _ p e h => bind_flt h (fun _ _ h => nums_flt hS _ _ _ _ _ h) fun ns a4 _ p e h => ?_
 ·split at h
  ·exact bind_flt h (fun _ _ h => name_flt hS h) fun _ _ _ p e h => by cases h
  ·cases h
 ·rw [← PR.assoc] at h
  refine bind_flt h (fun _ _ h => opt_flt hS h) fun us a5 _ p e h => bind_flt h (fun _ _ h => take_flt h) fun w a6 hw p e h => bind_flt h (fun p e h => ?_) fun _ _ _ p e h => by cases h
  split at h
  ·rename_i hc
   exact wantW_flt hS (takeT (by omega) hw hc) h
  ·cases h
theorem wraps_flt (hS : Sc S) : ∀ (f : Nat) (acc : List WrapT) (a p e : Nat), wrapsP S f acc a = .bad p e → Flt S p e
 | 0, acc, a, p, e, h => by cases h
 | f + 1, acc, a, p, e, h => by
  unfold wrapsP at h
  refine bind_flt h (fun _ _ h => take_flt h) fun t a1 _ p e h => ?_
  split at h
  ·exact bind_flt h (fun _ _ h => wrap_flt hS h) fun _ _ _ p e h => wraps_flt hS f _ _ p e h
  ·cases h
theorem room_flt (hS : Sc S) {a p e : Nat} (h : roomP S a = .bad p e) : Flt S p e := by
 unfold roomP at h
 refine bind_flt h (fun _ _ h => take_flt h) fun r a1 _ p e h => ?_
 split at h
 ·refine bind_flt h (fun _ _ h => num_flt hS h) fun n a2 _ p e h => bind_flt h (fun _ _ h => take_flt h) fun d a3 _ p e h => bind_flt h (fun p e h => ?_) fun _ _ _ p e h => by cases h
  split at h
  ·exact name_flt hS h
  ·cases h
 ·cases h
theorem hand_flt (hS : Sc S) {a p e : Nat} (h : handlerP S a = .bad p e) : Flt S p e := by
 unfold handlerP at h
 refine bind_flt h (fun _ _ h => name_flt hS h) fun nm a1 _ p e h => bind_flt h (fun _ _ h => want_flt hS h) fun _ a2 _ p e h => ?_
 rw [← PR.assoc] at h
 refine bind_flt h (fun p e h => bind_flt h (fun _ _ h => take_flt h) fun o b _ p e h => ?_) fun oc a3 _ p e h => bind_flt h (fun _ _ h => wraps_flt hS _ _ _ _ _ h) fun ws a4 _ p e h => bind_flt h (fun _ _ h => room_flt hS h) fun r a5 _ p e h => ?_
 ·split at h
  ·exact bind_flt h (fun _ _ h => name_flt hS h) fun _ _ _ p e h => by cases h
  ·exact bind_flt h (fun _ _ h => core_flt hS h) fun _ _ _ p e h => by cases h
 ·rw [← PR.assoc] at h
  exact bind_flt h (fun _ _ h => opt_flt hS h) fun _ _ _ p e h => bind_flt h (fun _ _ h => want_flt hS h) fun _ _ _ p e h => by cases h
theorem route_flt (hS : Sc S) {a p e : Nat} (h : routeP S a = .bad p e) : Flt S p e := by
 unfold routeP at h
 refine bind_flt h (fun _ _ h => want_flt hS h) fun _ a1 _ p e h => bind_flt h (fun _ _ h => take_flt h) fun w a2 hw p e h => bind_flt h (fun p e h => ?_) fun we a3 _ p e h => bind_flt h (fun _ _ h => want_flt hS h) fun _ _ _ p e h => bind_flt h (fun _ _ h => name_flt hS h) fun _ _ _ p e h => bind_flt h (fun _ _ h => want_flt hS h) fun _ _ _ p e h => by cases h
 split at h
 ·rename_i hc
  exact bind_flt h (fun _ _ h => wantW_flt hS (takeT (by omega) hw hc) h) fun _ _ _ p e h => by cases h
 ·exact bind_flt h (fun _ _ h => take_flt h) fun _ _ _ p e h => by cases h
theorem config_flt (hS : Sc S) : ∀ (f : Nat) (hs : List HandT) (rs : List RouteT) (a p e : Nat), configP S f hs rs a = .bad p e → Flt S p e
 | 0, hs, rs, a, p, e, h => by cases h
 | f + 1, hs, rs, a, p, e, h => by
  unfold configP at h
  split at h
  ·cases h
  ·split at h
   ·exact bind_flt h (fun _ _ h => hand_flt hS h) fun _ _ _ p e h => config_flt hS f _ _ _ p e h
   ·split at h
    ·exact bind_flt h (fun _ _ h => route_flt hS h) fun _ _ _ p e h => config_flt hS f _ _ _ p e h
    ·injection h with h1 h2; subst h1; subst h2; exact ⟨pos_le hS a, by omega, by omega⟩
end
theorem parse_fault {l : List UInt8} {p e : Nat} (h : parseS l = .fault p e) : p ≤ l.length ∧ 60 ≤ e ∧ e ≤ 72 := by
 unfold parseS at h
 cases hs : scanS l with
 | bad q k =>
  rw [hs] at h
  injection h with h1 h2
  subst h1; subst h2
  obtain ⟨h3, h4, h5⟩ := scanS_bad hs
  exact ⟨h3, h4, by omega⟩
 | toks ts =>
  rw [hs] at h
  cases hc : configP ⟨l, ts⟩ (ts.length + 1) [] [] 0 with
  | ok t b => simp only [hc] at h; cases h
  | bad q k =>
   simp only [hc] at h
   injection h with h1 h2
   subst h1; subst h2
   obtain ⟨h3, h4, h5⟩ := config_flt (sc_of hs) _ _ _ _ _ _ hc
   exact ⟨h3, by omega, h5⟩
theorem config_ne {l : List UInt8} {ts : List Tok} (hs : scanS l = .toks ts) {p e : Nat} (h : configP ⟨l, ts⟩ (ts.length + 1) [] [] 0 = .bad p e) : e ≠ 0 := by
 have := (config_flt (sc_of hs) _ _ _ _ _ _ h).2.1
 omega
theorem parse_fit {l : List UInt8} {t : TreeT} (h : parseS l = .tree t) : fitT t = true ∧ NmT t ∧ SmT t ∧ (printW t).length ≤ 140737488355328 := by
 unfold parseS at h
 cases hs : scanS l with
 | bad q k => rw [hs] at h; cases h
 | toks ts =>
  rw [hs] at h
  cases hc : configP ⟨l, ts⟩ (ts.length + 1) [] [] 0 with
  | bad q k => simp only [hc] at h; cases h
  | ok t' b =>
   simp only [hc] at h
   injection h with h
   subst h
   have hS := sc_of hs
   obtain ⟨⟨h1, h2⟩, h3, h4⟩ := config_fit hS _ _ _ _ _ _ (Nat.zero_le _) hc ⟨fun _ h => absurd h List.not_mem_nil, fun _ h => absurd h List.not_mem_nil⟩
   have hn : NmT t' := fun d hd => (h1 d hd).2.1
   have hp := print_len hn
   have hf : ts.length ≤ 16384 := hS.few
   have h4 : b ≤ ts.length := h4
   have e0 : wgL HandT.wg [] + wgL RouteT.wg [] = 0 := rfl
   refine ⟨?_, hn, ⟨fun d hd => (h1 d hd).2.2, fun r hr => (h2 r hr).2⟩, by omega⟩
   unfold fitT
   rw [Bool.and_eq_true]
   exact ⟨List.all_eq_true.2 fun d hd => (h1 d hd).1, List.all_eq_true.2 fun r hr => (h2 r hr).1⟩
/-! ### trees that are the same -/
theorem eqL_get {α β : Type} {p : α → β → Bool} : ∀ {xs : List α} {ys : List β}, eqL p xs ys = true → xs.length = ys.length ∧ ∀ (i : Nat) (x : α) (y : β), xs[i]? = some x → ys[i]? = some y → p x y = true := by
 intro xs ys h
 unfold eqL at h
 rw [Bool.and_eq_true, decide_eq_true_eq] at h
 refine ⟨h.1, fun i x y hx hy => ?_⟩
 exact List.all_eq_true.1 h.2 (x, y) (List.mem_of_getElem? (List.getElem?_zip_eq_some.2 ⟨hx, hy⟩))
theorem eqL_map {α β γ : Type} {p : α → β → Bool} {f : α → γ} {g : β → γ} (hp : ∀ x y, p x y = true → f x = g y) {xs : List α} {ys : List β} (h : eqL p xs ys = true) : xs.map f = ys.map g := by
 obtain ⟨h1, h2⟩ := eqL_get h
 apply List.ext_getElem?
 intro i
 rw [List.getElem?_map, List.getElem?_map]
 by_cases hi : i < xs.length
 ·rw [List.getElem?_eq_getElem hi, List.getElem?_eq_getElem (by omega : i < ys.length)]
  exact congrArg some (hp _ _ (h2 i _ _ (List.getElem?_eq_getElem hi) (List.getElem?_eq_getElem (by omega))))
 ·rw [List.getElem?_eq_none (by omega), List.getElem?_eq_none (by omega)]; rfl
mutual
theorem sameW_to : ∀ a b : Wt, sameW a b = true → a = b
 | .mk op num l, .mk op2 num2 l2, h => by
  rw [sameW] at h
  simp only [Bool.and_eq_true, decide_eq_true_eq] at h
  obtain ⟨rfl, rfl, h1, h2⟩ := h
  rw [sameWL_to l l2 h1 h2]
theorem sameWL_to : ∀ a b : List Wt, a.length = b.length → sameWL a b = true → a = b
 | [], [], _, _ => rfl
 | x :: xs, y :: ys, h, hs => by
  rw [sameWL, Bool.and_eq_true] at hs
  rw [sameW_to x y hs.1, sameWL_to xs ys (by simpa using h) hs.2]
end
theorem sameU_to {a b : List Us} (h : sameU a b = true) : a.map (·.name) = b.map (·.name) ∧ a.length = b.length := ⟨eqL_map (fun _ _ h => of_decide_eq_true h) h, (eqL_get h).1⟩
theorem sameNum_to {a b : List Int} (h : sameNum a b = true) : a = b := by
 have := eqL_map (f := id) (g := id) (fun _ _ h => of_decide_eq_true h) h
 simpa using this
theorem usesB_same {a b : List Us} (h : sameU a b = true) : usesB a = usesB b := by
 have e : ∀ l : List Us, (l.map fun u => bs u.name) = (l.map (·.name)).map bs := fun l => by rw [List.map_map]; rfl
 unfold usesB
 rw [e, e, (sameU_to h).1]
theorem namesB_same {a b : List Us} (h : sameU a b = true) : namesB a = namesB b := by
 have e : ∀ l : List Us, namesB l = (l.map (·.name)).all nameB := fun l => by unfold namesB; rw [List.all_map]; rfl
 rw [e, e, (sameU_to h).1]
theorem capsB_same {a b : List Us} (h : sameU a b = true) : capsB a = capsB b := by
 unfold capsB
 rw [usesB_same h, (sameU_to h).2]
theorem sameC_to {a b : CoreT} (h : sameC a b = true) : coreW a = coreW b ∧ coreB a = coreB b ∧ noCoreB a = noCoreB b := by
 unfold sameC at h
 simp only [Bool.and_eq_true, decide_eq_true_eq] at h
 obtain ⟨h1, h2, h3, h4, h5⟩ := h
 unfold coreW coreB noCoreB
 rw [h1, h2, h3, h4, capsB_same h5, namesB_same h5, (sameU_to h5).2]
 exact ⟨rfl, rfl, rfl⟩
theorem sameX_to {a b : WrapT} (h : sameX a b = true) : wrapW a = wrapW b ∧ wrapB a = wrapB b := by
 unfold sameX at h
 simp only [Bool.and_eq_true, decide_eq_true_eq] at h
 obtain ⟨h1, h2, h3, h4, h5, h6, h7⟩ := h
 unfold wrapW subB wrapB
 rw [h1, h2, h3, sameNum_to h4, capsB_same h5, h6, sameW_to _ _ h7, namesB_same h5]
 exact ⟨rfl, rfl⟩
theorem sameH_to {a b : HandT} (h : sameH a b = true) : handW a = handW b ∧ handB a = handB b := by
 unfold sameH at h
 simp only [Bool.and_eq_true, decide_eq_true_eq] at h
 obtain ⟨h1, h2, h3, h4, h5, h6, h7, h8⟩ := h
 obtain ⟨c1, c2, c3⟩ := sameC_to h3
 have w1 : a.wraps.map wrapW = b.wraps.map wrapW := eqL_map (f := wrapW) (g := wrapW) (fun _ _ h => (sameX_to h).1) h4
 have w2 : a.wraps.all wrapB = b.wraps.all wrapB := by
  have e : ∀ l : List WrapT, l.all wrapB = (l.map wrapB).all id := fun l => by rw [List.all_map]; rfl
  rw [e, e, eqL_map (f := wrapB) (g := wrapB) (fun _ _ h => (sameX_to h).2) h4]
 have r1 : roomW a = roomW b := by unfold roomW; rw [h5, h6, h7]
 have f1 : afterW a.after = afterW b.after := by unfold afterW; rw [usesB_same h8, (sameU_to h8).2]
 unfold handW handB headB
 rw [h1, h2, c1, c2, c3, w1, w2, r1, f1, h5, h6, h7, namesB_same h8]
 exact ⟨rfl, rfl⟩
theorem sameR_to {a b : RouteT} (h : sameR a b = true) : routeW a = routeW b ∧ routeB a = routeB b := by
 unfold sameR at h
 simp only [Bool.and_eq_true, decide_eq_true_eq] at h
 obtain ⟨h1, h2, h3, h4, h5⟩ := h
 unfold routeW routeB
 rw [h1, h2, h3, sameW_to _ _ h4, h5]
 exact ⟨rfl, rfl⟩
theorem sameT_to {a b : TreeT} (h : sameT a b = true) : printT a = printT b ∧ fitT a = fitT b := by
 unfold sameT at h
 rw [Bool.and_eq_true] at h
 have w1 : a.hands.map handW = b.hands.map handW := eqL_map (f := handW) (g := handW) (fun _ _ h => (sameH_to h).1) h.1
 have w2 : a.routes.map routeW = b.routes.map routeW := eqL_map (f := routeW) (g := routeW) (fun _ _ h => (sameR_to h).1) h.2
 have v1 : a.hands.all handB = b.hands.all handB := by
  have e : ∀ l : List HandT, l.all handB = (l.map handB).all id := fun l => by rw [List.all_map]; rfl
  rw [e, e, eqL_map (f := handB) (g := handB) (fun _ _ h => (sameH_to h).2) h.1]
 have v2 : a.routes.all routeB = b.routes.all routeB := by
  have e : ∀ l : List RouteT, l.all routeB = (l.map routeB).all id := fun l => by rw [List.all_map]; rfl
  rw [e, e, eqL_map (f := routeB) (g := routeB) (fun _ _ h => (sameR_to h).2) h.2]
 unfold printT fitT printW
 rw [w1, w2, v1, v2]
 exact ⟨rfl, rfl⟩
theorem print_ne {t : TreeT} (h : 0 < t.hands.length + t.routes.length) : printW t ≠ [] := by
 unfold printW
 rcases t with ⟨hs, rs⟩
 cases hs with
 | cons d ds => simp [handW]
 | nil =>
  cases rs with
  | cons r rs => simp [routeW]
  | nil => simp at h
end
end Go.Proofs.YtbdllefnghddcaaGreatDoor
