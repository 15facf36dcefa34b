/- A RANGE OVER AN ITERATOR THAT KEEPS ITS PLACE IN A BOX OF ITS OWN (a captured variable that it writes between two rounds): what is asked of the iterator, and the law of the statement. THE REFERENCE's small functions, walked. THE REFERENCE's functions on rows of texts, walked. -/
import Derived.RangeFuncBox
import Derived.RangeFuncLeaves
import Derived.WalkKit
import Derived.Lib.Hide
import Derived.Test.YtincmegllckcjaaGreatDoorProg
import Derived.Test.YtincmegllckcjaaGreatDoorMTrieStep
import Derived.Deep.QuietTactic
import Derived.BigQuiet
import Derived.Maps.AppendAt
namespace Go.Proofs.YtincmegllckcjaaGreatDoor
section
open Go Go.RowKit
variable {F : Fence} {n : Nat} {P : Program}

/-- what is said of the caller's memory stands, whatever the iterator writes into its box and whatever it lays -/
def Stands {β : Type} (Bn : Nat) (J : β → World → Prop) : Prop := ∀ s W W', J s W → W.grownBy W' (some Bn) → J s W'

/-- the iterator's word -/
def SeqBox {α : Type} (F : Fence) (n : Nat) (P : Program) (g : Nat) (lb : Array Value) (encs : α → Array Value) (Bn : Nat) (S Sp : List α → Prop) (N : Nat) (w : World) : Prop :=
  ∀ (l : Nat) (J Jx : List α → World → Prop) (W : World), W.heap[Bn]? = w.heap[Bn]? → Stands Bn J → Stands Bn Jx →
    (∀ pre x W1, J pre W1 → pre.length < N → YieldAt F (n - 1) P l (encs x) W1 fun e W' =>
      (e = .returned (.bool true) ∧ J (pre ++ [x]) W' ∧ W'.heap[Bn]? = W1.heap[Bn]?) ∨ (e = .returned (.bool false) ∧ Jx (pre ++ [x]) W')) →
    J [] W →
    CallsIn F n P g (#[.func (.yield l) #[] #[]] ++ lb) W fun e W' => (∃ v, e = .returned v) ∧ ((∃ xs, S xs ∧ J xs W') ∨ (∃ pre, Sp pre ∧ Jx pre W'))

/-- what is said of the caller's memory stands, whatever becomes of the loop's own records and of the box -/
def Holds {β : Type} (B Bn : Nat) (I : β → World → Prop) : Prop :=
  ∀ s W W' row, I s W → W.grownBy W' row → (∀ r, row = some r → r = Bn ∨ (B ≤ r ∧ ∃ o : Obj, W.heap[r]? = some o ∧ o.isCells = false)) → I s W'

theorem Holds.put {β : Type} {B Bn : Nat} {I : β → World → Prop} (h : Holds B Bn I) {s : β} {W : World} {l : Nat} {o : Obj} (o' : Obj) (hs : I s W) (hB : B ≤ l) (hl : W.heap[l]? = some o) (ho : o.isCells = false) : I s (W.putObj l o') :=
  h s W _ (some l) hs (grownBy_putObj' W l o') (fun r e => by cases e; exact .inr ⟨hB, o, hl, ho⟩)
theorem Holds.more {β : Type} {B Bn : Nat} {I : β → World → Prop} (h : Holds B Bn I) {s : β} {W : World} (o : Obj) (hs : I s W) : I s (W.alloc o) :=
  h s W _ none hs (World.grownBy_alloc W o none) (fun r e => by cases e)

/-- how a round's body may be left -/
def boxPost {α : Type} (B Bn : Nat) (I : List α → World → Prop) (Ix : Code → List α → World → Prop) (xs : List α) (W : World) : Exit → Act → World → Prop
  | .normal, _, W' => KeepsFrom B W W' ∧ W'.heap[Bn]? = W.heap[Bn]? ∧ I xs W'
  | .ret, _, W' => KeepsFrom B W W' ∧ Ix .ret xs W'
  | .exit id, _, W' => KeepsFrom B W W' ∧ Ix (.exit id) xs W'
  | .goto t, _, W' => KeepsFrom B W W' ∧ Ix (.goto t) xs W'
  | .panic _, _, _ => False
  | .outgrown, _, _ => False

theorem grown_keeps_obj {W W' : World} {Bn k : Nat} {o : Obj} (hg : W.grownBy W' (some Bn)) (hk : W.heap[k]? = some o) (hne : k ≠ Bn) : W'.heap[k]? = some o :=
  (hg.block k (Array.getElem?_eq_some_iff.1 hk).1 (fun e => hne (by cases e; rfl))).trans hk

theorem wpIn_range_box {α : Type} {g : Operand} {ps : Array Tmp} {assign body : Code} {Q : Exit → Act → World → Prop} {a : Act} {w : World}
    (hro : F.round = none) (h1 : 1 ≤ n) {gf : Nat} {lb : Array Value} (hg : a.eval g = .func (.func gf) #[] lb) (hFg : F.fn gf) (eg : ∀ args w, (callFunc gf args).run P w = .ok (.enter gf args) w)
    {encs : α → Array Value} {Bn : Nat} (hBn : Bn < w.heap.size) {S Sp : List α → Prop} {N : Nat} (hseq : SeqBox F (n - 1) P gf lb encs Bn S Sp N w)
    (hps : ∀ x, (encs x).size = ps.size)
    (I : List α → World → Prop) (Ix : Code → List α → World → Prop) (hI : Holds w.heap.size Bn I) (hIx : ∀ c, Holds w.heap.size Bn (Ix c)) (h0 : I [] w) (a₁ : α → Act)
    (hassign : ∀ (l : Nat) (x : α) (W : World) (K : Act → World → Prop), K (a₁ x) W →
      assign.wpIn (F.inRound l) (n - 1 - 1) P (Exit.then K (fun _ _ _ => False)) { tmps := (ps.zip (encs x)).foldl (fun t (p, v) => t.setIfInBounds p v) a.tmps, defers := [] } W)
    (hbody : ∀ (l : Nat) (pre : List α) (x : α) (W : World), I pre W → pre.length < N → body.wpIn (F.inRound l) (n - 1 - 1) P (boxPost w.heap.size Bn I Ix (pre ++ [x]) W) (a₁ x) W)
    (hdone : ∀ (D : Nat) (xs : List α) (W : World), w.heap.size ≤ D → S xs → I xs W → W.heap[D]? = some (.deferred (some [])) → Q .normal { a with defers := { target := .collected D, args := #[] } :: a.defers } W)
    (hstop : ∀ (D : Nat) (c : Code) (pre : List α) (W : World), w.heap.size ≤ D → Sp pre → Ix c pre W → W.heap[D]? = some (.deferred (some [])) → c.wpIn F n P Q { a with defers := { target := .collected D, args := #[] } :: a.defers } W) :
    (Code.rangeFunc g ps assign body).wpIn F n P Q a w := by
  refine wpIn_rangeFunc ?_
  intro fn hfn
  rw [hro]
  -- the loop's record, at each of its states
  obtain ⟨rec, hrec⟩ : ∃ rec : LoopState → Option Code → Loop, rec = fun st pe => { state := st, pending := pe, fn, tmps := a.tmps, params := ps, assign, body, defers := w.heap.size } := ⟨_, rfl⟩
  obtain ⟨W1, hW1⟩ : ∃ W1, (w.alloc (.deferred (some []))).alloc (.loop (rec .ready none)) = W1 := ⟨_, rfl⟩
  have old : ∀ k, k < w.heap.size → W1.heap[k]? = w.heap[k]? := fun k hk => by
    rw [← hW1]; exact (Below.heap_alloc _ _ _ (by simp; omega)).trans (Below.heap_alloc _ _ _ hk)
  have hL1 : W1.heap[w.heap.size + 1]? = some (.loop (rec .ready none)) := by
    rw [← hW1]; have := World.alloc_heap_new (w.alloc (.deferred (some []))) (.loop (rec .ready none)); rwa [World.size_alloc] at this
  have hK1 : W1.heap[w.heap.size]? = some (.deferred (some [])) := by
    rw [← hW1]; exact (Below.heap_alloc _ _ _ (by simp)).trans (World.alloc_heap_new w _)
  have hI1 : I [] W1 := by rw [← hW1]; exact hI.more _ (hI.more _ h0)
  refine ⟨w.heap.size + 1, [{ target := .collected w.heap.size, args := #[] }], W1, { target := .fn (.func gf) lb, args := #[.func (.yield (w.heap.size + 1)) #[] #[]] }, W1, gf,
    #[.func (.yield (w.heap.size + 1)) #[] #[]] ++ lb, W1, ?_, ?_, ?_, ?_, fun _ => h1, ?_⟩
  · rw [← hW1, hrec]; exact run_enterLoop_outer _ _ _ _ _
  · simp only [resolve, hg]
    simp [go_sem]
  · intro f' hf'; simp [Target.leads] at hf'; subst hf'; exact hFg
  · simp [invoke, go_sem, eg]
  · have hne1 : w.heap.size + 1 ≠ Bn := by omega
    have hne0 : w.heap.size ≠ Bn := by omega
    refine (hseq (w.heap.size + 1)
      (fun pre W => I pre W ∧ W.heap[w.heap.size + 1]? = some (.loop (rec .ready none)) ∧ W.heap[w.heap.size]? = some (.deferred (some [])))
      (fun pre W => ∃ c, Ix c pre W ∧ W.heap[w.heap.size + 1]? = some (.loop (rec .done (some c))) ∧ W.heap[w.heap.size]? = some (.deferred (some [])))
      W1 (old Bn hBn)
      (fun s A B hs hg' => ⟨hI s A B _ hs.1 hg' (fun r e => .inl (by cases e; rfl)), grown_keeps_obj hg' hs.2.1 hne1, grown_keeps_obj hg' hs.2.2 hne0⟩)
      (fun s A B hs hg' => by
        obtain ⟨c, hc, hl, hk⟩ := hs
        exact ⟨c, hIx c s A B _ hc hg' (fun r e => .inl (by cases e; rfl)), grown_keeps_obj hg' hl hne1, grown_keeps_obj hg' hk hne0⟩)
      ?_ ⟨hI1, hL1, hK1⟩).mono ?_
    · -- one round
      rintro pre x W ⟨hi, hl, hk⟩ hlen
      have hlt : w.heap.size + 1 < W.heap.size := (Array.getElem?_eq_some_iff.1 hl).1
      have hy := run_yield (P := P) (args := encs x) hl (by rw [hrec]; exact hps x)
      rw [hrec] at hy
      refine ⟨fn, _, assign, body, hy, roundIn_of_wpIn hfn (hassign _ x W _ ⟨_, run_beginRound hl (by rw [hrec]), ?_⟩)⟩
      obtain ⟨busy, hbusy⟩ : ∃ busy : Loop, busy = { rec .ready none with state := .busy } := ⟨_, rfl⟩
      rw [← hbusy]
      have hl2 : (W.putObj (w.heap.size + 1) (.loop busy)).heap[w.heap.size + 1]? = some (.loop busy) := World.putObj_heap_same hlt
      have hk2 : (W.putObj (w.heap.size + 1) (.loop busy)).heap[w.heap.size]? = some (.deferred (some [])) := (World.putObj_heap_other (by omega)).trans hk
      have hb2 : (W.putObj (w.heap.size + 1) (.loop busy)).heap[Bn]? = W.heap[Bn]? := World.putObj_heap_other (by omega)
      refine wpIn_mono (hbody _ pre x _ (hI.put _ hi (by omega) hl rfl) hlen) ?_
      have fin : ∀ (jump : Option Code) (W3 : World), KeepsFrom w.heap.size (W.putObj (w.heap.size + 1) (.loop busy)) W3 →
          (Instr.endRound (w.heap.size + 1) jump).run P W3 = .ok (.bool jump.isNone) (W3.putObj (w.heap.size + 1) (.loop (rec (if jump.isNone then .ready else .done) jump))) ∧
          W3.heap[w.heap.size + 1]? = some (.loop busy) ∧
          (W3.putObj (w.heap.size + 1) (.loop (rec (if jump.isNone then .ready else .done) jump))).heap[w.heap.size + 1]? = some (.loop (rec (if jump.isNone then .ready else .done) jump)) ∧
          (W3.putObj (w.heap.size + 1) (.loop (rec (if jump.isNone then .ready else .done) jump))).heap[w.heap.size]? = some (.deferred (some [])) := fun jump W3 hk3 => by
        have hl3 := hk3.same _ _ (by omega) hl2 rfl
        have := run_endRound (P := P) jump hl3
        rw [hbusy, hrec] at this
        rw [hrec]
        exact ⟨this, hl3, World.putObj_heap_same (Array.getElem?_eq_some_iff.1 hl3).1, (World.putObj_heap_other (by omega)).trans (hk3.same _ _ (Nat.le_refl _) hk2 rfl)⟩
      rintro e a3 W3 hp
      cases e with
      | normal =>
        obtain ⟨hk3, hkp3, hi3⟩ := hp
        obtain ⟨hr, hl3, hl4, hk4⟩ := fin none W3 hk3
        exact ⟨_, _, hr, .inl ⟨rfl, ⟨hI.put _ hi3 (by omega) hl3 rfl, hl4, hk4⟩, ((World.putObj_heap_other (by omega)).trans hkp3).trans hb2⟩⟩
      | ret =>
        obtain ⟨hk3, hi3⟩ := hp
        obtain ⟨hr, hl3, hl4, hk4⟩ := fin (some .ret) W3 hk3
        exact ⟨_, _, hr, .inr ⟨rfl, .ret, (hIx _).put _ hi3 (by omega) hl3 rfl, hl4, hk4⟩⟩
      | exit id =>
        obtain ⟨hk3, hi3⟩ := hp
        obtain ⟨hr, hl3, hl4, hk4⟩ := fin (some (.exit id)) W3 hk3
        exact ⟨_, _, hr, .inr ⟨rfl, .exit id, (hIx _).put _ hi3 (by omega) hl3 rfl, hl4, hk4⟩⟩
      | goto t =>
        obtain ⟨hk3, hi3⟩ := hp
        obtain ⟨hr, hl3, hl4, hk4⟩ := fin (some (.goto t)) W3 hk3
        exact ⟨_, _, hr, .inr ⟨rfl, .goto t, (hIx _).put _ hi3 (by omega) hl3 rfl, hl4, hk4⟩⟩
      | panic ch => exact hp.elim
      | outgrown => exact hp.elim
    · -- behind the iterator
      rintro e W2 ⟨⟨v, rfl⟩, (⟨xs, hS, hi, hl, hk⟩ | ⟨pre, hSp, c, hi, hl, hk⟩)⟩
      · exact ⟨none, _, by have := run_endLoop (P := P) hl (by rw [hrec]; simp); rw [hrec] at this; exact this, hdone _ xs _ (Nat.le_refl _) hS (hI.put _ hi (by omega) hl rfl) ((World.putObj_heap_other (by omega)).trans hk)⟩
      · exact ⟨some c, _, by have := run_endLoop (P := P) hl (by rw [hrec]; simp); rw [hrec] at this; exact this, hstop _ c pre _ (Nat.le_refl _) hSp ((hIx c).put _ hi (by omega) hl rfl) ((World.putObj_heap_other (by omega)).trans hk)⟩
end
section
open Go Go.RowKit


set_option maxHeartbeats 400000 in
theorem has_any (s : ByteArray) (a b : Int) (w : World) (hs : s.size ≤ 9223372036854775807) :
    Calls Tryz.prog 68 #[.string s, .int .u8 a, .int .u8 b] w fun e w' => e = .returned (.bool (hasB s.data.toList a b)) ∧ w = w' := by
  go_enter Tryz.func68, Tryz.ntmps68
  go_wp2
  go_loop [7] (fun i => ∃ k : Nat, k ≤ s.size ∧ i = .int .i64 k ∧ Hid (hasB (s.data.toList.take k) a b = false)) (fun i => s.size - (intOf i).toNat)
  case atStart => exact ⟨0, Nat.zero_le _, rfl, rfl⟩
  case round =>
    obtain ⟨k, hk, rfl, H⟩ := hrel
    by_cases hlt : k < s.size
    · by_cases h1 : (((s[k].toNat : Nat) : Int) == a) = true
      · have HH := Lib.hid (hasB_hit s k a b hlt (by rw [h1]; rfl))
        go_wp2
        go_ret
        exact ⟨ret_bool HH.out.symm, rfl⟩
      · by_cases h2 : (((s[k].toNat : Nat) : Int) == b) = true
        · have HH := Lib.hid (hasB_hit s k a b hlt (by rw [h2, Bool.or_true]))
          simp only [Bool.not_eq_true] at h1
          go_wp2
          go_ret
          exact ⟨ret_bool HH.out.symm, rfl⟩
        · simp only [Bool.not_eq_true] at h1 h2
          have HH := Lib.hid (hasB_more s k a b hlt H.out h1 h2)
          go_wp2
          go_round
          case rel => exact ⟨k + 1, by omega, by go_num, HH⟩
          case measure => simp [intOf]; omega
    · have HH := Lib.hid (show hasB s.data.toList a b = false by have := H.out; rwa [List.take_of_length_le (by simp; omega)] at this)
      go_wp2
      go_ret
      exact ⟨ret_bool HH.out.symm, rfl⟩

theorem toList_nil_iff (s : ByteArray) : s.toList = [] ↔ s.size = 0 := by
  rw [ByteArray.toList_eq]
  constructor
  · intro h; have := congrArg List.length h; simpa using this
  · intro h; apply List.eq_nil_of_length_eq_zero; simpa using h

theorem plainB_no (s : ByteArray) (h : s.size = 0 ∨ 65535 < s.size ∨ Lib.validD s.data.toList = false) : plainB s.data.toList = false := by
  unfold plainB
  rcases h with h | h | h
  · have : s.data.toList = [] := by apply List.eq_nil_of_length_eq_zero; simpa using h
    simp [this]
  · have h2 : ¬ s.size ≤ 65535 := Nat.not_le.2 h
    simp [h2]
  · rw [h]; simp

theorem plainB_yes (s : ByteArray) (h1 : 0 < s.size) (h2 : s.size ≤ 65535) (h3 : Lib.validD s.data.toList = true) : plainB s.data.toList = !hasB s.data.toList 0 0 := by
  unfold plainB
  have e1 : s.data.toList.isEmpty = false := by
    rw [List.isEmpty_eq_false_iff]; intro h
    have := congrArg List.length h
    simp at this
    have : s.size = 0 := by show s.data.size = 0; simp [this]
    omega
  have e2 : s.data.toList.length ≤ 65535 := by simpa using h2
  rw [e1, h3, decide_eq_true e2]; simp

set_option maxHeartbeats 400000 in
theorem refPlain_any (hV : ValidSaid) (s : ByteArray) (w : World) (hs : s.size ≤ 9223372036854775807) (hT : Tabs w) :
    Calls Tryz.prog 67 #[.string s] w fun e w' => e = .returned (.bool (plainB s.data.toList)) ∧ Below w.heap.size w w' := by
  have cV := hV s w hs hT
  by_cases h0 : s.size = 0
  · have HH := Lib.hid (plainB_no s (.inl h0))
    have e0 : s.toList = [] := (toList_nil_iff s).2 h0
    clear cV h0
    go_enter Tryz.func67, Tryz.ntmps67
    go_wp2
    go_ret
    exact ⟨ret_bool HH.out.symm, Below.refl _ _⟩
  · have e0 : ¬ s.toList = [] := fun h => h0 ((toList_nil_iff s).1 h)
    have e1 : s.toList.isEmpty = false := by simpa using e0
    by_cases h1 : 65535 < s.size
    · have HH := Lib.hid (plainB_no s (.inr (.inl h1)))
      have h1' : (65535 : Int) < (s.size : Int) := by omega
      clear cV
      go_enter Tryz.func67, Tryz.ntmps67
      go_wp2
      go_ret
      exact ⟨ret_bool HH.out.symm, Below.refl _ _⟩
    · have h1' : ¬ (65535 : Int) < (s.size : Int) := by omega
      by_cases h2 : Lib.validD s.data.toList = true
      · have HP := Lib.hid (plainB_yes s (by omega) (by omega) h2)
        rw [h2] at cV
        clear h2
        go_enter Tryz.func67, Tryz.ntmps67
        go_wp2_with (go_at_call 45; refine cV.mono ?_; rintro e w' ⟨rfl, hb⟩)
        clear cV
        go_loop [3] (fun i => ∃ k : Nat, k ≤ s.size ∧ i = .int .i64 k ∧ Hid (hasB (s.data.toList.take k) 0 0 = false)) (fun i => s.size - (intOf i).toNat)
        case atStart => exact ⟨0, Nat.zero_le _, rfl, rfl⟩
        case round =>
          obtain ⟨k, hk, rfl, H⟩ := hrel
          by_cases hlt : k < s.size
          · by_cases h1 : (((s[k].toNat : Nat) : Int) == 0) = true
            · have HH := Lib.hid (hasB_hit s k 0 0 hlt (by rw [h1]; rfl))
              go_wp2
              go_ret
              exact ⟨ret_bool (by rw [HP.out, HH.out]; rfl), hb⟩
            · simp only [Bool.not_eq_true] at h1
              have HH := Lib.hid (hasB_more s k 0 0 hlt H.out h1 h1)
              go_wp2
              go_round
              case rel => exact ⟨k + 1, by omega, by go_num, HH⟩
              case measure => simp [intOf]; omega
          · have HH := Lib.hid (show hasB s.data.toList 0 0 = false by have := H.out; rwa [List.take_of_length_le (by simp; omega)] at this)
            go_wp2
            go_ret
            exact ⟨ret_bool (by rw [HP.out, HH.out]; rfl), hb⟩
      · have HH := Lib.hid (plainB_no s (.inr (.inr (by simpa using h2))))
        simp only [Bool.not_eq_true] at h2
        rw [h2] at cV
        clear h2
        go_enter Tryz.func67, Tryz.ntmps67
        go_wp2_with (go_at_call 45; refine cV.mono ?_; rintro e w' ⟨rfl, hb⟩)
        go_ret
        exact ⟨ret_bool HH.out.symm, hb⟩
end
section
open Go Go.RowKit

/-- a slice value reads as a list of texts -/
def Sl (w : World) (v : Value) (l : List ByteArray) : Prop :=
  ∃ p cap, v = .slice p l.length cap ∧ l.length ≤ cap ∧ cap ≤ 9223372036854775807 ∧ (l = [] ∨ ∃ b o, p = some ⟨b, o, none⟩ ∧ ∀ (j : Nat) x, l[j]? = some x → w.cell? ⟨b, o + j, none⟩ = some (.string x))

/-- the rest of a slice, as the walk spells it -/
theorem Sl.rest {w : World} {b o cap : Nat} {x : ByteArray} {l : List ByteArray} (hc : (x :: l).length ≤ cap) (hm : cap ≤ 9223372036854775807)
    (h : ∀ (j : Nat) y, (x :: l)[j]? = some y → w.cell? ⟨b, o + j, none⟩ = some (.string y)) :
    Sl w (.slice (if cap = 1 then some ⟨b, o, none⟩ else some ⟨b, o + 1, none⟩) l.length (cap - 1)) l := by
  simp only [List.length_cons] at hc
  refine ⟨_, _, rfl, by omega, by omega, ?_⟩
  cases l with
  | nil => exact .inl rfl
  | cons y l =>
    simp only [List.length_cons] at hc
    refine .inr ⟨b, o + 1, by rw [if_neg (by omega)], fun j z hz => ?_⟩
    have := h (j + 1) z (by simpa using hz)
    rwa [show o + 1 + j = o + (j + 1) by omega]
theorem Sl.drewN {w : World} {v : Value} {l : List ByteArray} (h : Sl w v l) (n : Nat) : Sl (w.drewN n) v l := h

def agreeB : List ByteArray → List ByteArray → Bool
  | [], n => n.isEmpty
  | x :: f, n => if x.toList == [35] then true else match n with
    | [] => false
    | y :: n => (x.toList == [43] || x.toList == y.toList) && agreeB f n

theorem agreeB_nil (n : List ByteArray) : agreeB [] n = ((n.length : Int) == 0) := by cases n <;> simp [agreeB]; omega
theorem agreeB_hash (x : ByteArray) (f n : List ByteArray) (h : (x.toList == [35]) = true) : agreeB (x :: f) n = true := by simp [agreeB, h]
theorem agreeB_none (x : ByteArray) (f : List ByteArray) (h : (x.toList == [35]) = false) : agreeB (x :: f) [] = false := by simp [agreeB, h]
theorem agreeB_cons (x y : ByteArray) (f n : List ByteArray) (h : (x.toList == [35]) = false) : agreeB (x :: f) (y :: n) = ((x.toList == [43] || x.toList == y.toList) && agreeB f n) := by simp [agreeB, h]

set_option maxHeartbeats 400000 in
theorem agree_any (f : List ByteArray) : ∀ (n : List ByteArray) (v1 v2 : Value) (w : World), Sl w v1 f → Sl w v2 n →
    Calls Tryz.prog 124 #[v1, v2] w fun e w' => e = .returned (.bool (agreeB f n)) ∧ ∃ q, w' = w.drewN q := by
  induction f with
  | nil =>
    rintro n _ _ w ⟨p, cap, rfl, hc, hm, hp⟩ ⟨p2, cap2, rfl, hc2, hm2, hp2⟩
    go_enter Tryz.func124, Tryz.ntmps124
    go_wp2
    go_ret
    exact ⟨ret_bool (agreeB_nil n).symm, 0, rfl⟩
  | cons x f ih =>
    rintro n _ _ w ⟨p, cap, rfl, hc, hm, hp⟩ ⟨p2, cap2, rfl, hc2, hm2, hp2⟩
    obtain ⟨b, o, rfl, hcell⟩ := hp.resolve_left (by simp)
    have h0 := hcell 0 x rfl
    simp only [Nat.add_zero] at h0
    have IH := Lib.hid ih
    have R1 := Lib.hid (Sl.rest hc hm hcell)
    clear ih hcell
    cases n with
    | nil =>
      by_cases h1 : (x.toList == [35]) = true
      · have HH := Lib.hid (agreeB_hash x f [] h1)
        go_enter Tryz.func124, Tryz.ntmps124
        go_wp2
        go_ret
        exact ⟨ret_bool HH.out.symm, 0, rfl⟩
      · simp only [Bool.not_eq_true] at h1
        have HH := Lib.hid (agreeB_none x f h1)
        go_enter Tryz.func124, Tryz.ntmps124
        go_wp2
        go_ret
        exact ⟨ret_bool HH.out.symm, 0, rfl⟩
    | cons y n =>
      obtain ⟨b2, o2, rfl, hcell2⟩ := hp2.resolve_left (by simp)
      have h20 := hcell2 0 y rfl
      simp only [Nat.add_zero] at h20
      have R2 := Lib.hid (Sl.rest hc2 hm2 hcell2)
      clear hcell2
      by_cases h1 : (x.toList == [35]) = true
      · have HH := Lib.hid (agreeB_hash x f (y :: n) h1)
        go_enter Tryz.func124, Tryz.ntmps124
        go_wp2
        go_ret
        exact ⟨ret_bool HH.out.symm, 0, rfl⟩
      · simp only [Bool.not_eq_true] at h1
        have HH := Lib.hid (agreeB_cons x y f n h1)
        simp only [List.length_cons] at hc hc2
        by_cases h2 : (x.toList == [43]) = true
        · have HG := Lib.hid (show agreeB (x :: f) (y :: n) = agreeB f n by rw [HH.out, h2]; simp)
          go_enter Tryz.func124, Tryz.ntmps124
          go_wp2
          go_quiet ((go_at_call 124; exact Calls.quiet_of (IH.out _ _ _ _ (R1.out.drewN _) (R2.out.drewN _))))
          go_wp2
          all_goals (go_ret; exact ⟨ret_bool HG.out.symm, _, rfl⟩)
        · simp only [Bool.not_eq_true] at h2
          by_cases h3 : (x.toList == y.toList) = true
          · have HG := Lib.hid (show agreeB (x :: f) (y :: n) = agreeB f n by rw [HH.out, h3]; simp)
            go_enter Tryz.func124, Tryz.ntmps124
            go_wp2
            go_quiet ((go_at_call 124; exact Calls.quiet_of (IH.out _ _ _ _ (R1.out.drewN _) (R2.out.drewN _))))
            go_wp2
            all_goals (go_ret; exact ⟨ret_bool HG.out.symm, _, rfl⟩)
          · simp only [Bool.not_eq_true] at h3
            have HG := Lib.hid (show agreeB (x :: f) (y :: n) = false by rw [HH.out, h2, h3]; rfl)
            go_enter Tryz.func124, Tryz.ntmps124
            go_wp2
            go_quiet (fail)
            go_wp2
            all_goals (go_ret; exact ⟨ret_bool HG.out.symm, _, rfl⟩)

theorem info_string : (Tryz.prog.info? 9).map (fun i => (i.zero, i.size, i.bytes)) = some (some (.string ByteArray.empty), 1, 16) := by kernel_rfl

/-- an owned row of texts reads as their list -/
theorem Sl.of_owns {w : World} {base : Nat} {v : Value} {l : List ByteArray} (h : w.ownsRow base 9 1 v l.length (l.map Value.string)) : Sl w v l := by
  rcases h.2 with ⟨rfl, h0⟩ | ⟨g, cap, cur, rfl, hb, hg, hn, hm, hs, ht⟩
  · have : l = [] := List.eq_nil_of_length_eq_zero h0
    subst this
    exact ⟨none, 0, rfl, Nat.le_refl _, by omega, .inl rfl⟩
  · refine ⟨_, cap, rfl, hn, by unfold maxLen at hm; omega, .inr ⟨g, 0, rfl, fun j x hj => ?_⟩⟩
    have := h.cells (g := g) rfl j (.string x) (by simp [hj])
    have hadd : (⟨g, 0, none⟩ : Addr).add j = ⟨g, 0 + j, none⟩ := by unfold Addr.add; split <;> simp_all
    rwa [hadd] at this

set_option maxHeartbeats 1000000 in
theorem refLevels_any (s : ByteArray) (w : World) (hs : s.size ≤ 1048576) :
    Calls Tryz.prog 122 #[.string s] w fun e w' => ∃ v, e = .returned v ∧ Sl w' v (levels s) ∧ Below w.heap.size w w' := by
  obtain ⟨i0, hi, hz0, hz1, hz2⟩ := info_parts info_string
  go_enter Tryz.func122, Tryz.ntmps122
  go_wp2
  go_loopw [3, 4, 5] (fun v at_ i wr => ∃ (k a : Nat) (done : List ByteArray), a ≤ k ∧ k ≤ s.size ∧ at_ = .int .i64 a ∧ i = .int .i64 k ∧ done.length ≤ k ∧ Hid (levels s = done ++ (splitS (s.data.toList.drop a)).map ba) ∧
      Hid (∀ c ∈ (s.data.toList.drop a).take (k - a), c ≠ 47) ∧ wr.ownsRow w.heap.size 9 1 v done.length (done.map Value.string) ∧ Below w.heap.size w wr)
    (fun _ _ i _ => s.size - (intOf i).toNat)
  case atStart => exact ⟨0, 0, [], Nat.le_refl _, Nat.zero_le _, rfl, rfl, Nat.le_refl _, rfl, (by intro c hc; simp at hc), World.ownsRow_nil _ _ _ _, Below.refl _ _⟩
  case round =>
    obtain ⟨k, a, done, hak, hk, rfl, rfl, hdk, HL, HC, hown, hB⟩ := hrel
    have hsz := hB.size
    by_cases hlt : k < s.size
    · by_cases h1 : (((s[k].toNat : Nat) : Int) == 47) = true
      · have HH := Lib.hid (lev_hit s a k done hak hlt HL.out HC.out h1)
        clear HL HC
        go_wp2_with (at_builtin; refine wpList_append_own _ rfl _ _ 55 rfl w.heap.size 9 i0 (.string ByteArray.empty) 1 16 Tryz.underlying55 hi hz0 hz1 hz2 rfl (by decide) _ _ _ rfl (hown.alloc _) ⟨wr.heap.size, 0, none⟩ 1 1 [.string (s.extract a k)] rfl rfl (cell_one_new _ _ _) (fun x hx => by simp at hx; subst hx; rfl) (by unfold maxLen; omega) (by omega) (by simp; omega) ?_; intro v' w1 hown' hgrow hnil)
        have hB1 : Below w.heap.size w w1 := ((hB.alloc hsz _).grown hgrow (by simp; omega) (fun j hj => (hown.lt j hj).1))
        have hown2 : w1.ownsRow w.heap.size 9 1 v' (done ++ [s.extract a k]).length ((done ++ [s.extract a k]).map Value.string) := by simpa using hown'
        clear hown' hgrow hown hnil
        go_wp2
        go_roundw
        case rel => exact ⟨k + 1, k + 1, done ++ [s.extract a k], Nat.le_refl _, by omega, by go_num, by go_num, by simp; omega, HH, (by intro c hc; simp at hc), hown2, hB1⟩
        case measure => simp [intOf]; omega
      · simp only [Bool.not_eq_true] at h1
        have HH := Lib.hid (lev_no s a k hak hlt HC.out h1)
        clear HC
        go_wp2
        go_roundw
        case rel => exact ⟨k + 1, a, done, by omega, by omega, rfl, by go_num, by omega, HL, HH, hown, hB⟩
        case measure => simp [intOf]; omega
    · obtain rfl : k = s.size := by omega
      have HH := Lib.hid (lev_end s a done HL.out HC.out)
      clear HL HC
      go_wp2_with (at_builtin; refine wpList_append_own _ rfl _ _ 55 rfl w.heap.size 9 i0 (.string ByteArray.empty) 1 16 Tryz.underlying55 hi hz0 hz1 hz2 rfl (by decide) _ _ _ rfl (hown.alloc _) ⟨wr.heap.size, 0, none⟩ 1 1 [.string (s.extract a s.size)] rfl rfl (cell_one_new _ _ _) (fun x hx => by simp at hx; subst hx; rfl) (by unfold maxLen; omega) (by omega) (by simp; omega) ?_; intro v' w1 hown' hgrow hnil)
      have hB1 : Below w.heap.size w w1 := ((hB.alloc hsz _).grown hgrow (by simp; omega) (fun j hj => (hown.lt j hj).1))
      have hown2 : w1.ownsRow w.heap.size 9 1 v' (done ++ [s.extract a s.size]).length ((done ++ [s.extract a s.size]).map Value.string) := by simpa using hown'
      clear hown' hgrow hown hnil
      go_wp2
      go_ret
      exact ⟨_, rfl, by rw [HH.out]; exact Sl.of_owns hown2, hB1⟩
end
end Go.Proofs.YtincmegllckcjaaGreatDoor
