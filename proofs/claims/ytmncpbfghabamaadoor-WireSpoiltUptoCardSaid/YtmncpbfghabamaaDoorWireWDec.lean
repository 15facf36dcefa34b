/- WIRE: the program's Decode. -/
import Derived.Test.YtmncpbfghabamaaDoorWireWM
namespace Go.Proofs.YtmncpbfghabamaaDoor
open Go Go.RowKit
attribute [local go_sem ↓] Go.wp_at_zero Go.wp_at_succ

set_option linter.unusedSimpArgs false in
set_option maxRecDepth 100000 in
set_option maxHeartbeats 8000000 in
theorem decode_any (l : List UInt8) (v : Value) (w : World) (hv : Bs w v l) (hl : l.length ≤ 100000000) (hT : Tabs w) :
    Calls Tryd.prog 22 #[v] w (DecOut l w) := by
  obtain ⟨PP, hPP⟩ : ∃ PP, DecOut l w = PP := ⟨_, rfl⟩
  rw [hPP]
  have HPP := Lib.hid hPP
  have HV := Lib.hid hv
  have HTB := Lib.hid hT
  obtain ⟨p, cap, rfl, -⟩ := id hv
  have P0 : Hid (PDec w (.slice p l.length cap) ⟨0, 0, 0, 0⟩ (((w.alloc (.cells #[.int .i64 0, .string ⟨#[]⟩, .int .i64 0, .int .i64 0, .int .u64 0, .string ⟨#[]⟩, .slice none 0 0, .int .i64 0, .int .i64 0, .string ⟨#[]⟩, .int .i64 0, .int .i64 0, .int .i64 0] 39)).alloc (.cells #[.slice p l.length cap, .int .i64 0, .int .i64 0, .int .i64 0, .int .i64 0] 74)).alloc (.cells #[.int .i64 0, .string ⟨#[]⟩, .int .i64 0, .int .i64 0, .int .u64 0, .string ⟨#[]⟩, .slice none 0 0, .int .i64 0, .int .i64 0, .string ⟨#[]⟩, .int .i64 0, .int .i64 0, .int .i64 0] 39))) := by
    refine ⟨?_, ?_, ?_, (((Below.refl _ _).alloc (Nat.le_refl _) _).alloc (by simp) _).alloc (by simp; omega) _⟩
    · have h := heap_alloc_new (w.alloc (.cells #[.int .i64 0, .string ⟨#[]⟩, .int .i64 0, .int .i64 0, .int .u64 0, .string ⟨#[]⟩, .slice none 0 0, .int .i64 0, .int .i64 0, .string ⟨#[]⟩, .int .i64 0, .int .i64 0, .int .i64 0] 39)) (.cells #[.slice p l.length cap, .int .i64 0, .int .i64 0, .int .i64 0, .int .i64 0] 74)
      rw [World.size_alloc] at h
      exact RB.alloc (s := ⟨0, 0, 0, 0⟩) h _
    · rw [Below.heap_alloc _ _ _ (by simp; omega), Below.heap_alloc _ _ _ (by simp)]
      exact heap_alloc_new w _
    · have h := heap_alloc_new ((w.alloc (.cells #[.int .i64 0, .string ⟨#[]⟩, .int .i64 0, .int .i64 0, .int .u64 0, .string ⟨#[]⟩, .slice none 0 0, .int .i64 0, .int .i64 0, .string ⟨#[]⟩, .int .i64 0, .int .i64 0, .int .i64 0] 39)).alloc (.cells #[.slice p l.length cap, .int .i64 0, .int .i64 0, .int .i64 0, .int .i64 0] 74)) (.cells #[.int .i64 0, .string ⟨#[]⟩, .int .i64 0, .int .i64 0, .int .u64 0, .string ⟨#[]⟩, .slice none 0 0, .int .i64 0, .int .i64 0, .string ⟨#[]⟩, .int .i64 0, .int .i64 0, .int .i64 0] 39)
      rw [World.size_alloc, World.size_alloc] at h
      exact h
  clear hPP hv hT
  go_enter Tryd.func22, Tryd.ntmps22
  have HJ : Hid (∀ (a : Act) (s : Cs) (wx : World), a.defers = [] → a.tmps.size = 163 → a.tmps.getD 2 undef = .pointer (some ⟨w.heap.size, 0, none⟩) → a.tmps.getD 5 undef = .pointer (some ⟨w.heap.size + 1, 0, none⟩) → RB wx (w.heap.size + 1) (.slice p l.length cap) s → wx.heap[w.heap.size]? = some (.cells #[.int .i64 0, .string ⟨#[]⟩, .int .i64 0, .int .i64 0, .int .u64 0, .string ⟨#[]⟩, .slice none 0 0, .int .i64 0, .int .i64 0, .string ⟨#[]⟩, .int .i64 0, .int .i64 0, .int .i64 0] 39 (0, 0)) → Below w.heap.size w wx → decD l = .err s.err → (DecJ l w (.slice p l.length cap)) a wx) := fun a s wx h1 h2 h3 h4 h5 h6 h7 h8 => ⟨h1, h2, h3, h4, s, h5, h6, h7, h8⟩
  go_wp2_with fail
  refine wp_scope_jumps 0 (DecJ l w (.slice p l.length cap)) (fun _ _ => 0) rfl ?_ ?_
  · by_cases h0 : l.length = 0
    · have HB : Hid (byteR l ⟨0, 0, 0, 0⟩ = (0, ⟨0, 260, 0, 0⟩)) := byteR_none rfl (by show ¬ (0 : Nat) < _; omega)
      have HB2 : Hid (byteR l ⟨0, 260, 0, 0⟩ = (0, ⟨0, 260, 0, 0⟩)) := byteR_err (by decide)
      have HDV : Hid (decD l = .err 260) := by show _ = _; unfold decD; rw [if_pos h0]
      clear h0
      obtain ⟨c0, c1, c2, c3, c4, hlc⟩ := P0.out.rb.cells
      go_wp2_with fail
      refine (byte_any l (w.heap.size + 1) (.slice p l.length cap) ⟨0, 0, 0, 0⟩ _ P0.out.rb (HV.out.below P0.out.below) hl (by show _ ≤ 100000000; simp only; omega)).mono ?_
      rintro e W1 ⟨rfl, g1, g2⟩
      rw [HB.out] at g1 ⊢
      have P1 : Hid (PDec w (.slice p l.length cap) ⟨0, 260, 0, 0⟩ W1) := P0.out.but g1 g2
      clear g1 g2 c0 c1 c2 c3 c4 hlc
      obtain ⟨c0, c1, c2, c3, c4, hlc⟩ := P1.out.rb.cells
      go_wp2_with fail
      refine (byte_any l (w.heap.size + 1) (.slice p l.length cap) ⟨0, 260, 0, 0⟩ _ P1.out.rb (HV.out.below P1.out.below) hl (by show _ ≤ 100000000; simp only; omega)).mono ?_
      rintro e W2 ⟨rfl, g1, g2⟩
      rw [HB2.out] at g1 ⊢
      have P2 : Hid (PDec w (.slice p l.length cap) ⟨0, 260, 0, 0⟩ W2) := P1.out.but g1 g2
      clear g1 g2 c0 c1 c2 c3 c4 hlc
      obtain ⟨c0, c1, c2, c3, c4, hlc⟩ := P2.out.rb.cells
      go_wp2_with fail
      refine (rnumber_all l (w.heap.size + 1) (.slice p l.length cap) ⟨0, 260, 0, 0⟩ 16777216 _ P2.out.rb (HV.out.below P2.out.below) hl (by show _ ≤ l.length; simp only; omega) (by omega)).mono ?_
      rintro e W9 ⟨x, s', rfl, g1, g2, g3⟩
      obtain ⟨a1, a2, a3, a4⟩ := g3
      obtain ⟨rfl, a5⟩ : x = 0 ∧ s'.err = 260 := by
        rcases a4 with ⟨-, h, h2⟩ | ⟨h, -⟩
        · exact ⟨h, h2⟩
        · exact absurd h (by decide)
      have P9 : Hid (PDec w (.slice p l.length cap) s' W9) := P2.out.but g1 g2
      have HE9 : Hid (s'.err = 260) := a5
      clear g1 g2 a1 a2 a3 a4 a5 c0 c1 c2 c3 c4 hlc
      have hw0 : IntKind.i64.wrap 0 = 0 := rfl
      obtain ⟨c0, c1, c2, c3, c4, hlc⟩ := P9.out.rb.cells
      rw [HE9.out] at c2
      go_wp2_with fail
      go_step3
      exact ⟨rfl, HJ.out _ _ _ rfl rfl rfl rfl P9.out.rb P9.out.res P9.out.below (by rw [HDV.out, HE9.out])⟩
    have HB : Hid (byteR l ⟨0, 0, 0, 0⟩ = (l.getD 0 0, ⟨1, 0, 0, 0⟩)) := byteR_some rfl (by show (0 : Nat) < _; omega)
    obtain ⟨A, hA⟩ : ∃ A, (l.getD 0 0).toNat = A := ⟨_, rfl⟩
    have HA := Lib.hid hA
    have HL0 : Hid (0 < l.length) := by show 0 < _; omega
    clear hA h0
    obtain ⟨c0, c1, c2, c3, c4, hlc⟩ := P0.out.rb.cells
    go_wp2_with fail
    refine (byte_any l (w.heap.size + 1) (.slice p l.length cap) ⟨0, 0, 0, 0⟩ _ P0.out.rb (HV.out.below P0.out.below) hl (by show _ ≤ 100000000; simp only; omega)).mono ?_
    rintro e W1 ⟨rfl, g1, g2⟩
    rw [HB.out] at g1 ⊢
    have P1 : Hid (PDec w (.slice p l.length cap) ⟨1, 0, 0, 0⟩ W1) := P0.out.but g1 g2
    clear g1 g2 c0 c1 c2 c3 c4 hlc
    rw [HA.out]
    by_cases h1 : A = 167
    · subst h1
      by_cases h2 : l.length = 1
      · have HB2 : Hid (byteR l ⟨1, 0, 0, 0⟩ = (0, ⟨1, 260, 0, 0⟩)) := byteR_none rfl (by show ¬ (1 : Nat) < _; omega)
        have HDV : Hid (decD l = .err 260) := by show _ = _; unfold decD; rw [if_neg (by omega), if_neg (by rw [HA.out]; decide), if_pos h2]
        have hl1 : 1 ≤ l.length := by omega
        clear h2
        obtain ⟨c0, c1, c2, c3, c4, hlc⟩ := P1.out.rb.cells
        go_wp2_with fail
        refine (byte_any l (w.heap.size + 1) (.slice p l.length cap) ⟨1, 0, 0, 0⟩ _ P1.out.rb (HV.out.below P1.out.below) hl (by show _ ≤ 100000000; simp only; omega)).mono ?_
        rintro e W2 ⟨rfl, g1, g2⟩
        rw [HB2.out] at g1 ⊢
        have P2 : Hid (PDec w (.slice p l.length cap) ⟨1, 260, 0, 0⟩ W2) := P1.out.but g1 g2
        clear g1 g2 c0 c1 c2 c3 c4 hlc
        obtain ⟨c0, c1, c2, c3, c4, hlc⟩ := P2.out.rb.cells
        go_wp2_with fail
        refine (rnumber_all l (w.heap.size + 1) (.slice p l.length cap) ⟨1, 260, 0, 0⟩ 16777216 _ P2.out.rb (HV.out.below P2.out.below) hl (by show _ ≤ l.length; simp only; omega) (by omega)).mono ?_
        rintro e W9 ⟨x, s', rfl, g1, g2, g3⟩
        obtain ⟨a1, a2, a3, a4⟩ := g3
        obtain ⟨rfl, a5⟩ : x = 0 ∧ s'.err = 260 := by
          rcases a4 with ⟨-, h, h2⟩ | ⟨h, -⟩
          · exact ⟨h, h2⟩
          · exact absurd h (by decide)
        have P9 : Hid (PDec w (.slice p l.length cap) s' W9) := P2.out.but g1 g2
        have HE9 : Hid (s'.err = 260) := a5
        clear g1 g2 a1 a2 a3 a4 a5 c0 c1 c2 c3 c4 hlc
        have hw0 : IntKind.i64.wrap 0 = 0 := rfl
        obtain ⟨c0, c1, c2, c3, c4, hlc⟩ := P9.out.rb.cells
        rw [HE9.out] at c2
        go_wp2_with fail
        go_step3
        exact ⟨rfl, HJ.out _ _ _ rfl rfl rfl rfl P9.out.rb P9.out.res P9.out.below (by rw [HDV.out, HE9.out])⟩
      have HB2 : Hid (byteR l ⟨1, 0, 0, 0⟩ = (l.getD 1 0, ⟨2, 0, 0, 0⟩)) := byteR_some rfl (by have := HL0.out; show (1 : Nat) < _; omega)
      have HL1 : Hid (2 ≤ l.length) := by have := HL0.out; show 2 ≤ _; omega
      obtain ⟨B, hB⟩ : ∃ B, (l.getD 1 0).toNat = B := ⟨_, rfl⟩
      have HBB := Lib.hid hB
      have hl1 := HL1.out
      clear hB h2
      obtain ⟨c0, c1, c2, c3, c4, hlc⟩ := P1.out.rb.cells
      go_wp2_with fail
      refine (byte_any l (w.heap.size + 1) (.slice p l.length cap) ⟨1, 0, 0, 0⟩ _ P1.out.rb (HV.out.below P1.out.below) hl (by show _ ≤ 100000000; simp only; omega)).mono ?_
      rintro e W2 ⟨rfl, g1, g2⟩
      rw [HB2.out] at g1 ⊢
      have P2 : Hid (PDec w (.slice p l.length cap) ⟨2, 0, 0, 0⟩ W2) := P1.out.but g1 g2
      clear g1 g2 c0 c1 c2 c3 c4 hlc
      rw [HBB.out]
      by_cases h3 : B = 1
      · subst h3
        have HD0 : Hid (decD l = decM l) := by show _ = _; unfold decD; rw [if_neg (by omega), if_neg (by rw [HA.out]; decide), if_neg (by omega), if_neg (by rw [HBB.out]; decide)]
        obtain ⟨c0, c1, c2, c3, c4, hlc⟩ := P2.out.rb.cells
        go_wp2_with fail
        refine (rnumber_all l (w.heap.size + 1) (.slice p l.length cap) ⟨2, 0, 0, 0⟩ 16777216 _ P2.out.rb (HV.out.below P2.out.below) hl (by show 2 ≤ l.length; omega) (by omega)).mono ?_
        rintro e W4 ⟨x, s', rfl, g1, g2, g3⟩
        obtain ⟨a1, a2, a3, a4⟩ := g3
        have P4 : Hid (PDec w (.slice p l.length cap) s' W4) := P2.out.but g1 g2
        clear g1 g2 c0 c1 c2 c3 c4 hlc
        have a5 : (s'.err ≠ 0 ∧ x = 0 ∧ decD l = .err s'.err) ∨ (s'.err = 0 ∧ ∃ u, numD 16777216 0 0 (l.drop 2) = .done x u ∧ s'.pos = 2 + u) := by
          rcases a4 with ⟨h, -⟩ | ⟨-, h⟩
          · exact absurd rfl h
          · have e : l.drop (⟨2, 0, 0, 0⟩ : Cs).pos = l.drop 2 := rfl
            rw [e] at h
            rw [HD0.out]
            unfold decM
            cases hn : numD 16777216 0 0 (l.drop 2) with
            | short => rw [hn] at h; exact .inl ⟨by rw [h.2]; decide, h.1, by rw [h.2]⟩
            | bad => rw [hn] at h; exact .inl ⟨by rw [h.2]; decide, h.1, by rw [h.2]⟩
            | done y u => rw [hn] at h; obtain ⟨rfl, h2, h3⟩ := h; exact .inr ⟨h3, u, rfl, h2⟩
        rcases a5 with ⟨h1, rfl, h3⟩ | ⟨h1, u, h3, h4⟩
        · have hb1 : (s'.err == 0) = false := by simpa using h1
          have hb2 : (s'.err != 0) = true := by simp [bne, hb1]
          have HDV := Lib.hid h3
          have hw0 : IntKind.i64.wrap 0 = 0 := rfl
          clear h1 h3 a1 a2 a3 a4
          obtain ⟨c0, c1, c2, c3, c4, hlc⟩ := P4.out.rb.cells
          go_wp2_with fail
          go_step3
          exact ⟨rfl, HJ.out _ _ _ rfl rfl rfl rfl P4.out.rb P4.out.res P4.out.below (HDV.out)⟩
        · have hx := (numD_len _ _ _ _ _ _ h3).2.2
          have hxw : IntKind.i64.wrap (x : Int) = (x : Int) := i64_wrap_nat (by omega)
          have HDN : Hid (decD l = decN l x u) := by show _ = _; rw [HD0.out]; unfold decM; rw [h3]
          obtain ⟨P, hP⟩ : ∃ P, 2 + u = P := ⟨_, rfl⟩
          have HP := Lib.hid hP
          rw [hP] at h4
          have HPOS : Hid (s'.pos = P) := h4
          have HER : Hid (s'.err = 0) := h1
          have hPl : P ≤ l.length := by omega
          obtain ⟨b0, o0, rfl, hcl⟩ := (HV.out.below P4.out.below).addr (by omega)
          have HCL := Lib.hid hcl
          obtain ⟨c0, c1, c2, c3, c4, hlc⟩ := P4.out.rb.cells
          rw [h4] at c1
          rw [h1] at c2
          clear h1 h3 h4 a1 a2 a3 a4 hP hcl
          by_cases hsh : l.length < P + x + 2
          · have hI : (l.length : Int) - (P : Int) < (x : Int) + 2 := by omega
            have HDV : Hid (decD l = .err 260) := by show _ = _; rw [HDN.out]; unfold decN; rw [HP.out, if_pos hsh]
            clear hsh
            go_wp2_with fail
            refine (fail_any (w.heap.size + 1) (.slice (some ⟨b0, o0, none⟩) l.length cap) s' 260 _ P4.out.rb).mono ?_
            rintro e W5 ⟨rfl, g1, g2⟩
            rw [if_pos HER.out] at g1
            have P5 : Hid (PDec w (.slice (some ⟨b0, o0, none⟩) l.length cap) { s' with err := 260 } W5) := P4.out.but g1 g2
            clear g1 g2 c0 c1 c2 c3 c4 hlc
            go_wp2_with fail
            go_step3
            exact ⟨rfl, HJ.out _ _ _ rfl rfl rfl rfl P5.out.rb P5.out.res P5.out.below (HDV.out)⟩
          · have hI : ¬ (l.length : Int) - (P : Int) < (x : Int) + 2 := by omega
            obtain ⟨K, hK⟩ : ∃ K, P + x = K := ⟨_, rfl⟩
            obtain ⟨q0, cq, hsl, hbs⟩ := (HV.out.below P4.out.below).window (i := P) (j := K) (by omega) (by omega)
            rw [show K - P = x by omega] at hsl hbs
            have HBS := Lib.hid hbs
            have hPK : (P : Int) + (x : Int) = (K : Int) := by omega
            have hKw : IntKind.i64.wrap (K : Int) = (K : Int) := i64_wrap_nat (by omega)
            obtain ⟨C, hC⟩ : ∃ C, (crc ((l.drop P).take x)).toNat = C := ⟨_, rfl⟩
            have hC6 : C < 65536 := by rw [← hC]; exact (crc _).isLt
            have HC := Lib.hid hC
            have HKL : Hid (K + 2 ≤ l.length ∧ P + x = K) := by show _ ∧ _; omega
            have hbl : ((l.drop P).take x).length = x := by rw [List.length_take, List.length_drop]; omega
            have CS : Hid (∀ n, Calls Tryd.prog 25 #[.slice q0 x cq] (W4.drewN n) fun e w' => e = .returned (.int .u16 (C : Nat)) ∧ w' = W4.drewN n) := fun n => by
              have h := sum_any q0 cq ((l.drop P).take x) (W4.drewN n) (by rw [hbl]; exact hbs.drewN n)
              rw [hbl, hC] at h
              exact h
            obtain ⟨y1, hy1⟩ : ∃ y, l[K]? = some y := ⟨_, List.getElem?_eq_getElem (by omega)⟩
            obtain ⟨y2, hy2⟩ : ∃ y, l[K + 1]? = some y := ⟨_, List.getElem?_eq_getElem (by omega)⟩
            have q1 := HCL.out K y1 hy1
            have q2 := HCL.out (K + 1) y2 hy2
            have HY : Hid (l.getD K 0 = y1 ∧ l.getD (K + 1) 0 = y2) := by show _ ∧ _; simp [List.getD, hy1, hy2]
            obtain ⟨Y1, hY1⟩ : ∃ Y, y1.toNat = Y := ⟨_, rfl⟩
            obtain ⟨Y2, hY2⟩ : ∃ Y, y2.toNat = Y := ⟨_, rfl⟩
            rw [hY1] at q1
            rw [hY2] at q2
            have HYY : Hid (y1.toNat = Y1 ∧ y2.toNat = Y2) := ⟨hY1, hY2⟩
            have hk0 : (0 : Int) ≤ (K : Int) := by omega
            have hk1 : (K : Int) < (l.length : Int) := by omega
            have hk2 : (K : Int) + 1 < (l.length : Int) := by omega
            have HDV0 : Hid (decD l = if crcB ((l.drop P).take x) ≠ [y1, y2] then .err 261 else match msgF ((l.drop P).take x) with | none => .err 262 | some x => .ok x (K + 2)) := by
              show _ = _
              rw [HDN.out]
              unfold decN
              rw [HP.out, if_neg (by omega), hK, HY.out.1, HY.out.2]
              rfl
            have hb8 : ((C : Int) / 256 == (Y1 : Int)) = decide (C / 256 = Y1) ∧ ((C : Int) % 256 == (Y2 : Int)) = decide (C % 256 = Y2) := by
              constructor <;> (rw [Bool.eq_iff_iff]; simp only [beq_iff_eq, decide_eq_true_eq]; omega)
            obtain ⟨hb8, hb9⟩ := hb8
            have HCB : Hid (crcB ((l.drop P).take x) = [y1, y2] ↔ C / 256 = Y1 ∧ C % 256 = Y2) := by show _ ↔ _; rw [crcB_eq, hC, hY1, hY2]
            clear hC hbs hbl hy1 hy2 hY1 hY2 hsh hK
            by_cases e1 : C / 256 = Y1
            · rw [decide_eq_true e1] at hb8
              have hb8' : ((C : Int) / 256 != (Y1 : Int)) = false := by simp [bne, hb8]
              by_cases e2 : C % 256 = Y2
              · rw [decide_eq_true e2] at hb9
                have hb9' : ((C : Int) % 256 != (Y2 : Int)) = false := by simp [bne, hb9]
                have HDV : Hid (decD l = match msgF ((l.drop P).take x) with | none => .err 262 | some x => .ok x (K + 2)) := by show _ = _; rw [HDV0.out, if_neg (by rw [Classical.not_not]; exact HCB.out.2 ⟨e1, e2⟩)]
                clear e1 e2
                go_wp2_with fail
                go_quiet ((go_at_call 25; exact Calls.quiet_of_same (CS.out _)))
                go_wp2_with fail
                refine wp_world (fun Wx => PDec w (.slice (some ⟨b0, o0, none⟩) l.length cap) s' Wx ∧ Bs Wx (.slice q0 x cq) ((l.drop P).take x)) (by exact ⟨P4.out.drewN _, HBS.out.drewN _⟩) (fun W5 hx5 => ?_)
                have P5 : Hid (PDec w (.slice (some ⟨b0, o0, none⟩) l.length cap) s' W5.drew) := hx5.1.drewN 1
                have P5' := Lib.hid hx5.1
                have CM : Hid (Calls Tryd.prog 46 #[.slice q0 x cq] W5.drew (MOut ((l.drop P).take x) W5.drew)) := message_any ((l.drop P).take x) _ W5.drew hx5.2.drew (by rw [List.length_take, List.length_drop]; omega) (HTB.out.below P5.out.below)
                have HSZ5 : Hid (w.heap.size + 1 + 1 < W5.heap.size) := (Array.getElem?_eq_some_iff.1 hx5.1.msg).1
                clear hx5 c0 c1 c2 c3 c4 hlc q1 q2
                obtain ⟨c0, c1, c2, c3, c4, hlc⟩ := P5'.out.rb.cells
                rw [HPOS.out] at c1
                go_region_held3 (fun w' => w'.cell? ⟨w.heap.size + 1, 1, none⟩ = some (.int .i64 (P : Nat))) (go_keep) (first | (go_at_call 46; refine CM.out.mono ?_; rintro e W6 ⟨n0, n1, n2, n3, n4, n5, tp, rp, kd, di, db, ds, q, n, c, ok, rfl, hb, hok1, hok2⟩; have P6 := Lib.hid (P5.out.grow hb); have K1 := Lib.hid hok1; have K2 := Lib.hid hok2; obtain ⟨c0, c1, c2, c3, c4, hlc⟩ := P6.out.rb.cells; rw [HPOS.out] at c1; obtain ⟨z0, z1, z2, z3, z4, z5, z6, z7, z8, z9, z10, z11, z12, hlz⟩ := cells13 P6.out.msg; have f0 := frozen_of_row _ _ 0 _ _ P6.out.msg; have f1 := frozen_of_row _ _ 1 _ _ P6.out.msg; have f2 := frozen_of_row _ _ 2 _ _ P6.out.msg; have f3 := frozen_of_row _ _ 3 _ _ P6.out.msg; have f4 := frozen_of_row _ _ 4 _ _ P6.out.msg; have f5 := frozen_of_row _ _ 5 _ _ P6.out.msg; have f6 := frozen_of_row _ _ 6 _ _ P6.out.msg; have f7 := frozen_of_row _ _ 7 _ _ P6.out.msg; have f8 := frozen_of_row _ _ 8 _ _ P6.out.msg; have f9 := frozen_of_row _ _ 9 _ _ P6.out.msg; have f10 := frozen_of_row _ _ 10 _ _ P6.out.msg; have f11 := frozen_of_row _ _ 11 _ _ P6.out.msg; have f12 := frozen_of_row _ _ 12 _ _ P6.out.msg; clear hb hok1 hok2))
                obtain ⟨X, hX⟩ : ∃ X, (((((((((((((W6.setCell ⟨w.heap.size + 1 + 1, 0, none⟩ (.int .i64 n0)).setCell ⟨w.heap.size + 1 + 1, 1, none⟩ (.string tp)).setCell ⟨w.heap.size + 1 + 1, 2, none⟩ (.int .i64 kd)).setCell ⟨w.heap.size + 1 + 1, 3, none⟩ (.int .i64 di)).setCell ⟨w.heap.size + 1 + 1, 4, none⟩ (.int .u64 db)).setCell ⟨w.heap.size + 1 + 1, 5, none⟩ (.string ds)).setCell ⟨w.heap.size + 1 + 1, 6, none⟩ (.slice q n c)).setCell ⟨w.heap.size + 1 + 1, 7, none⟩ (.int .i64 n1)).setCell ⟨w.heap.size + 1 + 1, 8, none⟩ (.int .i64 n2)).setCell ⟨w.heap.size + 1 + 1, 9, none⟩ (.string rp)).setCell ⟨w.heap.size + 1 + 1, 10, none⟩ (.int .i64 n3)).setCell ⟨w.heap.size + 1 + 1, 11, none⟩ (.int .i64 n4)).setCell ⟨w.heap.size + 1 + 1, 12, none⟩ (.int .i64 n5)) = X := ⟨_, rfl⟩
                have hm1 : w.heap.size + 1 ≠ w.heap.size + 1 + 1 := by omega
                have hm2 : w.heap.size ≠ w.heap.size + 1 + 1 := by omega
                have RBX : Hid (RB X (w.heap.size + 1) (.slice (some ⟨b0, o0, none⟩) l.length cap) s') := by show X.heap[_]? = _; rw [← hX]; exact (heap13_other hm1 _ _ _ _ _ _ _ _ _ _ _ _ _).trans P6.out.rb
                have RSX : Hid (X.heap[w.heap.size]? = some (.cells #[.int .i64 0, .string ⟨#[]⟩, .int .i64 0, .int .i64 0, .int .u64 0, .string ⟨#[]⟩, .slice none 0 0, .int .i64 0, .int .i64 0, .string ⟨#[]⟩, .int .i64 0, .int .i64 0, .int .i64 0] 39 (0, 0))) := by show _ = _; rw [← hX]; exact (heap13_other hm2 _ _ _ _ _ _ _ _ _ _ _ _ _).trans P6.out.res
                have MSX : Hid (X.heap[w.heap.size + 1 + 1]? = some (.cells #[.int .i64 n0, .string tp, .int .i64 kd, .int .i64 di, .int .u64 db, .string ds, .slice q n c, .int .i64 n1, .int .i64 n2, .string rp, .int .i64 n3, .int .i64 n4, .int .i64 n5] 39 (0, 0))) := by show _ = _; rw [← hX]; exact set13 P6.out.msg _ _ _ _ _ _ _ _ _ _ _ _ _
                have BLX : Hid (Below w.heap.size w X) := by show Below _ _ _; rw [← hX]; exact bel13 P6.out.below (by omega) _ _ _ _ _ _ _ _ _ _ _ _ _
                have KPX : Hid (∀ b, b ≠ w.heap.size + 1 + 1 → X.heap[b]? = W6.heap[b]?) := fun b hb => by rw [← hX]; exact heap13_other hb _ _ _ _ _ _ _ _ _ _ _ _ _
                rw [hX]
                clear hX c0 c1 c2 c3 c4 hlc z0 z1 z2 z3 z4 z5 z6 z7 z8 z9 z10 z11 z12 hlz f0 f1 f2 f3 f4 f5 f6 f7 f8 f9 f10 f11 f12 hm1 hm2
                obtain ⟨c0, c1, c2, c3, c4, hlc⟩ := RBX.out.cells
                rw [HPOS.out] at c1
                cases ok with
                | false =>
                  have HNO : Hid (decD l = .err 262) := by
                    show _ = _
                    rw [HDV.out]
                    cases hm : msgF ((l.drop P).take x) with
                    | none => rfl
                    | some y => exact absurd (msgF_iff.2 hm) (K2.out rfl _ _ _ _)
                  go_wp2_with fail
                  refine (fail_any (w.heap.size + 1) (.slice (some ⟨b0, o0, none⟩) l.length cap) s' 262 _ RBX.out).mono ?_
                  rintro e W7 ⟨rfl, g1, g2⟩
                  rw [if_pos HER.out] at g1
                  have RB7 := Lib.hid g1
                  have RS7 := Lib.hid (g2.boxed RSX.out (by omega))
                  have BL7 : Hid (Below w.heap.size w W7) := BLX.out.trans ⟨g2.os, g2.tape, g2.output, g2.size, fun i hi => g2.block i (Nat.lt_of_lt_of_le hi BLX.out.size) (by omega)⟩
                  clear g1 g2 c0 c1 c2 c3 c4 hlc
                  obtain ⟨c0, c1, c2, c3, c4, hlc⟩ := RB7.out.cells
                  obtain ⟨z0, z1, z2, z3, z4, z5, z6, z7, z8, z9, z10, z11, z12, hlz⟩ := cells13 RS7.out
                  have f0 := frozen_of_row _ _ 0 _ _ RS7.out
                  have f1 := frozen_of_row _ _ 1 _ _ RS7.out
                  have f2 := frozen_of_row _ _ 2 _ _ RS7.out
                  have f3 := frozen_of_row _ _ 3 _ _ RS7.out
                  have f4 := frozen_of_row _ _ 4 _ _ RS7.out
                  have f5 := frozen_of_row _ _ 5 _ _ RS7.out
                  have f6 := frozen_of_row _ _ 6 _ _ RS7.out
                  have f7 := frozen_of_row _ _ 7 _ _ RS7.out
                  have f8 := frozen_of_row _ _ 8 _ _ RS7.out
                  have f9 := frozen_of_row _ _ 9 _ _ RS7.out
                  have f10 := frozen_of_row _ _ 10 _ _ RS7.out
                  have f11 := frozen_of_row _ _ 11 _ _ RS7.out
                  have f12 := frozen_of_row _ _ 12 _ _ RS7.out
                  go_wp2_with fail
                  try go_step3
                  try go_wp2_with fail
                  go_region_held3 (fun w' => w'.cell? ⟨w.heap.size + 1, 2, none⟩ = some (.int .i64 262)) (go_keep) (fail)
                  go_wp2_with fail
                  try rw [Exit.jump_ret]
                  refine bodyPost_ret (res_wdec (B := w.heap.size) (k := 0) (e := 262) (heap_drew1 (set13 ?hres8 _ _ _ _ _ _ _ _ _ _ _ _ _)) rfl _ rfl rfl rfl) rfl ?_
                  case hres8 => exact RS7.out
                  rw [← HPP.out]
                  refine ⟨0, 0, 0, 0, 0, 0, ⟨#[]⟩, ⟨#[]⟩, 0, 0, 0, ⟨#[]⟩, none, 0, 0, 0, 262, rfl, below_drew (bel13 ?hbel8 (Nat.le_refl _) _ _ _ _ _ _ _ _ _ _ _ _ _), ?_⟩
                  case hbel8 => exact BL7.out
                  rw [HNO.out]
                  exact ⟨rfl, rfl, rfl⟩
                | true =>
                  obtain ⟨t, ht1, ht2⟩ := K1.out rfl
                  have HM := Lib.hid (msgF_iff.1 ht1)
                  have HD := Lib.hid ht2
                  clear ht1 ht2
                  have hK2w : IntKind.i64.wrap ((K : Int) + 2) = ((K + 2 : Nat) : Int) := by rw [IntWalk.i64_in _ (by have := HKL.out.1; omega)]; omega
                  obtain ⟨z0, z1, z2, z3, z4, z5, z6, z7, z8, z9, z10, z11, z12, hlz⟩ := cells13 MSX.out
                  obtain ⟨y0, y1', y2', y3, y4, y5, y6, y7, y8, y9, y10, y11, y12, hly⟩ := cells13 RSX.out
                  have f0 := frozen_of_row _ _ 0 _ _ RSX.out
                  have f1 := frozen_of_row _ _ 1 _ _ RSX.out
                  have f2 := frozen_of_row _ _ 2 _ _ RSX.out
                  have f3 := frozen_of_row _ _ 3 _ _ RSX.out
                  have f4 := frozen_of_row _ _ 4 _ _ RSX.out
                  have f5 := frozen_of_row _ _ 5 _ _ RSX.out
                  have f6 := frozen_of_row _ _ 6 _ _ RSX.out
                  have f7 := frozen_of_row _ _ 7 _ _ RSX.out
                  have f8 := frozen_of_row _ _ 8 _ _ RSX.out
                  have f9 := frozen_of_row _ _ 9 _ _ RSX.out
                  have f10 := frozen_of_row _ _ 10 _ _ RSX.out
                  have f11 := frozen_of_row _ _ 11 _ _ RSX.out
                  have f12 := frozen_of_row _ _ 12 _ _ RSX.out
                  have hn1 : ¬ w.heap.size + 1 = w.heap.size := by omega
                  have hn2 : ¬ w.heap.size = w.heap.size + 1 := by omega
                  have hn3 : ¬ w.heap.size + 1 + 1 = w.heap.size := by omega
                  have hn4 : ¬ w.heap.size = w.heap.size + 1 + 1 := by omega
                  go_wp2_with fail
                  go_region_held3 (fun w' => w'.cell? ⟨w.heap.size + 1, 1, none⟩ = some (.int .i64 (P : Nat)) ∧ w'.cell? ⟨w.heap.size + 1 + 1, 0, none⟩ = some (.int .i64 n0) ∧ w'.cell? ⟨w.heap.size + 1 + 1, 1, none⟩ = some (.string tp) ∧ w'.cell? ⟨w.heap.size + 1 + 1, 2, none⟩ = some (.int .i64 kd) ∧ w'.cell? ⟨w.heap.size + 1 + 1, 3, none⟩ = some (.int .i64 di) ∧ w'.cell? ⟨w.heap.size + 1 + 1, 4, none⟩ = some (.int .u64 db) ∧ w'.cell? ⟨w.heap.size + 1 + 1, 5, none⟩ = some (.string ds) ∧ w'.cell? ⟨w.heap.size + 1 + 1, 6, none⟩ = some (.slice q n c) ∧ w'.cell? ⟨w.heap.size + 1 + 1, 7, none⟩ = some (.int .i64 n1) ∧ w'.cell? ⟨w.heap.size + 1 + 1, 8, none⟩ = some (.int .i64 n2) ∧ w'.cell? ⟨w.heap.size + 1 + 1, 9, none⟩ = some (.string rp) ∧ w'.cell? ⟨w.heap.size + 1 + 1, 10, none⟩ = some (.int .i64 n3) ∧ w'.cell? ⟨w.heap.size + 1 + 1, 11, none⟩ = some (.int .i64 n4) ∧ w'.cell? ⟨w.heap.size + 1 + 1, 12, none⟩ = some (.int .i64 n5)) (go_keep) (fail)
                  go_wp2_with fail
                  try rw [Exit.jump_ret]
                  refine bodyPost_ret (res_wdec (B := w.heap.size) (k := ((K + 2 : Nat) : Int)) (e := 0) (heap_drew1 (set13 ?hres9 _ _ _ _ _ _ _ _ _ _ _ _ _)) rfl _ rfl rfl rfl) rfl ?_
                  case hres9 => exact RSX.out
                  rw [← HPP.out]
                  refine ⟨n0, n1, n2, n3, n4, n5, tp, rp, kd, di, db, ds, q, n, c, ((K + 2 : Nat) : Int), 0, rfl, below_drew (bel13 ?hbel9 (Nat.le_refl _) _ _ _ _ _ _ _ _ _ _ _ _ _), ?_⟩
                  case hbel9 => exact BLX.out
                  rw [HDV.out, HM.out]
                  refine ⟨rfl, rfl, rfl, rfl, rfl, HD.out.kept fun b hb hl => ⟨(heap_drew2 (heap13_other ?hb9 _ _ _ _ _ _ _ _ _ _ _ _ _)).trans (KPX.out b ?hb10), ?hb11⟩⟩
                  all_goals
                    have h1 : W5.heap.size ≤ b := hb
                    have h2 := HSZ5.out
                    omega
              · rw [decide_eq_false e2] at hb9
                have hb9' : ((C : Int) % 256 != (Y2 : Int)) = true := by simp [bne, hb9]
                have HDV : Hid (decD l = .err 261) := by show _ = _; rw [HDV0.out, if_pos (fun h => e2 (HCB.out.1 h).2)]
                clear e1 e2
                go_wp2_with fail
                go_quiet ((go_at_call 25; exact Calls.quiet_of_same (CS.out _)))
                have P5 : Hid (∀ n, PDec w (.slice (some ⟨b0, o0, none⟩) l.length cap) s' (W4.drewN n)) := fun n => P4.out.drewN n
                go_wp2_with fail
                refine (fail_any (w.heap.size + 1) (.slice (some ⟨b0, o0, none⟩) l.length cap) s' 261 _ (P5.out _).rb).mono ?_
                rintro e W6 ⟨rfl, g1, g2⟩
                rw [if_pos HER.out] at g1
                have P6 : Hid (PDec w (.slice (some ⟨b0, o0, none⟩) l.length cap) { s' with err := 261 } W6) := (P5.out _).but g1 g2
                clear g1 g2 c0 c1 c2 c3 c4 hlc
                go_wp2_with fail
                go_step3
                exact ⟨rfl, HJ.out _ _ _ rfl rfl rfl rfl P6.out.rb P6.out.res P6.out.below (HDV.out)⟩
            · rw [decide_eq_false e1] at hb8
              have hb8' : ((C : Int) / 256 != (Y1 : Int)) = true := by simp [bne, hb8]
              have HDV : Hid (decD l = .err 261) := by show _ = _; rw [HDV0.out, if_pos (fun h => e1 (HCB.out.1 h).1)]
              clear e1
              go_wp2_with fail
              go_quiet ((go_at_call 25; exact Calls.quiet_of_same (CS.out _)))
              have P5 : Hid (∀ n, PDec w (.slice (some ⟨b0, o0, none⟩) l.length cap) s' (W4.drewN n)) := fun n => P4.out.drewN n
              go_wp2_with fail
              refine (fail_any (w.heap.size + 1) (.slice (some ⟨b0, o0, none⟩) l.length cap) s' 261 _ (P5.out _).rb).mono ?_
              rintro e W6 ⟨rfl, g1, g2⟩
              rw [if_pos HER.out] at g1
              have P6 : Hid (PDec w (.slice (some ⟨b0, o0, none⟩) l.length cap) { s' with err := 261 } W6) := (P5.out _).but g1 g2
              clear g1 g2 c0 c1 c2 c3 c4 hlc
              go_wp2_with fail
              go_step3
              exact ⟨rfl, HJ.out _ _ _ rfl rfl rfl rfl P6.out.rb P6.out.res P6.out.below (HDV.out)⟩
      · have hb1 : ((B : Int) == 1) = false := by simp; omega
        have hb2 : ((B : Int) != 1) = true := by simp [bne, hb1]
        have HDV : Hid (decD l = .err 262) := by show _ = _; unfold decD; rw [if_neg (by omega), if_neg (by rw [HA.out]; decide), if_neg (by omega), if_pos (by rw [HBB.out]; exact h3)]
        clear h3
        obtain ⟨c0, c1, c2, c3, c4, hlc⟩ := P2.out.rb.cells
        go_wp2_with fail
        refine (fail_any (w.heap.size + 1) (.slice p l.length cap) ⟨2, 0, 0, 0⟩ 262 _ P2.out.rb).mono ?_
        rintro e W3 ⟨rfl, g1, g2⟩
        have P3 : Hid (PDec w (.slice p l.length cap) ⟨2, 262, 0, 0⟩ W3) := P2.out.but (by simpa using g1) g2
        clear g1 g2 c0 c1 c2 c3 c4 hlc
        go_wp2_with fail
        go_step3
        exact ⟨rfl, HJ.out _ _ _ rfl rfl rfl rfl P3.out.rb P3.out.res P3.out.below (HDV.out)⟩
    · have hb1 : ((A : Int) == 167) = false := by simp; omega
      have hb2 : ((A : Int) != 167) = true := by simp [bne, hb1]
      have HDV : Hid (decD l = .err 262) := by show _ = _; unfold decD; rw [if_neg (by have := HL0.out; omega), if_pos (by rw [HA.out]; exact h1)]
      clear h1
      obtain ⟨c0, c1, c2, c3, c4, hlc⟩ := P1.out.rb.cells
      go_wp2_with fail
      refine (fail_any (w.heap.size + 1) (.slice p l.length cap) ⟨1, 0, 0, 0⟩ 262 _ P1.out.rb).mono ?_
      rintro e W2 ⟨rfl, g1, g2⟩
      have P2 : Hid (PDec w (.slice p l.length cap) ⟨1, 262, 0, 0⟩ W2) := P1.out.but (by simpa using g1) g2
      clear g1 g2 c0 c1 c2 c3 c4 hlc
      go_wp2_with fail
      go_step3
      exact ⟨rfl, HJ.out _ _ _ rfl rfl rfl rfl P2.out.rb P2.out.res P2.out.below (HDV.out)⟩
  · rintro a w1 ⟨hd1, hs1, h2, h5, s, hrb, hres, hbel, hdv⟩
    obtain ⟨tm, df⟩ := a
    simp only at hd1 hs1 h2 h5
    subst hd1
    obtain ⟨u, hu⟩ := arr163 tm hs1
    rw [hu] at h2 h5
    have h2' : u 2 = .pointer (some ⟨w.heap.size, 0, none⟩) := h2
    have h5' : u 5 = .pointer (some ⟨w.heap.size + 1, 0, none⟩) := h5
    rw [hu, h2', h5']
    clear h2 h5 h2' h5' hu hs1
    have HRB := Lib.hid hrb
    have HRS := Lib.hid hres
    have HBL := Lib.hid hbel
    have HDV := Lib.hid hdv
    obtain ⟨c0, c1, c2, c3, c4, hlc⟩ := hrb.cells
    obtain ⟨z0, z1, z2, z3, z4, z5, z6, z7, z8, z9, z10, z11, z12, hlz⟩ := cells13 hres
    have f0 := frozen_of_row _ _ 0 _ _ hres
    have f1 := frozen_of_row _ _ 1 _ _ hres
    have f2 := frozen_of_row _ _ 2 _ _ hres
    have f3 := frozen_of_row _ _ 3 _ _ hres
    have f4 := frozen_of_row _ _ 4 _ _ hres
    have f5 := frozen_of_row _ _ 5 _ _ hres
    have f6 := frozen_of_row _ _ 6 _ _ hres
    have f7 := frozen_of_row _ _ 7 _ _ hres
    have f8 := frozen_of_row _ _ 8 _ _ hres
    have f9 := frozen_of_row _ _ 9 _ _ hres
    have f10 := frozen_of_row _ _ 10 _ _ hres
    have f11 := frozen_of_row _ _ 11 _ _ hres
    have f12 := frozen_of_row _ _ 12 _ _ hres
    clear hrb hres hbel hdv
    go_wp2_with fail
    go_region_held3 (fun w' => w'.cell? ⟨w.heap.size + 1, 2, none⟩ = some (.int .i64 s.err)) (go_keep) (fail)
    go_wp2_with fail
    try rw [Exit.jump_ret]
    refine bodyPost_ret (res_wdec (B := w.heap.size) (k := 0) (e := s.err) (heap_drew1 (set13 ?hres1 _ _ _ _ _ _ _ _ _ _ _ _ _)) rfl _ rfl rfl rfl) rfl ?_
    case hres1 => exact HRS.out
    rw [← HPP.out]
    refine ⟨0, 0, 0, 0, 0, 0, ⟨#[]⟩, ⟨#[]⟩, 0, 0, 0, ⟨#[]⟩, none, 0, 0, 0, s.err, rfl, below_drew (bel13 ?hbel1 (Nat.le_refl _) _ _ _ _ _ _ _ _ _ _ _ _ _), ?_⟩
    case hbel1 => exact HBL.out
    rw [HDV.out]
    exact ⟨rfl, rfl, rfl⟩
end Go.Proofs.YtmncpbfghabamaaDoor
