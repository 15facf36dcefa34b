/- WIRE: the program's Encode. -/
import Derived.Test.YtmncpbfghabamaaDoorWireMsg
namespace Go.Proofs.YtmncpbfghabamaaDoor
open Go Go.RowKit
attribute [local go_sem ↓] Go.wp_at_zero Go.wp_at_succ

set_option maxRecDepth 100000 in
set_option maxHeartbeats 4000000 in
theorem encode_any (k : Nat) (w : World) (id at_ un co pr hp : Int) (tp rp : ByteArray) (kd di db : Int) (ds : ByteArray) (p : Option Addr) (n cap : Nat) (ps : List Dv) (hd : DvIs w k [.int .i64 kd, .int .i64 di, .int .u64 db, .string ds, .slice p n cap] (.mk kd di db ds ps)) (hi : ∀ x ∈ [id, at_, un, co, pr, hp], I64 x) (htp : tp.size ≤ 2000000) (hrp : rp.size ≤ 2000000) (hl : (enc (.mk kd di db ds ps)).length ≤ 90000000) :
    Calls Tryd.prog 19 #[.agg #[.int .i64 id, .string tp, .int .i64 kd, .int .i64 di, .int .u64 db, .string ds, .slice p n cap, .int .i64 at_, .int .i64 un, .string rp, .int .i64 co, .int .i64 pr, .int .i64 hp]] w (BPost (frameB (bodyB [id, at_, un, co, pr, hp] tp rp (.mk kd di db ds ps))) w) := by
  obtain ⟨PP, hPP⟩ : ∃ PP, BPost (frameB (bodyB [id, at_, un, co, pr, hp] tp rp (.mk kd di db ds ps))) w = PP := ⟨_, rfl⟩
  rw [hPP]
  have HPP := Lib.hid hPP
  have HD := Lib.hid hd
  have HI := Lib.hid hi
  have HS0 : Hid (MSt w w.heap.size (w.heap.size + 1) (w.heap.size + 1 + 1) #[.int .i64 id, .string tp, .int .i64 kd, .int .i64 di, .int .u64 db, .string ds, .slice p n cap, .int .i64 at_, .int .i64 un, .string rp, .int .i64 co, .int .i64 pr, .int .i64 hp] #[.int .i64 id, .int .i64 at_, .int .i64 un, .int .i64 co, .int .i64 pr, .int .i64 hp] [] (.slice none 0 0) (((w.alloc (.cells #[.int .i64 id, .string tp, .int .i64 kd, .int .i64 di, .int .u64 db, .string ds, .slice p n cap, .int .i64 at_, .int .i64 un, .string rp, .int .i64 co, .int .i64 pr, .int .i64 hp] 39)).alloc (.cells #[.slice none 0 0] 67)).alloc (.cells #[.int .i64 id, .int .i64 at_, .int .i64 un, .int .i64 co, .int .i64 pr, .int .i64 hp] 2))) := by
    refine ⟨?_, World.ownsRow_nil _ _ _ _, (((Below.refl _ _).alloc (Nat.le_refl _) _).alloc (by simp) _).alloc (by simp; omega) _, ?_, ?_⟩
    · have h := heap_alloc_new (w.alloc (.cells #[.int .i64 id, .string tp, .int .i64 kd, .int .i64 di, .int .u64 db, .string ds, .slice p n cap, .int .i64 at_, .int .i64 un, .string rp, .int .i64 co, .int .i64 pr, .int .i64 hp] 39)) (.cells #[.slice none 0 0] 67)
      rw [World.size_alloc] at h
      exact Boxed.alloc (show Boxed ((w.alloc (.cells #[.int .i64 id, .string tp, .int .i64 kd, .int .i64 di, .int .u64 db, .string ds, .slice p n cap, .int .i64 at_, .int .i64 un, .string rp, .int .i64 co, .int .i64 pr, .int .i64 hp] 39)).alloc (.cells #[.slice none 0 0] 67)) (w.heap.size + 1) 67 (.slice none 0 0) from h) _
    · have h := heap_alloc_new w (.cells #[.int .i64 id, .string tp, .int .i64 kd, .int .i64 di, .int .u64 db, .string ds, .slice p n cap, .int .i64 at_, .int .i64 un, .string rp, .int .i64 co, .int .i64 pr, .int .i64 hp] 39)
      rw [Below.heap_alloc _ _ _ (by simp; omega), Below.heap_alloc _ _ _ (by simp)]
      exact h
    · have h := heap_alloc_new ((w.alloc (.cells #[.int .i64 id, .string tp, .int .i64 kd, .int .i64 di, .int .u64 db, .string ds, .slice p n cap, .int .i64 at_, .int .i64 un, .string rp, .int .i64 co, .int .i64 pr, .int .i64 hp] 39)).alloc (.cells #[.slice none 0 0] 67)) (.cells #[.int .i64 id, .int .i64 at_, .int .i64 un, .int .i64 co, .int .i64 pr, .int .i64 hp] 2)
      rw [World.size_alloc, World.size_alloc] at h
      exact h
  have HT1 := Lib.hid htp
  have HT2 := Lib.hid hrp
  have HL := Lib.hid hl
  clear hPP hd hi htp hrp hl
  go_enter Tryd.func19, Tryd.ntmps19
  go_wp2_with fail
  go_loopw [5, 24] (fun s5 s24 wr => ∃ (j : Nat) (v1 : Value), s24 = .int .i64 (j : Nat) ∧ j ≤ 6 ∧ Hid (MSt w w.heap.size (w.heap.size + 1) (w.heap.size + 1 + 1) #[.int .i64 id, .string tp, .int .i64 kd, .int .i64 di, .int .u64 db, .string ds, .slice p n cap, .int .i64 at_, .int .i64 un, .string rp, .int .i64 co, .int .i64 pr, .int .i64 hp] #[.int .i64 id, .int .i64 at_, .int .i64 un, .int .i64 co, .int .i64 pr, .int .i64 hp] (sigsB ([id, at_, un, co, pr, hp].take j)) v1 wr)) (fun _ s24 _ => 6 - (intOf s24).toNat)
  case atStart => exact ⟨0, _, rfl, by omega, HS0.out⟩
  case round =>
    obtain ⟨j, v1, rfl, hj, S1⟩ := hrel
    clear HS0
    have hsz := S1.out.below.size
    by_cases h6 : j = 6
    · subst h6
      have hlen := sigsB_len [id, at_, un, co, pr, hp] HI.out
      obtain ⟨m0, m1, m2, m3, m4, m5, m6, m7, m8, m9, m10, m11, m12, hltm⟩ := cells13 S1.out.msg
      have HLN : Hid ((sigsB ([id, at_, un, co, pr, hp].take 6)).length ≤ 60) := hlen
      clear hlen
      go_wp2_with fail
      refine (text_any (w.heap.size + 1) w.heap.size v1 (sigsB ([id, at_, un, co, pr, hp].take 6)) tp wr S1.out.box S1.out.row hsz (by have := HT1.out; omega) (by have := HLN.out; omega)).mono ?_
      rintro e W1 ⟨v2, rfl, g1, g2, g3⟩
      have S2 := Lib.hid (S1.out.post (by omega) (by omega) (by omega) g1 g2 g3)
      clear g1 g2 g3 m0 m1 m2 m3 m4 m5 m6 m7 m8 m9 m10 m11 m12 hltm hsz S1
      obtain ⟨m0, m1, m2, m3, m4, m5, m6, m7, m8, m9, m10, m11, m12, hltm⟩ := cells13 S2.out.msg
      go_wp2_with fail
      refine (text_any (w.heap.size + 1) w.heap.size v2 _ rp W1 S2.out.box S2.out.row S2.out.below.size (by have := HT2.out; omega) (by have h1 := HLN.out; have h2 := HT1.out; have h3 := numB_ten (show tp.size < 18446744073709551616 by omega); simp only [List.length_append, Array.length_toList]; show _ + (_ + tp.size) ≤ _; omega)).mono ?_
      rintro e W2 ⟨v3, rfl, g1, g2, g3⟩
      have S3 := Lib.hid (S2.out.post (by omega) (by omega) (by omega) g1 g2 g3)
      clear g1 g2 g3 m0 m1 m2 m3 m4 m5 m6 m7 m8 m9 m10 m11 m12 hltm S2
      obtain ⟨m0, m1, m2, m3, m4, m5, m6, m7, m8, m9, m10, m11, m12, hltm⟩ := cells13 S3.out.msg
      go_wp2_with fail
      refine (datum_any k w W2 (w.heap.size + 1) v3 _ kd di db ds p n cap ps HD.out S3.out.below (by omega) S3.out.box S3.out.row (by have h1 := HLN.out; have h2 := HT1.out; have h3 := numB_ten (show tp.size < 18446744073709551616 by omega); have h4 := HT2.out; have h5 := numB_ten (show rp.size < 18446744073709551616 by omega); have h6 := HL.out; simp only [List.length_append, Array.length_toList]; show _ + (_ + tp.size) + (_ + rp.size) + _ ≤ _; omega)).mono ?_
      rintro e W3 ⟨v4, rfl, g1, g2, g3⟩
      obtain ⟨BB, hBB⟩ : ∃ BB, (bodyB [id, at_, un, co, pr, hp] tp rp (.mk kd di db ds ps)) = BB := ⟨_, rfl⟩
      have hlen : BB.length ≤ 100000000 := by
        rw [← hBB]
        have h1 := HLN.out; have h2 := HT1.out; have h3 := numB_ten (show tp.size < 18446744073709551616 by omega); have h4 := HT2.out; have h5 := numB_ten (show rp.size < 18446744073709551616 by omega); have h6 := HL.out
        unfold bodyB txtB
        simp only [List.length_append, Array.length_toList]
        show (sigsB ([id, at_, un, co, pr, hp].take 6)).length + (_ + tp.size) + (_ + rp.size) + _ ≤ _
        omega
      have hpos : 0 < BB.length := by
        rw [← hBB]
        have := enc_pos (.mk kd di db ds ps)
        unfold bodyB
        simp only [List.length_append]
        omega
      have S4 : Hid (MSt w w.heap.size (w.heap.size + 1) (w.heap.size + 1 + 1) #[.int .i64 id, .string tp, .int .i64 kd, .int .i64 di, .int .u64 db, .string ds, .slice p n cap, .int .i64 at_, .int .i64 un, .string rp, .int .i64 co, .int .i64 pr, .int .i64 hp] #[.int .i64 id, .int .i64 at_, .int .i64 un, .int .i64 co, .int .i64 pr, .int .i64 hp] BB v4 W3) := by
        have h := S3.out.post (by omega) (by omega) (by omega) g1 g2 g3
        show MSt _ _ _ _ _ _ _ _ _
        rw [← hBB]
        exact h
      rw [hBB] at HPP
      clear g1 g2 g3 m0 m1 m2 m3 m4 m5 m6 m7 m8 m9 m10 m11 m12 hltm S3 hBB HLN HT1 HT2 HL
      obtain ⟨q, m, c, rfl⟩ := row_val S4.out.row
      obtain rfl : m = BB.length := ((bs_of_own S4.out.row).len).1
      have hbc := S4.out.box.cell
      have hbl := S4.out.box.lt
      have hB3 := S4.out.below.size
      obtain ⟨N, hN⟩ : ∃ N, BB.length = N := ⟨_, rfl⟩
      have HN := Lib.hid hN
      rw [hN] at hbc hlen hpos
      by_cases hbig : 16777216 < N
      · have hbI : (16777216 : Int) < (N : Int) := by omega
        clear hN
        go_wp2_with fail
        rw [← HPP.out]
        refine ⟨_, rfl, ?_, S4.out.below⟩
        unfold frameB
        rw [if_pos (by rw [HN.out]; exact hbig)]
        exact World.ownsRow_nil _ _ _ _
      · have hbI : ¬ (16777216 : Int) < (N : Int) := by omega
        have hwN : IntKind.u64.wrap (N : Int) = (N : Int) := by rw [wrap64u]; omega
        clear hN
        have hbc2 : ((W3.alloc (.cells #[.int .u8 167, .int .u8 1] 5)).alloc (.cells #[.slice (some ⟨W3.heap.size, 0, none⟩) 2 2] 67)).cell? ⟨w.heap.size + 1, 0, none⟩ = some (.slice q N c) := by
          rw [← hbc]
          exact ((Below.refl _ W3).alloc (Nat.le_refl _) _ |>.alloc (by simp) _).cell hbl
        go_wp2_with fail
        have hWn : Hid (Below W3.heap.size W3 ((W3.alloc (.cells #[.int .u8 167, .int .u8 1] 5)).alloc (.cells #[.slice (some ⟨W3.heap.size, 0, none⟩) 2 2] 67))) := ((Below.refl _ _).alloc (Nat.le_refl _) _).alloc (by simp) _
        have hXn : Hid (Boxed ((W3.alloc (.cells #[.int .u8 167, .int .u8 1] 5)).alloc (.cells #[.slice (some ⟨W3.heap.size, 0, none⟩) 2 2] 67)) (W3.heap.size + 1) 67 (.slice (some ⟨W3.heap.size, 0, none⟩) 2 2)) := by
          have h := heap_alloc_new (W3.alloc (.cells #[.int .u8 167, .int .u8 1] 5)) (.cells #[.slice (some ⟨W3.heap.size, 0, none⟩) 2 2] 67)
          rw [World.size_alloc] at h
          exact h
        have hRn : Hid (Row ((W3.alloc (.cells #[.int .u8 167, .int .u8 1] 5)).alloc (.cells #[.slice (some ⟨W3.heap.size, 0, none⟩) 2 2] 67)) w.heap.size (.slice (some ⟨W3.heap.size, 0, none⟩) 2 2) [167, 1]) := World.ownsRow.alloc (row_two (x := 167) (y := 1) hB3 rfl rfl) _
        refine (number_any (W3.heap.size + 1) w.heap.size (.slice (some ⟨W3.heap.size, 0, none⟩) 2 2) [167, 1] N _ hXn.out hRn.out (by have := hWn.out.size; omega) (by omega) (by simp)).mono ?_
        rintro e W4 ⟨v5, rfl, g1, g2, g3⟩
        have b1 : Below W3.heap.size W3 W4 := g3.below hWn.out (by simp; omega) (fun k e => by injection e with e; omega) (fun k e => by simp [Value.ownBlock] at e; omega)
        have V5 : Hid (∀ k, v5.ownBlock = some k → W3.heap.size ≤ k) := fun k hk => by
          rcases g3.at_ with h | h
          · rw [hk] at h; simp [Value.ownBlock] at h; omega
          · have := h k hk; simp at this; omega
        have X4 : Hid (Boxed W4 (w.heap.size + 1) 67 (.slice q N c)) := by
          have h := S4.out.box
          rw [HN.out] at h
          exact (b1.block _ hbl).trans h
        have R4 : Hid (Row W4 w.heap.size (.slice q N c) BB) := by
          have h := S4.out.row
          rw [HN.out] at h
          exact World.ownsRow.kept (row := none) h ⟨b1.os, b1.tape, b1.output, b1.size, fun k hk _ => b1.block k hk⟩ (Decidable.em _)
        have B4 : Hid (Below w.heap.size w W4) := S4.out.below.trans (b1.mono hB3)
        have hn10 := numB_ten (show N < 18446744073709551616 by omega)
        obtain ⟨LL, hLL⟩ : ∃ LL, ([167, 1] : List UInt8) ++ numB N = LL := ⟨_, rfl⟩
        rw [hLL] at g2
        have hl12 : LL.length ≤ 12 := by rw [← hLL, List.length_append]; simp; omega
        have HLL := Lib.hid hLL
        have X5 := Lib.hid g1
        have R5 := Lib.hid g2
        obtain ⟨q5, m5, c5, rfl⟩ := row_val g2
        obtain rfl : m5 = LL.length := ((bs_of_own g2).len).1
        have hc5 := g1.cell
        have hf5 := g1.frozen
        have hl5 := g1.lt
        have hc4 := X4.out.cell
        have hl4 := X4.out.lt
        have hs4 := b1.size
        have hne1 : ¬ w.heap.size + 1 = W3.heap.size + 1 := by omega
        have hne2 : ¬ W3.heap.size + 1 = w.heap.size + 1 := by omega
        have GB : Hid (∀ k, (Value.slice q N c).ownBlock = some k → k < W3.heap.size) := fun k hk => by
          have h := (S4.out.row.lt k (by rw [HN.out]; exact hk)).2
          exact h
        clear g1 g2 g3 b1 hLL hbc hbc2 S4 hWn hXn hRn hn10
        obtain ⟨gb, rfl⟩ : ∃ gb, q = some ⟨gb, 0, none⟩ := by
          rcases R4.out.2 with ⟨h, -⟩ | ⟨g, cap', cur, h, -⟩
          · injection h with h1 h2; omega
          · injection h with h1; exact ⟨g, h1⟩
        obtain ⟨i0, hi, hz0, hz1, hz2⟩ := info_parts info_u8
        have R5d : Hid (Row W4.drew w.heap.size (.slice q5 LL.length c5) LL) := World.ownsRow.drew R5.out
        have R4d : Hid (Row W4.drew w.heap.size (.slice (some ⟨gb, 0, none⟩) N c) BB) := World.ownsRow.drew R4.out
        have N4 : Hid (∀ j u, (BB.map bv)[j]? = some u → W4.drew.cell? ((⟨gb, 0, none⟩ : Addr).add j) = some u) := World.ownsRow.cells R4d.out rfl
        have X5d : Hid (Boxed W4.drew (W3.heap.size + 1) 67 (.slice q5 LL.length c5)) := X5.out
        have hsz4 : w.heap.size ≤ W4.drew.heap.size := B4.out.size
        have hbl2 : (BB.map bv).length = N * 1 := by rw [List.length_map, HN.out, Nat.mul_one]
        have HBL := Lib.hid hbl2
        clear hbl2
        go_wp2_with fail
        go_region_law ((refine step_append_lies _ (by rfl) _ _ _ (by rfl) w.heap.size 5 i0 (.int .u8 0) 1 1 Tryd.underlying26 hi hz0 hz1 hz2 rfl (by decide) (.slice q5 LL.length c5) LL.length (LL.map bv) (by rfl) (by exact R5d.out) ⟨gb, 0, none⟩ N c (BB.map bv) (by rfl) (by exact HBL.out) (by exact N4.out) (fun x hx => by obtain ⟨y, -, rfl⟩ := List.mem_map.1 hx; rfl) (by omega) (by unfold maxLen; omega) (by omega) (by exact hsz4) W4.heap.size (by rfl) ?_); intro g6 cap6 w6 hown6 hgrow6 hat6 hlt6; have X6 := X5d.out.kept hgrow6 (X5d.out.not_row (by decide) R5d.out); have hc6 := X6.cell; have hf6 := X6.frozen; clear X6)
        all_goals
          obtain ⟨t1, t2, t3, -⟩ := grow_store X5d.out (by decide) R5d.out (row_app hown6 HN.out.symm) (grow_of_by hgrow6 (hat6.elim (fun h => .inl (by rw [h]; rfl)) (fun h => .inr (by rw [h]; rfl))))
          have b6 : Below W3.heap.size W4 (w6.setCell ⟨W3.heap.size + 1, 0, none⟩ (.slice (some ⟨g6, 0, none⟩) (LL.length + N) cap6)) := t3.below (below_drew (Below.refl _ _)) hs4 (fun k e => by injection e with e; omega) V5.out
          have hgb : gb < W3.heap.size := GB.out gb rfl
          obtain ⟨W6, hW6⟩ : ∃ W6, w6.setCell ⟨W3.heap.size + 1, 0, none⟩ (.slice (some ⟨g6, 0, none⟩) (LL.length + N) cap6) = W6 := ⟨_, rfl⟩
          rw [hW6] at t1 t2 t3 b6 ⊢
          have T1 := Lib.hid t1
          have T2 := Lib.hid t2
          have X6 : Hid (Boxed W6 (w.heap.size + 1) 67 (.slice (some ⟨gb, 0, none⟩) N c)) := (b6.block _ (by omega)).trans X4.out
          have R6 : Hid (Row W6 w.heap.size (.slice (some ⟨gb, 0, none⟩) N c) BB) := row_block R4.out (b6.block _ hgb)
          have B6 : Hid (Below w.heap.size w W6) := B4.out.trans (b6.mono hB3)
          have CS : Hid (Calls Tryd.prog 25 #[.slice (some ⟨gb, 0, none⟩) N c] W6 fun e w' => e = .returned (.int .u16 ((crc BB).toNat : Nat)) ∧ w' = W6) := by
            have h := sum_any (some ⟨gb, 0, none⟩) c BB W6 (by have h := bs_of_own R6.out; rw [HN.out]; exact h)
            rw [HN.out] at h
            exact h
          clear t1 t2 t3 b6 hown6 hgrow6 hat6 hlt6 hc6 hf6 hW6
          have hc1 := X6.out.cell
          have hc2 := T1.out.cell
          go_wp2_with fail
          refine CS.out.mono ?_
          rintro e w7 ⟨rfl, rfl⟩
          obtain ⟨C, hC⟩ : ∃ C, (crc BB).toNat = C := ⟨_, rfl⟩
          have hC6 : C < 65536 := by rw [← hC]; exact (crc BB).isLt
          have HC := Lib.hid hC
          rw [hC]
          clear hC
          have hbs : w.heap.size ≤ w7.heap.size := B6.out.size
          go_wp2_with (at_builtin; refine wpList_append_own_at _ rfl _ _ 26 rfl w.heap.size 5 i0 (.int .u8 0) 1 1 Tryd.underlying26 hi hz0 hz1 hz2 rfl (by decide) (.slice (some ⟨g6, 0, none⟩) (LL.length + N) cap6) (LL ++ BB).length ((LL ++ BB).map bv) rfl (World.ownsRow.alloc T2.out _) ⟨w7.heap.size, 0, none⟩ 2 2 [.int .u8 ((C : Int) / 256), .int .u8 ((C : Int) % 256)] rfl rfl (World.news_of_block (heap_alloc_new w7 (.cells #[.int .u8 ((C : Int) / 256), .int .u8 ((C : Int) % 256)] 5))) (fun x hx => by simp at hx; rcases hx with rfl | rfl <;> rfl) (by unfold maxLen; rw [List.length_append, HN.out]; omega) (by rw [List.length_append, HN.out]; omega) (by simp; omega) ?_; intro v9 w9 hown9 hgrow9 _ hat9; obtain ⟨q9, n9, c9, rfl⟩ : ∃ q n c, v9 = .slice q n c := (by rcases hown9.2 with ⟨h, -⟩ | ⟨g, cap, cur, h, -⟩ <;> exact ⟨_, _, _, h⟩))
          rw [← HPP.out]
          have hrow9 : Row w9 w.heap.size (.slice q9 n9 c9) (LL ++ BB ++ crcB BB) := by
            refine row_app (m := crcB BB) (n := 2) ?_ rfl
            have e : (crcB BB).map bv = [.int .u8 ((C : Int) / 256), .int .u8 ((C : Int) % 256)] := by
              unfold crcB bv
              rw [HC.out]
              simp only [List.map_cons, List.map_nil]
              rw [byte_nat (by omega), byte_nat (by omega)]
              rfl
            rw [e]
            exact hown9
          refine ⟨_, rfl, ?_, ?_⟩
          · unfold frameB
            rw [if_neg (by rw [HN.out]; exact hbig), HN.out, HLL.out]
            exact hrow9
          · have hg6 : w.heap.size ≤ g6 := row_base T2.out g6 rfl
            exact (B6.out.alloc hbs _).trans ⟨hgrow9.os, hgrow9.tape, hgrow9.output, hgrow9.size, fun k hk => hgrow9.block k (by simp; omega) (fun e => by simp [Value.ownBlock] at e; omega)⟩
    · have hjI : (j : Int) < 6 := by omega
      have hj0 : (0 : Int) ≤ (j : Int) := by omega
      obtain ⟨x, hx⟩ : ∃ x, [id, at_, un, co, pr, hp][j]? = some x := ⟨_, List.getElem?_eq_getElem (show j < [id, at_, un, co, pr, hp].length from by simp; omega)⟩
      have hxi := HI.out x (List.mem_of_getElem? hx)
      have HX := Lib.hid hx
      have HXI := Lib.hid hxi
      have hcx : wr.cell? ⟨w.heap.size + 1 + 1, j, none⟩ = some (.int .i64 x) := by
        rw [cell_of_row wr _ j _ _ _ S1.out.num]
        have : j = 0 ∨ j = 1 ∨ j = 2 ∨ j = 3 ∨ j = 4 ∨ j = 5 := by omega
        rcases this with rfl | rfl | rfl | rfl | rfl | rfl <;> (simp at hx; subst hx; rfl)
      have hlj : Hid ((sigsB ([id, at_, un, co, pr, hp].take j)).length ≤ 60) := by
        show _ ≤ _
        have h := sigsB_len ([id, at_, un, co, pr, hp].take j) (fun y hy => HI.out y (List.mem_of_mem_take hy))
        rw [List.length_take] at h
        simp at h
        omega
      clear hx hxi
      go_wp2_with fail
      refine (signed_any (w.heap.size + 1) w.heap.size v1 (sigsB ([id, at_, un, co, pr, hp].take j)) x wr S1.out.box S1.out.row hsz HXI.out (by have := hlj.out; omega)).mono ?_
      rintro e W1 ⟨v2, rfl, g1, g2, g3⟩
      have S2 := Lib.hid (S1.out.post (by omega) (by omega) (by omega) g1 g2 g3)
      clear g1 g2 g3 hcx
      go_wp2_with fail
      go_roundw
      case rel => exact ⟨j + 1, v2, by go_num, by omega, by show MSt _ _ _ _ _ _ _ _ _; rw [sigsB_next HX.out]; exact S2.out⟩
      case measure => simp [intOf]; omega
end Go.Proofs.YtmncpbfghabamaaDoor
