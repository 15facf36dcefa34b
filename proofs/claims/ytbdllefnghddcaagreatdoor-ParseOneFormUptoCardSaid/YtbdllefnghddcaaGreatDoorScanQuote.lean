/- THE PROGRAM's Quote. -/
import Derived.Test.YtbdllefnghddcaaGreatDoorPScan2
import Derived.Deep.RegionHeld3
namespace Go.Proofs.YtbdllefnghddcaaGreatDoor
open Go Go.RowKit

theorem and15_fin : ∀ n : Fin 256, bits .and .u8 (n.val : Nat) 15 = ((n.val % 16 : Nat) : Int) := by decide +kernel
theorem and15 (c : UInt8) : bits .and .u8 (c.toNat : Nat) 15 = ((c.toNat % 16 : Nat) : Int) := and15_fin ⟨c.toNat, c.toNat_lt⟩
theorem hx_at (w : World) : ∀ a : Nat, a < 16 → (Sem.run Tryz.prog (Instr.index 9 (Value.string ⟨#[48, 49, 50, 51, 52, 53, 54, 55, 56, 57, 97, 98, 99, 100, 101, 102]⟩) (Value.int IntKind.u8 (a : Nat))) w) = .ok (.int .u8 ((hxS a).toNat : Nat)) w
 | 0, _ => by kernel_rfl
 | 1, _ => by kernel_rfl
 | 2, _ => by kernel_rfl
 | 3, _ => by kernel_rfl
 | 4, _ => by kernel_rfl
 | 5, _ => by kernel_rfl
 | 6, _ => by kernel_rfl
 | 7, _ => by kernel_rfl
 | 8, _ => by kernel_rfl
 | 9, _ => by kernel_rfl
 | 10, _ => by kernel_rfl
 | 11, _ => by kernel_rfl
 | 12, _ => by kernel_rfl
 | 13, _ => by kernel_rfl
 | 14, _ => by kernel_rfl
 | 15, _ => by kernel_rfl
 | a + 16, h => by omega

set_option maxRecDepth 100000 in
set_option maxHeartbeats 4000000 in
theorem quote_any (s : ByteArray) (w : World) (hs : s.size ≤ 1048577) :
  Calls Tryz.prog 139 #[.string s] w fun e w' => e = .returned (.string (ba (quoteS s.data.toList))) ∧ Below w.heap.size w w' := by
 obtain ⟨i0, hi, hz0, hz1, hz2⟩ := info_parts info_byte
 have HL := Lib.hid (qK_len s.data.toList)
 have HZ := Lib.hid (qK_zero s.data.toList)
 have HS := Lib.hid (fun k c h => @qK_succ s.data.toList k c h)
 have HA := Lib.hid (qK_all s.data.toList)
 generalize hq : qK s.data.toList = Q at *
 generalize quoteS s.data.toList = A at *
 have HQ := Lib.hid hq
 clear hq
 go_enter Tryz.func139, Tryz.ntmps139
 go_wp2
 go_loopw [3, 4, 5, 9] (fun v _ _ i wr => ∃ k : Nat, k ≤ s.size ∧ i = .int .i64 k ∧ wr.ownsRow w.heap.size 5 1 v (Q k).length (bc (Q k)) ∧ Below w.heap.size w wr) (fun _ _ _ i _ => s.size - (intOf i).toNat)
 case atStart => exact ⟨0, Nat.zero_le _, rfl, by rw [HZ.out]; exact World.ownsRow_lit _ _ 1 (Nat.le_refl _) (by decide) rfl, (Below.refl _ _).alloc (Nat.le_refl _) _⟩
 case round =>
  obtain ⟨k, hk, rfl, hown, hbw⟩ := hrel
  have hsz := hbw.size
  by_cases hlt : k < s.size
  ·have HK := Lib.hid (HS.out k s[k] (by simp [hlt]; rfl))
   have hl := HL.out k
   obtain ⟨c, hc⟩ : ∃ c, s[k] = c := ⟨_, rfl⟩
   rw [hc] at HK
   have hcr := c.toNat_lt
   obtain ⟨Q1, HQ1⟩ : ∃ Q1, Hid (Q (k + 1) = Q1) := ⟨_, rfl⟩
   rw [HQ1.out] at HK
   generalize Q k = Q0 at *
   by_cases h1 : c.toNat = 34 ∨ c.toNat = 92
   ·have h1' : c = 34 ∨ c = 92 := by rcases h1 with h | h; exact .inl (UInt8.toNat_inj.1 h); exact .inr (UInt8.toNat_inj.1 h)
    clear h1 hcr
    rcases h1' with rfl | rfl
    ·have HE : Hid (Q1 = Q0 ++ [92, 34]) := HK.out
     clear HK
     go_wp2_with (at_builtin; refine wpList_append_own _ rfl _ _ 22 rfl w.heap.size 5 i0 (.int .u8 0) 1 1 Tryz.underlying22 hi hz0 hz1 hz2 rfl (by decide) _ _ _ rfl (hown.alloc _) ⟨wr.heap.size, 0, none⟩ 2 2 (bc [92, 34]) rfl rfl (news_cells _ (bc [92, 34]) _) (bc_one _) (by unfold maxLen; omega) (by omega) (by simp; omega) ?_; intro v' w1 hown' hgrow hnil)
     obtain ⟨hown2, hb2⟩ := own_grow hown hsz hown' hgrow
     have hown3 : w1.ownsRow w.heap.size 5 1 v' (Q (k + 1)).length (bc (Q (k + 1))) := by rw [HQ1.out, HE.out]; exact hown2
     clear hown' hgrow hown hnil hown2
     go_wp2
     go_roundw
     case rel => exact ⟨k + 1, by omega, by go_num, hown3, hbw.trans (hb2.mono (Nat.le_refl _))⟩
     case measure => simp [intOf]; omega
    ·have HE : Hid (Q1 = Q0 ++ [92, 92]) := HK.out
     clear HK
     go_wp2_with (at_builtin; refine wpList_append_own _ rfl _ _ 22 rfl w.heap.size 5 i0 (.int .u8 0) 1 1 Tryz.underlying22 hi hz0 hz1 hz2 rfl (by decide) _ _ _ rfl (hown.alloc _) ⟨wr.heap.size, 0, none⟩ 2 2 (bc [92, 92]) rfl rfl (news_cells _ (bc [92, 92]) _) (bc_one _) (by unfold maxLen; omega) (by omega) (by simp; omega) ?_; intro v' w1 hown' hgrow hnil)
     obtain ⟨hown2, hb2⟩ := own_grow hown hsz hown' hgrow
     have hown3 : w1.ownsRow w.heap.size 5 1 v' (Q (k + 1)).length (bc (Q (k + 1))) := by rw [HQ1.out, HE.out]; exact hown2
     clear hown' hgrow hown hnil hown2
     go_wp2
     go_roundw
     case rel => exact ⟨k + 1, by omega, by go_num, hown3, hbw.trans (hb2.mono (Nat.le_refl _))⟩
     case measure => simp [intOf]; omega
   ·have e1 : ((c.toNat : Int) == 34) = false := beq_eq_false_iff_ne.2 (by omega)
    have e2 : ((c.toNat : Int) == 92) = false := beq_eq_false_iff_ne.2 (by omega)
    by_cases h2 : c.toNat < 32 ∨ 126 < c.toNat
    ·have HE : Hid (Q1 = Q0 ++ [92, 120, hxS (c.toNat / 16), hxS (c.toNat % 16)]) := by
      show _ = _
      rw [HK.out]; unfold escS
      rw [if_neg (fun h => h1 (by rcases h with rfl | rfl; exact .inl rfl; exact .inr rfl)), if_pos h2]
     clear HK
     have hx1 : ∀ W, (Sem.run Tryz.prog (Instr.index 9 (Value.string ⟨#[48, 49, 50, 51, 52, 53, 54, 55, 56, 57, 97, 98, 99, 100, 101, 102]⟩) (Value.int IntKind.u8 ((c.toNat : Int) / 16))) W) = .ok (.int .u8 ((hxS (c.toNat / 16)).toNat : Nat)) W := fun W => hx_at W (c.toNat / 16) (by omega)
     have hx2 := fun W => hx_at W (c.toNat % 16) (by omega)
     have ha := and15 c
     generalize hxS (c.toNat / 16) = d1 at *
     generalize hxS (c.toNat % 16) = d2 at *
     generalize c.toNat % 16 = m2 at *
     go_wp2
     all_goals
      go_region_held3 (fun _ => True) (trivial) ((refine step_append_lies _ (by rfl) _ _ _ (by rfl) w.heap.size 5 i0 (.int .u8 0) 1 1 Tryz.underlying22 hi hz0 hz1 hz2 rfl (by decide) u3 Q0.length (bc Q0) (by rfl) (by exact hown.alloc _) ⟨wr.heap.size, 0, none⟩ 4 4 (bc [92, 120, d1, d2]) (by rfl) rfl (by exact news_cells _ (bc [92, 120, d1, d2]) _) (bc_one _) (by decide) (by unfold maxLen; omega) (by omega) (by simp; omega) (wr.heap.size + 1) (by simp) ?_; intro g cap w1 hown' hgrow hat hlt2))
      all_goals
       obtain ⟨hown2, hb2⟩ := own_grow_d hown hsz hown' hgrow
       have hown3 : w1.ownsRow w.heap.size 5 1 (.slice (some ⟨g, 0, none⟩) (Q0.length + 4) cap) (Q (k + 1)).length (bc (Q (k + 1))) := by rw [HQ1.out, HE.out]; exact hown2
       clear hown' hgrow hown hown2 hat hx1 hx2 ha
       go_wp2
       go_roundw
       case rel => exact ⟨k + 1, by omega, by go_num, hown3, hbw.trans (hb2.mono (Nat.le_refl _))⟩
       case measure => simp [intOf]; omega
    ·have HE : Hid (Q1 = Q0 ++ [c]) := by
      show _ = _
      rw [HK.out]; unfold escS
      rw [if_neg (fun h => h1 (by rcases h with rfl | rfl; exact .inl rfl; exact .inr rfl)), if_neg h2]
     have e3 : ¬ (c.toNat : Int) < 32 := by omega
     have e4 : ¬ (126 : Int) < (c.toNat : Int) := by omega
     clear h1 h2 HK
     go_wp2_with (at_builtin; refine wpList_append_own _ rfl _ _ 22 rfl w.heap.size 5 i0 (.int .u8 0) 1 1 Tryz.underlying22 hi hz0 hz1 hz2 rfl (by decide) _ _ _ rfl (hown.alloc _) ⟨wr.heap.size, 0, none⟩ 1 1 (bc [c]) rfl rfl (news_cells _ (bc [c]) _) (bc_one _) (by unfold maxLen; omega) (by omega) (by simp; omega) ?_; intro v' w1 hown' hgrow hnil)
     obtain ⟨hown2, hb2⟩ := own_grow hown hsz hown' hgrow
     have hown3 : w1.ownsRow w.heap.size 5 1 v' (Q (k + 1)).length (bc (Q (k + 1))) := by rw [HQ1.out, HE.out]; exact hown2
     clear hown' hgrow hown hnil hown2
     go_wp2
     go_roundw
     case rel => exact ⟨k + 1, by omega, by go_num, hown3, hbw.trans (hb2.mono (Nat.le_refl _))⟩
     case measure => simp [intOf]; omega
  ·obtain rfl : k = s.size := by omega
   have hl := HL.out s.size
   have e0 : s.data.toList.length = s.size := by simp
   have HA2 : Hid (Q s.size ++ [34] = A) := by have := HA.out; rw [e0] at this; exact this
   generalize Q s.size = Q0 at *
   clear HA e0
   go_wp2_with (at_builtin; refine wpList_append_own _ rfl _ _ 22 rfl w.heap.size 5 i0 (.int .u8 0) 1 1 Tryz.underlying22 hi hz0 hz1 hz2 rfl (by decide) _ _ _ rfl (hown.alloc _) ⟨wr.heap.size, 0, none⟩ 1 1 (bc [34]) rfl rfl (news_cells _ (bc [34]) _) (bc_one _) (by unfold maxLen; omega) (by omega) (by simp; omega) ?_; intro v' w1 hown' hgrow hnil; have hog := own_grow hown hsz hown' hgrow; have hb2 := hog.2; have hcv := own_text hog.1; rw [HA2.out] at hcv; clear hog hown' hgrow hnil)
   go_ret
   exact ⟨rfl, hbw.trans hb2⟩
end Go.Proofs.YtbdllefnghddcaaGreatDoor
