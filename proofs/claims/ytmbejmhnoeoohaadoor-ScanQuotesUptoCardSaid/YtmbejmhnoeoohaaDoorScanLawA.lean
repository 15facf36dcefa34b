/- the law ScanQuotes, walked. -/
import Derived.Test.YtmbejmhnoeoohaaDoorScanQuotesPlain
import Derived.Test.YtmbejmhnoeoohaaDoorScanAwake
import Derived.Test.YtmbejmhnoeoohaaDoorScanRefQuote
namespace Go.Proofs.YtmbejmhnoeoohaaDoor
open Go Go.RowKit

theorem ba_list (s : ByteArray) : ba s.data.toList = s := rfl
theorem byte_of (s : ByteArray) (k : Nat) (h : k < s.size) : s[k] ∈ s.data.toList := by
  have : s[k] = s.data.toList[k]'(by simp; exact h) := by simp; rfl
  rw [this]; exact List.getElem_mem _

set_option maxHeartbeats 4000000 in
theorem scanQuotes_any (s t : ByteArray) (w : World) (hs : s.size ≤ 1048576) (ht : t.size ≤ 1048576) (hE : Env w) :
    Calls Tryd.prog 7 #[.string s, .string t] w fun e w' => e = .returned (.bool true) ∧ Below w.heap.size w w' := by
  have C1 : Hid (∀ w, Calls Tryd.prog 16 #[.string s] w fun e w' => e = .returned (.string (ba (quoteS s.data.toList))) ∧ Below w.heap.size w w') := fun w => quote_any s w (by omega)
  have C2 : Hid (∀ w, Calls Tryd.prog 19 #[.string s] w fun e w' => e = .returned (.string (ba (quoteS s.data.toList))) ∧ Below w.heap.size w w') := fun w => refQuote_any s w (by omega)
  have hq : (ba (quoteS s.data.toList)).size ≤ 4194306 := by
    have := quoteS_len s.data.toList
    have e : s.data.toList.length = s.size := by simp
    show (quoteS s.data.toList).toArray.size ≤ _
    simp; omega
  have hr : ∀ k (h : k < (ba (quoteS s.data.toList)).size), 32 ≤ (ba (quoteS s.data.toList))[k].toNat ∧ (ba (quoteS s.data.toList))[k].toNat ≤ 126 := fun k h => quoteS_range s.data.toList _ (byte_of (ba (quoteS s.data.toList)) k h)
  have C3 : Hid (∀ w, Calls Tryd.prog 17 #[.string (ba (quoteS s.data.toList))] w fun e w' => e = .returned (.tuple #[.string s, .bool true]) ∧ Below w.heap.size w w') := fun w => by
    have h := unquote_any (ba (quoteS s.data.toList)) w (by omega)
    rw [show unqS (ba (quoteS s.data.toList)).data.toList = some s.data.toList from unqS_quote s.data.toList] at h
    exact h
  have C4 : Hid (∀ w, Calls Tryd.prog 17 #[.string t] w fun e w' => e = .returned (.tuple #[.string (ba ((unqS t.data.toList).getD [])), .bool (unqS t.data.toList).isSome]) ∧ Below w.heap.size w w') := fun w => unquote_any t w (by omega)
  have C5 : Hid (∀ w, Calls Tryd.prog 18 #[.string t] w fun e w' => e = .returned (.tuple #[.string (ba ((unqS t.data.toList).getD [])), .bool (unqS t.data.toList).isSome]) ∧ Below w.heap.size w w') := fun w => refUnquote_any t w (by omega)
  have HR := Lib.hid hr
  clear hr
  generalize ba (quoteS s.data.toList) = q at *
  generalize ba ((unqS t.data.toList).getD []) = u at *
  generalize (unqS t.data.toList).isSome = g at *
  have e1 : (q.toList != q.toList) = false := by simp
  have e2 : (s.toList != s.toList) = false := by simp
  have e3 : (u.toList != u.toList) = false := by simp
  have e4 : (g != g) = false := by simp
  have HE := Lib.hid hE
  clear hE hs ht
  go_enter Tryd.func7, Tryd.ntmps7
  go_wp2_with fail
  refine (C1.out _).mono ?_
  rintro e w1 ⟨rfl, hb1⟩
  go_wp2_with fail
  refine (C3.out _).mono ?_
  rintro e w2 ⟨rfl, hb2⟩
  have hb12 := hb1.trans (hb2.mono hb1.size)
  clear hb1 hb2
  go_wp2_with fail
  refine (C4.out _).mono ?_
  rintro e w3 ⟨rfl, hb3⟩
  have hb13 := hb12.trans (hb3.mono hb12.size)
  clear hb12 hb3
  go_wp2_with fail
  refine (C5.out _).mono ?_
  rintro e w4 ⟨rfl, hb4⟩
  have hb14 := hb13.trans (hb4.mono hb13.size)
  clear hb13 hb4
  go_wp2_with fail
  refine (C2.out _).mono ?_
  rintro e w5 ⟨rfl, hb5⟩
  have hb15 := hb14.trans (hb5.mono hb14.size)
  clear hb14 hb5 C1 C2 C3 C4 C5
  have HE5 := HE.out.below hb15
  go_wp2
  go_loopw [12] (fun i wr => ∃ k n : Nat, k ≤ q.size ∧ i = .int .i64 k ∧ wr = w5.drewN n) (fun i _ => q.size - (intOf i).toNat)
  case atStart => exact ⟨0, 0, Nat.zero_le _, rfl, rfl⟩
  case round =>
    obtain ⟨k, n, hk, rfl, rfl⟩ := hrel
    by_cases hlt : k < q.size
    · have hR := HR.out k hlt
      obtain ⟨c, hc⟩ : ∃ c, q[k] = c := ⟨_, rfl⟩
      rw [hc] at hR
      have h1 : ¬ (c.toNat : Int) < 32 := by omega
      have h2 : ¬ (126 : Int) < c.toNat := by omega
      go_wp2
      go_roundw
      case rel => exact ⟨k + 1, _, by omega, by go_num, rfl⟩
      case measure => simp [intOf]; omega
    · obtain rfl : k = q.size := by omega
      have HE7 : Env (w5.drewN n) := HE5.below (below_drewN (Below.refl _ _) _)
      go_wp2_with fail
      refine (awake_any _ HE7).mono ?_
      rintro e w8 ⟨rfl, hb8⟩
      go_wp2
      go_ret
      exact ⟨rfl, (below_drewN hb15 n).trans (hb8.mono hb15.size)⟩
end Go.Proofs.YtmbejmhnoeoohaaDoor
