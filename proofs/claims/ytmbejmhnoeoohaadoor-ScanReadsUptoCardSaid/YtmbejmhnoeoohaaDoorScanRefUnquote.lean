/- THE REFERENCE's Unquote. -/
import Derived.Test.YtmbejmhnoeoohaaDoorScanUnquote
namespace Go.Proofs.YtmbejmhnoeoohaaDoor
open Go Go.RowKit

set_option maxHeartbeats 2000000 in
theorem refUnquote_any (s : ByteArray) (w : World) (hs : s.size ≤ 8388608) :
    Calls Tryd.prog 18 #[.string s] w (UPost w (unqS s.data.toList)) := by
  obtain ⟨v, w1, hrun, hV, hb⟩ := conv_bytes s w hs
  generalize hU : unqS s.data.toList = U at *
  have HU := Lib.hid hU
  clear hU
  generalize hPP : UPost w U = PP at *
  have HPP := Lib.hid hPP
  clear hPP
  cases hl : s.data.toList with
  | nil =>
    have h0 : s.toList = [] := by rw [ByteArray.toList_eq]; exact hl
    have h0' : (s.toList == []) = true := by rw [h0]; rfl
    have h0'' : s.toList.isEmpty = true := by rw [h0]; rfl
    have HN : Hid (U = none) := by rw [hl] at HU; exact HU.out.symm
    clear hV hl hrun
    go_enter Tryd.func18, Tryd.ntmps18
    go_wp2
    rw [← HPP.out]
    exact u_none HN.out (Below.refl _ _)
  | cons c B =>
    obtain ⟨hs0, hc, hsz⟩ := head_byte hl
    rw [hl] at HU hV
    have h0 : ¬ s.toList = [] := by rw [ByteArray.toList_eq, hl]; simp
    have h0' : (s.toList == []) = false := by simpa using h0
    have h0'' : s.toList.isEmpty = false := by simpa using h0
    by_cases h34 : c = 34
    · subst h34
      have CQ := Lib.hid (refQuoted_any 34 B (34 :: B) 0 v w1 hV (by simp; omega) rfl)
      have HSZ := Lib.hid hsz
      clear hV hl hsz
      cases hq : qS B with
      | none =>
        rw [hq] at CQ
        have HN : Hid (U = none) := HU.out.symm.trans (unq_none hq)
        have hne : ((-1 : Int) != (s.size : Int)) = true := by rw [bne_iff_ne]; omega
        clear hq
        go_enter Tryd.func18, Tryd.ntmps18
        go_wp2_with fail
        refine CQ.out.mono ?_
        rintro e w2 ⟨rfl, hb2⟩
        have hbb := hb.trans (hb2.mono hb.size)
        simp only [rqV]
        go_wp2
        rw [← HPP.out]
        exact u_none HN.out hbb
      | some x =>
        obtain ⟨t, k⟩ := x
        rw [hq] at CQ
        by_cases hk : k = B.length
        · have HN : Hid (U = some t) := HU.out.symm.trans (unq_some hq hk)
          have hne : ((0 + 1 + (k : Int)) != (s.size : Int)) = false := by
            have := HSZ.out
            rw [bne_eq_false_iff_eq]; omega
          clear hq hk
          go_enter Tryd.func18, Tryd.ntmps18
          go_wp2_with fail
          refine CQ.out.mono ?_
          rintro e w2 ⟨rfl, hb2⟩
          have hbb := hb.trans (hb2.mono hb.size)
          simp only [rqV]
          go_wp2
          rw [← HPP.out]
          exact u_some HN.out hbb
        · have HN : Hid (U = none) := HU.out.symm.trans (unq_other hq hk)
          have hne : ((0 + 1 + (k : Int)) != (s.size : Int)) = true := by
            have := HSZ.out
            rw [bne_iff_ne]; omega
          clear hq hk
          go_enter Tryd.func18, Tryd.ntmps18
          go_wp2_with fail
          refine CQ.out.mono ?_
          rintro e w2 ⟨rfl, hb2⟩
          have hbb := hb.trans (hb2.mono hb.size)
          simp only [rqV]
          go_wp2
          rw [← HPP.out]
          exact u_none HN.out hbb
    · have HN : Hid (U = none) := HU.out.symm.trans (unq_first h34)
      have e1 : ((c.toNat : Int) != 34) = true := by rw [bne_iff_ne]; exact fun h => h34 (UInt8.toNat_inj.1 (show c.toNat = 34 by omega))
      clear hV hl hrun hsz
      go_enter Tryd.func18, Tryd.ntmps18
      go_wp2
      rw [← HPP.out]
      exact u_none HN.out (Below.refl _ _)
end Go.Proofs.YtmbejmhnoeoohaaDoor
