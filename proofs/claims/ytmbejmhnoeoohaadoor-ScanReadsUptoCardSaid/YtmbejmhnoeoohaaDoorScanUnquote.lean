/- Unquote, the program's and the reference's. -/
import Derived.Test.YtmbejmhnoeoohaaDoorScanRefQuoted
import Derived.Lib.ConvBytes
namespace Go.Proofs.YtmbejmhnoeoohaaDoor
open Go Go.RowKit

/-- '[]byte(s)' -/
theorem conv_bytes (s : ByteArray) (w : World) (hs : s.size ≤ 8388608) :
    ∃ v w1, (convert 9 22 (.string s)).run Tryd.prog w = .ok v w1 ∧ Bs w1 v s.data.toList ∧ Below w.heap.size w w1 := by
  refine ⟨_, _, Lib.run_convert_string_bytes w 9 22 5 s Tryd.underlying9 Tryd.underlying22 Tryd.underlying5, ?_, ?_⟩
  · have h1 := grownCap_ge w s.size 0 5
    have h2 := grownCap_le_maxLen w s.size 0 5 (by unfold maxLen; omega)
    unfold maxLen at h2
    have e : s.data.toList.length = s.size := by simp
    refine ⟨_, _, by rw [e], by rw [e]; exact h1, by omega, fun _ => ⟨_, _, rfl, fun j x hj => ?_⟩⟩
    have hlt : j < s.size := by
      obtain ⟨h, _⟩ := List.getElem?_eq_some_iff.1 hj
      omega
    have := Lib.bytesWorld_cell w 5 s j hlt
    rw [Nat.zero_add, this]
    simp [List.getD, hj]
  · refine ⟨rfl, rfl, rfl, by rw [Lib.bytesWorld_size]; omega, fun k hk => Lib.bytesWorld_at_old w 5 s k hk⟩

/-- what a text says that is just one quoted text -/
def unqS (l : List UInt8) : Option (List UInt8) := match l with
  | [] => none
  | c :: B => if c = 34 then match qS B with
    | none => none
    | some x => if x.2 + 1 = B.length + 1 then some x.1 else none
    else none
def UPost (w : World) (r : Option (List UInt8)) (e : Ending) (w' : World) : Prop := e = .returned (.tuple #[.string (ba (r.getD [])), .bool r.isSome]) ∧ Below w.heap.size w w'
theorem u_none {w w1 : World} {r : Option (List UInt8)} (hr : r = none) (hb : Below w.heap.size w w1) : UPost w r (.returned (.tuple #[.string ⟨#[]⟩, .bool false])) w1 := by subst hr; exact ⟨rfl, hb⟩
theorem u_some {w w1 : World} {r : Option (List UInt8)} {t : List UInt8} (hr : r = some t) (hb : Below w.heap.size w w1) : UPost w r (.returned (.tuple #[.string (ba t), .bool true])) w1 := by subst hr; exact ⟨rfl, hb⟩

theorem unq_first {c : UInt8} {B : List UInt8} (h : ¬ c = 34) : unqS (c :: B) = none := by unfold unqS; simp [h]
theorem unq_none {B : List UInt8} (h : qS B = none) : unqS (34 :: B) = none := by unfold unqS; simp [h]
theorem unq_other {B t : List UInt8} {k : Nat} (h : qS B = some (t, k)) (hk : ¬ k = B.length) : unqS (34 :: B) = none := by unfold unqS; simp [h, hk]
theorem unq_some {B t : List UInt8} {k : Nat} (h : qS B = some (t, k)) (hk : k = B.length) : unqS (34 :: B) = some t := by unfold unqS; simp [h, hk]

theorem head_byte {s : ByteArray} {c : UInt8} {B : List UInt8} (h : s.data.toList = c :: B) : ∃ hs : 0 < s.size, s[0] = c ∧ s.size = B.length + 1 := by
  have hs : s.size = B.length + 1 := by
    have := congrArg List.length h
    simpa using this
  refine ⟨by omega, ?_, hs⟩
  have e : s.data.toList[0]? = some c := by rw [h]; rfl
  have h0 : 0 < s.data.size := by show 0 < s.size; omega
  have e2 : s.data[0]'h0 = c := by
    rw [Array.getElem?_toList, Array.getElem?_eq_getElem h0] at e
    injection e
  exact e2

set_option maxHeartbeats 2000000 in
theorem unquote_any (s : ByteArray) (w : World) (hs : s.size ≤ 8388608) :
    Calls Tryd.prog 17 #[.string s] w (UPost w (unqS s.data.toList)) := by
  obtain ⟨v, w1, hrun, hV, hb⟩ := conv_bytes s w hs
  generalize hU : unqS s.data.toList = U at *
  have HU := Lib.hid hU
  clear hU
  generalize hPP : UPost w U = PP at *
  have HPP := Lib.hid hPP
  clear hPP
  cases hl : s.data.toList with
  | nil =>
    have h0 : (s.size : Int) < 2 := by
      have : s.data.toList.length = 0 := by rw [hl]; rfl
      have e : s.data.toList.length = s.size := by simp
      omega
    have HN : Hid (U = none) := by rw [hl] at HU; exact HU.out.symm
    clear hV hl hrun
    go_enter Tryd.func17, Tryd.ntmps17
    go_wp2
    rw [← HPP.out]
    exact u_none HN.out (Below.refl _ _)
  | cons c B =>
    obtain ⟨hs0, hc, hsz⟩ := head_byte hl
    rw [hl] at HU hV
    by_cases hlen : s.size < 2
    · have h0 : (s.size : Int) < 2 := by omega
      have HN : Hid (U = none) := by
        have hB : B = [] := List.eq_nil_of_length_eq_zero (by omega)
        subst hB
        by_cases h34 : c = 34
        · subst h34; exact HU.out.symm.trans (unq_none qS_nil)
        · exact HU.out.symm.trans (unq_first h34)
      clear hV hl hrun hc hsz
      go_enter Tryd.func17, Tryd.ntmps17
      go_wp2
      rw [← HPP.out]
      exact u_none HN.out (Below.refl _ _)
    · have h0 : ¬ (s.size : Int) < 2 := by omega
      by_cases h34 : c = 34
      · subst h34
        have CQ := Lib.hid (quoted_any 34 B v w1 hV (by simp; omega))
        have HSZ := Lib.hid hsz
        clear hV hl hsz
        cases hq : qS B with
        | none =>
          rw [hq] at CQ
          have HN : Hid (U = none) := HU.out.symm.trans (unq_none hq)
          have hne : ((0 : Int) != (s.size : Int)) = true := by rw [bne_iff_ne]; omega
          clear hq
          go_enter Tryd.func17, Tryd.ntmps17
          go_wp2_with fail
          refine CQ.out.mono ?_
          rintro e w2 ⟨rfl, hb2⟩
          have hbb := hb.trans (hb2.mono hb.size)
          simp only [qV]
          go_wp2
          rw [← HPP.out]
          exact u_none HN.out hbb
        | some x =>
          obtain ⟨t, k⟩ := x
          rw [hq] at CQ
          by_cases hk : k = B.length
          · have HN : Hid (U = some t) := HU.out.symm.trans (unq_some hq hk)
            have hne : (((k : Int) + 1) != (s.size : Int)) = false := by
              have := HSZ.out
              rw [bne_eq_false_iff_eq]; omega
            clear hq hk
            go_enter Tryd.func17, Tryd.ntmps17
            go_wp2_with fail
            refine CQ.out.mono ?_
            rintro e w2 ⟨rfl, hb2⟩
            have hbb := hb.trans (hb2.mono hb.size)
            simp only [qV]
            go_wp2
            rw [← HPP.out]
            exact u_some HN.out hbb
          · have HN : Hid (U = none) := HU.out.symm.trans (unq_other hq hk)
            have hne : (((k : Int) + 1) != (s.size : Int)) = true := by
              have := HSZ.out
              rw [bne_iff_ne]; omega
            clear hq hk
            go_enter Tryd.func17, Tryd.ntmps17
            go_wp2_with fail
            refine CQ.out.mono ?_
            rintro e w2 ⟨rfl, hb2⟩
            have hbb := hb.trans (hb2.mono hb.size)
            simp only [qV]
            go_wp2
            rw [← HPP.out]
            exact u_none HN.out hbb
      · have HN : Hid (U = none) := HU.out.symm.trans (unq_first h34)
        have e1 : ((c.toNat : Int) != 34) = true := by rw [bne_iff_ne]; exact fun h => h34 (UInt8.toNat_inj.1 (show c.toNat = 34 by omega))
        clear hV hl hrun hsz
        go_enter Tryd.func17, Tryd.ntmps17
        go_wp2
        rw [← HPP.out]
        exact u_none HN.out (Below.refl _ _)
end Go.Proofs.YtmbejmhnoeoohaaDoor
