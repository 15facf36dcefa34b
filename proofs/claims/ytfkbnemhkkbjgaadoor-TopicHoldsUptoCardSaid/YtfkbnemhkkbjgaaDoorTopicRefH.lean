/- THE REFERENCE's Meets. -/
import Derived.Test.YtfkbnemhkkbjgaaDoorTopicCommon
namespace Go.Proofs.YtfkbnemhkkbjgaaDoor
open Go Go.RowKit

def sumB (l : List ByteArray) : Nat := (l.map fun x => x.size).sum
theorem sumB_take {l : List ByteArray} {k : Nat} {x : ByteArray} (hx : l[k]? = some x) : sumB (l.take (k + 1)) = sumB (l.take k) + x.size := by
  obtain ⟨hk, rfl⟩ := List.getElem?_eq_some_iff.1 hx
  rw [List.take_succ_eq_append_getElem hk]; unfold sumB; rw [List.map_append, List.sum_append]; simp
theorem sumB_le (M : Nat) : ∀ l : List ByteArray, (∀ x ∈ l, x.size ≤ M) → sumB l ≤ l.length * M
  | [], _ => by simp [sumB]
  | x :: r, h => by
    have h1 := h x (by simp)
    have h2 := sumB_le M r (fun z hz => h z (by simp [hz]))
    simp only [sumB, List.map_cons, List.sum_cons, List.length_cons, Nat.succ_mul] at h2 ⊢; omega

theorem joinB_size : ∀ (x : ByteArray) (r : List ByteArray), (joinB (x :: r)).size = r.length + sumB (x :: r)
  | x, [] => by show (ba _).data.size = _; simp [ba, joinS, sumB]
  | x, y :: r => by
    have h := joinB_size y r
    have e : ∀ l : List UInt8, (ba l).size = l.length := fun l => by show (ba l).data.size = _; simp [ba]
    unfold joinB at h ⊢
    rw [e] at h ⊢
    simp only [List.map_cons, joinS, List.length_append, List.length_cons] at h ⊢
    simp only [sumB, List.map_cons, List.sum_cons] at h ⊢
    have h3 : x.data.toList.length = x.size := by simp
    omega

theorem dollar_join (x : ByteArray) (r : List ByteArray) : dollarB (joinB (x :: r)).data.toList = dollarB x.data.toList := by
  unfold joinB
  have e : ∀ l : List UInt8, (ba l).data.toList = l := fun l => by simp [ba]
  rw [e]
  cases r with
  | nil => rfl
  | cons y r =>
    simp only [List.map_cons, joinS]
    cases x.data.toList with
    | nil => rfl
    | cons c t => rfl

/-- what the reference reckons of a text's levels is what Common says of the text -/
theorem fin_isSome (p : Bool) (x : ByteArray) (r : List ByteArray) :
    (comFin p (if (joinB (x :: r)).toList == [] then ⟨#[97]⟩ else joinB (x :: r))).isSome = (decide (max (r.length + sumB (x :: r)) 1 ≤ 65535) && !(dollarB x.data.toList && p)) := by
  have hsz := joinB_size x r
  have hd := dollar_join x r
  generalize joinB (x :: r) = s at *
  unfold comFin
  by_cases h0 : s.toList = []
  · have hs : s.size = 0 := by rcases Nat.eq_zero_or_pos s.size with h | h; exact h; exact absurd ((toList_nil_iff s).1 h0) (by omega)
    have hdd : dollarB x.data.toList = false := by rw [← hd]; exact dollarB_empty s h0
    rw [hdd]
    simp only [h0]
    have : max (r.length + sumB (x :: r)) 1 = 1 := by omega
    rw [this]; rfl
  · have h1 : (s.toList == []) = false := by simpa using h0
    have hs := size_pos_of s h0
    rw [h1]
    simp only [Bool.false_eq_true, if_false]
    rw [hd, ← hsz]
    have : max s.size 1 = s.size := by omega
    rw [this]
    by_cases hle : s.size ≤ 65535
    · have : ¬ 65535 < s.size := by omega
      cases h : (dollarB x.data.toList && p) <;> simp [hle, this]
    · have : 65535 < s.size := by omega
      simp [hle, this]

set_option maxHeartbeats 4000000 in
theorem refMeets_any (hV : ValidSaid) (f g : ByteArray) (w : World) (hf : f.size ≤ 1048576) (hg : g.size ≤ 1048576) (hT : Tabs w) :
    Calls Tryd.prog 21 #[.string f, .string g] w fun e w' => e = .returned (.bool (comB f g).isSome) ∧ Below w.heap.size w w' := by
  have CF : Hid (∀ w, Tabs w → Calls Tryd.prog 13 #[.string f] w fun e w' => e = .returned (.bool (filterB f)) ∧ Below w.heap.size w w') := fun w hT => refFilter_any hV f w (by omega) hT
  have CG : Hid (∀ w, Tabs w → Calls Tryd.prog 13 #[.string g] w fun e w' => e = .returned (.bool (filterB g)) ∧ Below w.heap.size w w') := fun w hT => refFilter_any hV g w (by omega) hT
  have CA : Hid (∀ w, Calls Tryd.prog 34 #[.string f] w fun e w' => ∃ v, e = .returned v ∧ Sl w' v (wideB f) ∧ Below w.heap.size w w') := fun w => refSpread_any f w (by omega)
  have CB : Hid (∀ w, Calls Tryd.prog 34 #[.string g] w fun e w' => ∃ v, e = .returned v ∧ Sl w' v (wideB g) ∧ Below w.heap.size w w') := fun w => refSpread_any g w (by omega)
  obtain ⟨R, hR⟩ : ∃ R, (comB f g).isSome = R := ⟨_, rfl⟩
  rw [hR]
  have HR0 : Hid (R = (comB f g).isSome) := hR.symm
  clear hR
  unfold comB at HR0
  have hl1 := wideB_len f
  have hl2 := wideB_len g
  have CM : Hid (∀ v1 v2 w, Sl w v1 (wideB f) → Sl w v2 (wideB g) → Calls Tryd.prog 36 #[v1, v2] w (ShortPost w (shortB (wideB f) (wideB g)))) := fun v1 v2 w h1 h2 => refShortest_any _ _ v1 v2 w h1 h2 (by omega) (by omega)
  have CL : Hid (∀ l, shortB (wideB f) (wideB g) = some l → (l ≠ [] ∧ l.length ≤ 4000000 ∧ ∀ x ∈ l, x.size ≤ 1048577)) := fun l hl => by
    refine ⟨?_, ?_, ?_⟩
    · obtain ⟨r, hr⟩ := wideB_cons f
      obtain ⟨q, hq⟩ := wideB_cons g
      rw [hr, hq] at hl
      exact shortB_ne (wideB_hd f) (wideB_hd g) hl
    · have := shortB_len _ _ _ hl; omega
    · intro x hx
      rcases shortB_mem _ _ _ hl x hx with (h | h) | rfl
      · have := wideB_size f x h; omega
      · have := wideB_size g x h; omega
      · show 0 ≤ _; omega
  obtain ⟨r1, hr1⟩ := wideB_cons f
  obtain ⟨r2, hr2⟩ := wideB_cons g
  have hf0 : Hid ((wideB f)[0]? = some (wideH f)) := by show _ = _; rw [hr1]; rfl
  have hn0 : Hid ((wideB g)[0]? = some (wideH g)) := by show _ = _; rw [hr2]; rfl
  have hne := wideB_ne f
  have hnen := wideB_ne g
  have hpf : (0 : Int) < ((wideB f).length : Int) := by rw [hr1]; simp
  have hpn : (0 : Int) < ((wideB g).length : Int) := by rw [hr2]; simp
  clear hr1 hr2 r1 r2
  generalize filterB f = F at *
  generalize filterB g = G at *
  generalize wideH f = hd at *
  generalize wideH g = hdn at *
  generalize wideB f = Lf at *
  generalize wideB g = Ln at *
  cases F
  · have HX : Hid (R = false) := by show _ = _; rw [HR0.out]; rfl
    clear CG CA CB CM CL
    go_enter Tryd.func21, Tryd.ntmps21
    go_wp2_with fail
    refine (CF.out _ hT).mono ?_
    rintro e w1 ⟨rfl, hb⟩
    go_wp2
    go_ret
    exact ⟨ret_bool HX.out.symm, hb⟩
  cases G
  · have HX : Hid (R = false) := by show _ = _; rw [HR0.out]; rfl
    clear CA CB CM CL
    go_enter Tryd.func21, Tryd.ntmps21
    go_wp2_with fail
    refine (CF.out _ hT).mono ?_
    rintro e w1 ⟨rfl, hb⟩
    go_wp2_with fail
    refine (CG.out _ (hT.below hb)).mono ?_
    rintro e w2 ⟨rfl, hb2⟩
    go_wp2
    go_ret
    exact ⟨ret_bool HX.out.symm, hb.trans (hb2.mono hb.size)⟩
  go_enter Tryd.func21, Tryd.ntmps21
  go_wp2_with fail
  refine (CF.out _ hT).mono ?_
  rintro e w1 ⟨rfl, hb⟩
  go_wp2_with fail
  refine (CG.out _ (hT.below hb)).mono ?_
  rintro e w2 ⟨rfl, hb2⟩
  go_wp2_with fail
  refine (CA.out _).mono ?_
  rintro e w3 ⟨v, rfl, hS, hb3⟩
  go_wp2_with fail
  refine (CB.out _).mono ?_
  rintro e w4 ⟨v4, rfl, hS4, hb4⟩
  have hS3 := hS.below hb4
  have hb5 := (hb.trans (hb2.mono hb.size))
  have hb6 := (hb5.trans (hb3.mono hb5.size))
  have hb7 := Lib.hid (hb6.trans (hb4.mono hb6.size))
  clear hb hb2 hb3 hb4 hb5 hb6 hS CF CG CA CB
  go_wp2_with fail
  refine (CM.out _ _ _ hS3 hS4).mono ?_
  rintro e w5 ⟨⟨v5, rfl, hS5⟩, hb8⟩
  cases hr : shortB Lf Ln with
  | none =>
    have HX : Hid (R = false) := by show _ = _; rw [HR0.out, hr]; rfl
    rw [hr] at hS5
    clear CM CL
    go_wp2
    go_ret
    exact ⟨ret_bool HX.out.symm, hb7.out.trans (hb8.mono hb7.out.size)⟩
  | some l =>
    obtain ⟨hlne, hll, hls⟩ := CL.out l hr
    obtain ⟨x, r, rfl⟩ : ∃ x r, l = x :: r := by cases l with | nil => exact absurd rfl hlne | cons x r => exact ⟨x, r, rfl⟩
    rw [hr] at hS5
    have HX : Hid (R = (decide (max (r.length + sumB (x :: r)) 1 ≤ 65535) && !(dollarB x.data.toList && (hd.toList == [43] || hdn.toList == [43])))) := by show _ = _; rw [HR0.out, hr]; exact fin_isSome _ x r
    have hB := hb7.out.trans (hb8.mono hb7.out.size)
    obtain ⟨p, cap, rfl, hc1, hc2, hcells⟩ := hS3.below hb8
    obtain ⟨b, o, rfl, hcell⟩ := hcells.resolve_left hne
    obtain ⟨p2, cap2, rfl, hc12, hc22, hcells2⟩ := hS4.below hb8
    obtain ⟨b2, o2, rfl, hcell2⟩ := hcells2.resolve_left hnen
    have h00 := hcell 0 _ hf0.out
    have h20 := hcell2 0 _ hn0.out
    simp only [Nat.add_zero] at h00 h20
    obtain ⟨p5, cap5, rfl, hc15, hc25, hcells5⟩ := hS5
    obtain ⟨b5, o5, rfl, hcell5⟩ := hcells5.resolve_left (by simp)
    have HC5 := Lib.hid hcell5
    have HLS := Lib.hid hls
    clear hcell hcells hcell2 hcells2 hf0 hn0 hS3 hS4 hb7 hb8 hcell5 hcells5 CM CL hr HR0 hls
    simp only [List.length_cons, Option.getD_some] at hll hc15
    go_wp2
    go_loop [9, 37] (fun n i => ∃ k m : Nat, k ≤ r.length + 1 ∧ i = .int .i64 k ∧ n = .int .i64 m ∧ m ≤ r.length + k * 1048577 ∧ Hid (m = r.length + sumB ((x :: r).take k))) (fun _ i => r.length + 1 - (intOf i).toNat)
    case atStart => exact ⟨0, r.length, Nat.zero_le _, rfl, rfl, by omega, rfl⟩
    case round =>
      obtain ⟨k, m, hk, rfl, rfl, hm, HM⟩ := hrel
      by_cases hlt : k < r.length + 1
      · obtain ⟨z, hz⟩ : ∃ z, (x :: r)[k]? = some z := ⟨_, List.getElem?_eq_getElem (by simpa using hlt)⟩
        have hck := HC5.out k z hz
        have hzs := HLS.out z (List.mem_of_getElem? hz)
        have HM2 : Hid (m + z.size = r.length + sumB ((x :: r).take (k + 1))) := by show _ = _; rw [sumB_take hz, HM.out]; omega
        have hlt' : (k : Int) < (r.length : Int) + 1 := by omega
        clear hz
        go_wp2
        go_round
        case rel => exact ⟨k + 1, m + z.size, by omega, by go_num, by go_num, by omega, HM2⟩
        case measure => simp [intOf]; omega
      · have hkk : k = r.length + 1 := by omega
        subst hkk
        have HM2 : Hid (m = r.length + sumB (x :: r)) := by show _ = _; rw [HM.out, List.take_of_length_le (by simp)]
        have h50 := HC5.out 0 x rfl
        simp only [Nat.add_zero] at h50
        clear HM HC5 HLS
        have HX2 : Hid (R = (decide (max m 1 ≤ 65535) && !(dollarB x.data.toList && (hd.toList == [43] || hdn.toList == [43])))) := by show _ = _; rw [HX.out, HM2.out]
        clear HX HM2
        by_cases hmx : max m 1 ≤ 65535
        · have hmx' : max (m : Int) 1 ≤ 65535 := by omega
          have HX3 : Hid (R = !(dollarB x.data.toList && (hd.toList == [43] || hdn.toList == [43]))) := by show _ = _; rw [HX2.out]; simp [hmx]
          clear HX2 hmx
          by_cases h3 : x.toList = []
          · rw [dollarB_empty x h3] at HX3
            go_wp2
            go_ret
            exact ⟨ret_bool HX3.out.symm, hB⟩
          · have h3' : x.toList.isEmpty = false := by simpa using h3
            have hz := size_pos_of x h3
            have h4 := (dollarB_get x hz).symm
            generalize dollarB x.data.toList = D at *
            cases D
            · go_wp2
              go_ret
              exact ⟨ret_bool HX3.out.symm, hB⟩
            · cases h1 : (hd.toList == [43])
              · cases h2 : (hdn.toList == [43])
                all_goals
                  rw [h1, h2] at HX3
                  go_wp2
                  go_ret
                  exact ⟨ret_bool HX3.out.symm, hB⟩
              · rw [h1] at HX3
                go_wp2
                go_ret
                exact ⟨ret_bool HX3.out.symm, hB⟩
        · have hmx' : ¬ max (m : Int) 1 ≤ 65535 := by omega
          have HX3 : Hid (R = false) := by show _ = _; rw [HX2.out]; simp [hmx]
          clear HX2 hmx
          by_cases h3 : x.toList = []
          · go_wp2
            go_ret
            exact ⟨ret_bool HX3.out.symm, hB⟩
          · have h3' : x.toList.isEmpty = false := by simpa using h3
            have hz := size_pos_of x h3
            have h4 := (dollarB_get x hz).symm
            generalize dollarB x.data.toList = D at *
            cases D
            all_goals
              go_wp2
              go_ret
              exact ⟨ret_bool HX3.out.symm, hB⟩
end Go.Proofs.YtfkbnemhkkbjgaaDoor
