/- THE PROGRAM's Match. SHARE: Send, in plain Lean, and what its loops keep. -/
import Derived.Test.YtincmegllckcjaaGreatDoorTopicFilter
import Derived.Sort.KeysCollected
import Derived.Test.YtincmegllckcjaaGreatDoorShareHLeave
import Derived.Test.YtincmegllckcjaaGreatDoorMTrieWalk
import Derived.Test.YtincmegllckcjaaGreatDoorMFlat
import Derived.Test.YtincmegllckcjaaGreatDoorTopicShelf
namespace Go.Proofs.YtincmegllckcjaaGreatDoor
section
open Go Go.RowKit

/-- strings.HasPrefix(s, "$") -/
def DollarSaid : Prop := ∀ (s : ByteArray) (w : World),
  Calls Tryz.prog 72 #[.string s, .string ⟨#[36]⟩] w fun e w' => e = .returned (.bool (dollarB s.data.toList)) ∧ w = w'

set_option maxHeartbeats 400000 in
theorem hidden_any (hD : DollarSaid) (x : ByteArray) (w : World) :
    Calls Tryz.prog 41 #[.string x] w fun e w' => e = .returned (.bool (dollarB x.data.toList)) ∧ w = w' := by
  have CD := Lib.hid (hD x)
  generalize dollarB x.data.toList = d at *
  go_enter Tryz.func41, Tryz.ntmps41
  go_wp2_with (go_at_call 72; refine (CD.out _).mono ?_; rintro e w' ⟨rfl, rfl⟩)
  go_ret
  exact ⟨rfl, rfl⟩

set_option maxHeartbeats 400000 in
theorem wild_any (x : ByteArray) (w : World) :
    Calls Tryz.prog 40 #[.string x] w fun e w' => e = .returned (.bool (wildB x)) ∧ w = w' := by
  unfold wildB
  cases h1 : (x.toList == [43])
  · cases h2 : (x.toList == [35])
    all_goals
      go_enter Tryz.func40, Tryz.ntmps40
      go_wp2
      go_ret
      exact ⟨rfl, rfl⟩
  · go_enter Tryz.func40, Tryz.ntmps40
    go_wp2
    go_ret
    exact ⟨rfl, rfl⟩

theorem drop_at {l : List ByteArray} {k : Nat} {x : ByteArray} (hx : l[k]? = some x) : l.drop k = x :: l.drop (k + 1) := by
  obtain ⟨hk, rfl⟩ := List.getElem?_eq_some_iff.1 hx
  rw [List.drop_eq_getElem_cons hk]

theorem dollar_head (s : ByteArray) : dollarB (headS s).data.toList = dollarB s.data.toList := by
  unfold headS levels
  cases h : s.data.toList with
  | nil => simp [splitS, dollarB, ba]
  | cons c l =>
    unfold splitS
    by_cases hc : c = 47
    · subst hc; simp [dollarB, ba]
    · have hc' : (c == 47) = false := by simpa using hc
      rw [hc']
      simp only [Bool.false_eq_true, if_false]
      split <;> simp [dollarB, ba]

set_option maxHeartbeats 2000000 in
theorem topicMatch_any (hI : IndexByteSaid) (hV : ValidSaid) (hC : ContainsSaid) (hD : DollarSaid) (f n : ByteArray) (w : World) (hf : f.size ≤ 1048576) (hn : n.size ≤ 1048576) (hT : Tabs w) :
    Calls Tryz.prog 16 #[.string f, .string n] w fun e w' => e = .returned (.bool (matchB f n)) ∧ Below w.heap.size w w' := by
  have cF := filter_any hI hV hC f w hf hT
  have CN : Hid (∀ w, Tabs w → Calls Tryz.prog 27 #[.string n] w fun e w' => e = .returned (.bool (nameB n.data.toList)) ∧ Below w.heap.size w w') := fun w hT => name_any hI hV hC n w hn hT
  have HDn := Lib.hid (dollar_head n)
  unfold matchB
  generalize filterB f = F at *
  generalize nameB n.data.toList = N at *
  generalize dollarB n.data.toList = D at *
  cases F
  · clear HDn CN
    go_enter Tryz.func16, Tryz.ntmps16
    go_wp2_with (go_at_call 38; refine cF.mono ?_; rintro e w' ⟨rfl, hb⟩)
    go_ret
    exact ⟨rfl, hb⟩
  cases N
  · clear HDn
    go_enter Tryz.func16, Tryz.ntmps16
    go_wp2_with (first | (go_at_call 38; refine cF.mono ?_; rintro e w' ⟨rfl, hb⟩) | (go_at_call 27; refine (CN.out _ (hT.below hb)).mono ?_; rintro e w2 ⟨rfl, hb2⟩))
    go_ret
    exact ⟨rfl, hb.trans (hb2.mono hb.size)⟩
  · have HL : Hid (headS f = (levels f).headD ByteArray.empty) := rfl
    have HLn : Hid (headS n = (levels n).headD ByteArray.empty) := rfl
    have hne := levels_ne f
    have hnen := levels_ne n
    have hll := levels_len f
    have hlln := levels_len n
    have CLf : Hid (∀ w, Calls Tryz.prog 39 #[.string f] w fun e w' => ∃ v, e = .returned v ∧ Sl w' v (levels f) ∧ Below w.heap.size w w') := fun w => (levels_any hI f w hf).mono fun e w1 ⟨v, h1, h2, h3⟩ => ⟨v, h1, h2.1, h3⟩
    have CLn : Hid (∀ w, Calls Tryz.prog 39 #[.string n] w fun e w' => ∃ v, e = .returned v ∧ Sl w' v (levels n) ∧ Below w.heap.size w w') := fun w => (levels_any hI n w hn).mono fun e w1 ⟨v, h1, h2, h3⟩ => ⟨v, h1, h2.1, h3⟩
    generalize headS f = hd at *
    generalize headS n = hdn at *
    generalize levels f = Lf at *
    generalize levels n = Ln at *
    obtain ⟨x, r, hLf⟩ : ∃ x r, Lf = x :: r := by cases Lf with | nil => exact absurd rfl hne | cons x r => exact ⟨x, r, rfl⟩
    obtain ⟨y, q, hLn⟩ : ∃ x r, Ln = x :: r := by cases Ln with | nil => exact absurd rfl hnen | cons x r => exact ⟨x, r, rfl⟩
    obtain rfl : hd = x := by have := HL.out; rw [hLf] at this; exact this
    obtain rfl : hdn = y := by have := HLn.out; rw [hLn] at this; exact this
    have hf0 : Hid (Lf[0]? = some hd) := by rw [hLf]; rfl
    have hn0 : Hid (Ln[0]? = some hdn) := by rw [hLn]; rfl
    have hpf : 0 < Lf.length := by rw [hLf]; simp
    have hpn : 0 < Ln.length := by rw [hLn]; simp
    clear HL HLn hLf hLn
    have CW : Hid (∀ w, Calls Tryz.prog 40 #[.string hd] w fun e w' => e = .returned (.bool (wildB hd)) ∧ w = w') := fun w => wild_any hd w
    have CH : Hid (∀ w, Calls Tryz.prog 41 #[.string hdn] w fun e w' => e = .returned (.bool D) ∧ w = w') := fun w => by rw [← HDn.out]; exact hidden_any hD hdn w
    clear HDn
    generalize wildB hd = W at *
    have hpf' : (0 : Int) < (Lf.length : Int) := by omega
    have hpn' : (0 : Int) < (Ln.length : Int) := by omega
    by_cases hWD : W = true ∧ D = true
    · obtain ⟨rfl, rfl⟩ := hWD
      go_enter Tryz.func16, Tryz.ntmps16
      go_wp2_with (first | (go_at_call 38; refine cF.mono ?_; rintro e w' ⟨rfl, hb⟩) | (go_at_call 27; refine (CN.out _ (hT.below hb)).mono ?_; rintro e w2 ⟨rfl, hb2⟩) | fail)
      have hb3 := hb.trans (hb2.mono hb.size)
      clear hb hb2 CN cF
      refine (CLf.out _).mono ?_
      rintro e w3 ⟨v, rfl, hS, hb4⟩
      go_wp2_with fail
      refine (CLn.out _).mono ?_
      rintro e w5 ⟨v5, rfl, hS5, hb6⟩
      have hS4 := hS.below hb6
      have hb5 := hb3.trans (hb4.mono hb3.size)
      have hb7 := hb5.trans (hb6.mono hb5.size)
      clear hb3 hb4 hb5 hb6 hS CLf CLn
      obtain ⟨p, cap, rfl, hc1, hc2, hcells⟩ := hS4
      obtain ⟨b, o, rfl, hcell⟩ := hcells.resolve_left hne
      obtain ⟨p2, cap2, rfl, hc12, hc22, hcells2⟩ := hS5
      obtain ⟨b2, o2, rfl, hcell2⟩ := hcells2.resolve_left hnen
      have h00 := hcell 0 _ hf0.out
      have h20 := hcell2 0 _ hn0.out
      simp only [Nat.add_zero] at h00 h20
      have HC := Lib.hid hcell
      have HC2 := Lib.hid hcell2
      clear hcell hcells hcell2 hcells2 hf0 hn0
      go_wp2_with (first | (go_at_call 40; refine (CW.out _).mono ?_; rintro e w8 ⟨rfl, rfl⟩) | (go_at_call 41; refine (CH.out _).mono ?_; rintro e w8 ⟨rfl, rfl⟩))
      go_ret
      exact ⟨rfl, hb7⟩
    · rw [show (true && (true && (!(W && D) && agreeB Lf Ln))) = agreeB Lf Ln by cases W <;> cases D <;> simp_all]
      have hc : W = false ∨ (W = true ∧ D = false) := by cases W <;> cases D <;> simp_all
      clear hWD
      rcases hc with rfl | ⟨rfl, rfl⟩
      all_goals
        go_enter Tryz.func16, Tryz.ntmps16
        go_wp2_with (first | (go_at_call 38; refine cF.mono ?_; rintro e w' ⟨rfl, hb⟩) | (go_at_call 27; refine (CN.out _ (hT.below hb)).mono ?_; rintro e w2 ⟨rfl, hb2⟩) | fail)
        have hb3 := hb.trans (hb2.mono hb.size)
        clear hb hb2 CN cF
        refine (CLf.out _).mono ?_
        rintro e w3 ⟨v, rfl, hS, hb4⟩
        go_wp2_with fail
        refine (CLn.out _).mono ?_
        rintro e w5 ⟨v5, rfl, hS5, hb6⟩
        have hS4 := hS.below hb6
        have hb5 := hb3.trans (hb4.mono hb3.size)
        have hb7 := hb5.trans (hb6.mono hb5.size)
        clear hb3 hb4 hb5 hb6 hS CLf CLn
        obtain ⟨p, cap, rfl, hc1, hc2, hcells⟩ := hS4
        obtain ⟨b, o, rfl, hcell⟩ := hcells.resolve_left hne
        obtain ⟨p2, cap2, rfl, hc12, hc22, hcells2⟩ := hS5
        obtain ⟨b2, o2, rfl, hcell2⟩ := hcells2.resolve_left hnen
        have h00 := hcell 0 _ hf0.out
        have h20 := hcell2 0 _ hn0.out
        simp only [Nat.add_zero] at h00 h20
        have HC := Lib.hid hcell
        have HC2 := Lib.hid hcell2
        clear hcell hcells hcell2 hcells2 hf0 hn0
        go_wp2_with (first | (go_at_call 40; refine (CW.out _).mono ?_; rintro e w8 ⟨rfl, rfl⟩) | (go_at_call 41; refine (CH.out _).mono ?_; rintro e w8 ⟨rfl, rfl⟩))
        clear h00 h20
        go_loop [33] (fun i => ∃ k : Nat, k ≤ Lf.length ∧ k ≤ Ln.length ∧ i = .int .i64 k ∧ Hid (agreeB Lf Ln = agreeB (Lf.drop k) (Ln.drop k))) (fun i => Lf.length - (intOf i).toNat)
        case atStart => exact ⟨0, Nat.zero_le _, Nat.zero_le _, rfl, rfl⟩
        case round =>
          obtain ⟨k, hk, hkn, rfl, HA⟩ := hrel
          by_cases hlt : k < Lf.length
          · obtain ⟨x, hx⟩ : ∃ x, Lf[k]? = some x := ⟨_, List.getElem?_eq_getElem hlt⟩
            have hck := HC.out k x hx
            have HD1 := Lib.hid (drop_at hx)
            clear hx
            by_cases h1 : (x.toList == [35]) = true
            · have HF := Lib.hid (show agreeB Lf Ln = true by rw [HA.out, HD1.out, agreeB_hash _ _ _ h1])
              clear HA HD1
              go_wp2
              go_ret
              exact ⟨ret_bool HF.out.symm, hb7⟩
            · simp only [Bool.not_eq_true] at h1
              by_cases hlt2 : k < Ln.length
              · obtain ⟨y, hy⟩ : ∃ y, Ln[k]? = some y := ⟨_, List.getElem?_eq_getElem hlt2⟩
                have hck2 := HC2.out k y hy
                have HA2 := Lib.hid (show agreeB Lf Ln = ((x.toList == [43] || x.toList == y.toList) && agreeB (Lf.drop (k + 1)) (Ln.drop (k + 1))) by rw [HA.out, HD1.out, drop_at hy, agreeB_cons _ _ _ _ h1])
                clear HA HD1 hy
                have hge : ¬ ((Ln.length : Int) ≤ (k : Int)) := by omega
                by_cases h2 : (x.toList == [43]) = true
                · have h2' := neSf h2
                  have HF := Lib.hid (show agreeB Lf Ln = agreeB (Lf.drop (k + 1)) (Ln.drop (k + 1)) by rw [HA2.out, h2]; simp)
                  clear HA2
                  go_wp2
                  go_round
                  case rel => exact ⟨k + 1, by omega, by omega, by go_num, HF⟩
                  case measure => simp [intOf]; omega
                · simp only [Bool.not_eq_true] at h2
                  have h2' := neS h2
                  by_cases h3 : (x.toList == y.toList) = true
                  · have h3' := neSf h3
                    have HF := Lib.hid (show agreeB Lf Ln = agreeB (Lf.drop (k + 1)) (Ln.drop (k + 1)) by rw [HA2.out, h3]; simp)
                    clear HA2
                    go_wp2
                    go_round
                    case rel => exact ⟨k + 1, by omega, by omega, by go_num, HF⟩
                    case measure => simp [intOf]; omega
                  · simp only [Bool.not_eq_true] at h3
                    have h3' := neS h3
                    have HF := Lib.hid (show agreeB Lf Ln = false by rw [HA2.out, h2, h3]; rfl)
                    clear HA2
                    go_wp2
                    go_ret
                    exact ⟨ret_bool HF.out.symm, hb7⟩
              · have hge : ((Ln.length : Int) ≤ (k : Int)) := by omega
                have HF := Lib.hid (show agreeB Lf Ln = false by rw [HA.out, HD1.out, List.drop_of_length_le (l := Ln) (by omega), agreeB_none _ _ h1])
                clear HA HD1
                go_wp2
                go_ret
                exact ⟨ret_bool HF.out.symm, hb7⟩
          · obtain rfl : k = Lf.length := by omega
            have HF := Lib.hid (show agreeB Lf Ln = ((Lf.length : Int) == (Ln.length : Int)) by
              rw [HA.out, List.drop_length, agreeB_nil, List.length_drop, Bool.eq_iff_iff]; simp; omega)
            clear HA
            go_wp2
            go_ret
            exact ⟨ret_bool HF.out.symm, hb7⟩
end
section
open Go Go.RowKit

theorem dollar_said : DollarSaid := fun s w => by
  have := Any.strings_HasPrefix Tryz.laysn99 s ⟨#[36]⟩ w
  have e : Lib.hasPrefix s.data.toList (⟨#[36]⟩ : ByteArray).data.toList = dollarB s.data.toList := by
    cases h : s.data.toList with
    | nil => simp [Lib.hasPrefix, dollarB]
    | cons c l =>
      simp only [Lib.hasPrefix, dollarB]
      rw [Bool.eq_iff_iff]
      simp
      constructor
      · rintro rfl; rfl
      · intro h2; exact UInt8.toNat_inj.1 (by simp; omega)
  rw [e] at this
  exact this.mono fun _ _ ⟨h1, h2⟩ => ⟨h1, h2.symm⟩
/-- one group's turn -/
def sendOne (s : ByteArray) (r : List AG × List Int) (k : ByteArray) : List AG × List Int := match findA r.1 k with
  | some a => if matchB a.fil s = true then (setA r.1 k { a with tn := nextI a.ids.length a.tn }, r.2 ++ [a.ids.getD a.tn 0]) else r
  | none => r
def keysA (G : List AG) : List ByteArray := sortS (G.map (·.key))
/-- what Send answers, and leaves -/
structure SendA (st : HSt) (s : ByteArray) (ids0 out : List Int) (st' : HSt) : Prop where
  rise : ids0.Pairwise (· < ·)
  mem : ∀ z, z ∈ ids0 ↔ heardBy st.1 s z
  eq : (st'.2, out) = if nameB s.data.toList = true then (keysA st.2).foldl (sendOne s) (st.2, ids0) else (st.2, ids0)
  subs : st'.1 = st.1
/-- the keys that the range has met -/
structure KRg (A1 wr : World) (H : Hb) (r : Nat) (left : Lit → Bool) (cnt : Nat) (v : Value) (ss : List ByteArray) : Prop where
  rg : wr.ranges Tryz.prog 9 ptrR H.gm r H.gn H.GD left cnt
  row : SRow wr (r + 1) v ss
  col : Collected H.GD left (lists ss)
  bel : Below A1.heap.size A1 wr
  low : A1.heap.size ≤ r
theorem lists_snoc (ss : List ByteArray) (x : ByteArray) : lists (ss ++ [x]) = lists ss ++ [x.data.toList] := by unfold lists; simp
theorem has_kid {W : World} {b n : Nat} {D : DataW Unit} (h : W.ownsMap Tryz.prog 9 ptrR b n D) {s : ByteArray} (hs : s.size ≤ maxLen) : Maps.has D (.string s.data.toList) = true ↔ ∃ c, kid D s = some c := by
  obtain ⟨es, clock, hb, F, _, hD⟩ := h
  rw [hD]
  rcases Maps.fit_look (w := W) (z := .pointer none) false string_keys Tryz.underlying59 (by kernel_rfl) hb F (WideMaps.keyOf_string_mk Tryz.underlying9 (s := s) hs) with ⟨hrun, _, hat⟩ | ⟨e0, y, _, _, hrun, hRv, hat, _⟩
  · rw [kid_none (hat noD), Maps.has_false_of_atKey hat]
    constructor
    · intro e; cases e
    · rintro ⟨c, e⟩; cases e
  · obtain ⟨c, hv, rfl⟩ := ptrR_inv hRv
    rw [kid_some (hat noD), Maps.has_true_of_atKey hat]
    exact ⟨fun _ => ⟨c, rfl⟩, fun _ => rfl⟩
theorem keys_nodup {gs : List KG} (h : (gs.map (·.key)).Nodup) : (lists (gs.map (·.key))).Nodup := by
  unfold lists
  exact List.pairwise_map.2 (h.imp fun hne e => hne (bytes_inj e))
theorem keys_done {W A1 wr : World} {base r cnt : Nat} {H : Hb} {left : Lit → Bool} {v : Value} {ss : List ByteArray} (h : HubG W base H) (hk : KRg A1 wr H r left cnt v ss) (hl : ∀ kl, left kl = false) : sortS ss = keysA (absG H) ∧ ss.length = H.gs.length := by
  have hp := hk.col.perm h.gmap string_keys Tryz.underlying9 hl
  have hle := strKeys_le h.gmap Tryz.underlying9
  have hp2 : (lists ss).Perm (lists (H.gs.map (·.key))) := by
    refine (List.perm_ext_iff_of_nodup hk.col.1 (keys_nodup h.keys)).2 fun x => ?_
    have e1 : x ∈ lists ss ↔ Maps.has H.GD (.string x) = true := by
      rw [hk.col.2 x, hl]
      exact ⟨fun h => h.1, fun h => ⟨h, rfl⟩⟩
    constructor
    · intro hx
      have hsz : (ByteArray.mk x.toArray).size ≤ maxLen := hle x (hp.subset hx)
      have h1 := e1.1 hx
      have e2 : x = (ByteArray.mk x.toArray).data.toList := by simp
      rw [e2] at h1
      obtain ⟨c, hc⟩ := (has_kid h.gmap hsz).1 h1
      obtain ⟨y, hy, hyk, -⟩ := (h.gby _ c).1 hc
      unfold lists
      rw [List.map_map]
      exact List.mem_map.2 ⟨y, hy, by show y.key.data.toList = x; rw [hyk]⟩
    · intro hx
      unfold lists at hx
      rw [List.map_map] at hx
      obtain ⟨y, hy, rfl⟩ := List.mem_map.1 hx
      refine e1.2 ((has_kid h.gmap (s := y.key) ?_).2 ⟨_, (h.gby y.key y.g.gb).2 ⟨y, hy, rfl, rfl⟩⟩)
      have := (h.each y hy).2.2.2.1
      unfold maxLen; omega
  refine ⟨?_, ?_⟩
  · unfold keysA sortS
    have e : (absG H).map (·.key) = H.gs.map (·.key) := by unfold absG; rw [List.map_map]; rfl
    rw [e]
    exact congrArg _ (mergeSort_of_perm hp2)
  · have := hp2.length_eq
    unfold lists at this
    simpa using this
theorem HubG.met {W : World} {base : Nat} {H : Hb} (h : HubG W base H) {x : List UInt8} (hx : Maps.has H.GD (.string x) = true) : x ∈ lists (H.gs.map (·.key)) := by
  obtain ⟨es, hD, hko⟩ := h.gmap.keysOf
  have hsz : (ByteArray.mk x.toArray).size ≤ maxLen := by
    rw [hD, Maps.has_eq, List.any_eq_true] at hx
    obtain ⟨p, hp, e⟩ := hx
    obtain ⟨v, hv⟩ := hko p hp
    obtain ⟨y, -, h1, h2⟩ := Maps.keyOf_str Tryz.underlying9 hv
    rw [h1] at e
    have e : y = x := by first | (simpa [Lit.sameKey] using e) | (symm; simpa [Lit.sameKey] using e)
    subst e
    exact h2
  have e2 : x = (ByteArray.mk x.toArray).data.toList := by simp
  rw [e2] at hx
  obtain ⟨c, hc⟩ := (has_kid h.gmap hsz).1 hx
  obtain ⟨y, hy, hyk, -⟩ := (h.gby _ c).1 hc
  unfold lists
  rw [List.map_map]
  exact List.mem_map.2 ⟨y, hy, by show y.key.data.toList = x; rw [hyk]⟩
theorem Below.of_grown_none {W W' : World} (h : W.grownBy W' none) : Below W.heap.size W W' := ⟨h.os, h.tape, h.output, h.size, fun b hb => h.block b hb (fun e => by cases e)⟩
theorem SRow.some_ptr {W : World} {base : Nat} {q : Option Addr} {n c : Nat} {ss : List ByteArray} (h : SRow W base (.slice q n c) ss) (h0 : 0 < ss.length) : ∃ g : Nat, q = some ⟨g, 0, none⟩ := by
  rcases h.2 with ⟨h1, h2⟩ | ⟨g, cap, cur, e, -⟩
  · omega
  · injection e with e; exact ⟨g, e⟩
theorem SRow.cell {W : World} {base g c i : Nat} {k : ByteArray} {ss : List ByteArray} (h : SRow W base (.slice (some ⟨g, 0, none⟩) ss.length c) ss) (hk : ss[i]? = some k) : W.cell? ⟨g, i, none⟩ = some (.string k) := by
  rw [World.ownsRow.cellAt h i (by have := (List.getElem?_eq_some_iff.1 hk).1; omega), List.getElem?_map, hk]
  rfl
/-- the groups' round -/
structure SndR (w : World) (base : Nat) (H : Hb) (s : ByteArray) (kv : Value) (K : List ByteArray) (ids0 : List Int) (i : Nat) (gs : List KG) (v : Value) (out : List Int) (wr : World) : Prop where
  is : HubG wr base { H with gs := gs }
  fold : (gs.map KG.ag, out) = (K.take i).foldl (sendOne s) (absG H, ids0)
  row : IRow wr w.heap.size v out
  keys : SRow wr w.heap.size kv K
  fr : Frame (FHub H) w wr
  blk : ∀ y ∈ gs, ∀ b ∈ y.g.blocks, ∃ x ∈ H.gs, b ∈ x.g.blocks
  len : out.length ≤ ids0.length + i
  ky : gs.map (·.key) = H.gs.map (·.key)
theorem rows_apart {W : World} {base base' : Nat} {v kv : Value} {out : List Int} {K : List ByteArray} (h : IRow W base v out) (k : SRow W base' kv K) : ∀ b, kv.ownBlock = some b → v.ownBlock ≠ some b := fun b hb e => by
  rcases h.form with ⟨rfl, -⟩ | ⟨g, cap, cur, rfl, -, -, hg, -⟩
  · cases e
  · injection e with e
    subst e
    rcases k.2 with ⟨rfl, -⟩ | ⟨g2, cap2, cur2, rfl, -, hg2, -⟩
    · cases hb
    · injection hb with hb
      subst hb
      rw [hg] at hg2
      injection hg2 with hg2
      injection hg2 with _ h2
      exact absurd h2 (by decide)
theorem fold_snoc {s : ByteArray} {K : List ByteArray} {i : Nat} {k : ByteArray} (hk : K[i]? = some k) (r : List AG × List Int) : (K.take (i + 1)).foldl (sendOne s) r = sendOne s ((K.take i).foldl (sendOne s) r) k := by
  rw [List.take_add_one, hk, List.foldl_append]
  rfl
section
variable {w wr : World} {base : Nat} {H : Hb} {s : ByteArray} {kv v : Value} {K : List ByteArray} {ids0 out : List Int} {i : Nat} {gs : List KG}
theorem SndR.below (h : SndR w base H s kv K ids0 i gs v out wr) {w' : World} (hb : Below wr.heap.size wr w') : SndR w base H s kv K ids0 i gs v out w' :=
  ⟨h.is.below hb, h.fold, row_of_heap h.row fun b e => hb.block b (h.row.lt b e).2, h.keys.of_heap fun b e => hb.block b (h.keys.lt b e).2, h.fr.trans ⟨hb.os, hb.tape, hb.output, hb.size, fun b hb' _ => hb.block b hb'⟩, h.blk, h.len, h.ky⟩
theorem SndR.skip (h : SndR w base H s kv K ids0 i gs v out wr) {x : KG} (hx : x ∈ gs) (hk : K[i]? = some x.key) (hm : matchB x.g.fil s = false) : SndR w base H s kv K ids0 (i + 1) gs v out wr := by
  refine ⟨h.is, ?_, h.row, h.keys, h.fr, h.blk, by have := h.len; omega, h.ky⟩
  rw [fold_snoc hk, ← h.fold]
  unfold sendOne
  simp only
  rw [find_some h.is.keys hx]
  simp only
  rw [if_neg (by rw [show x.ag.fil = x.g.fil from rfl, hm]; simp)]
theorem SndR.at_key (h : SndR w base H s kv K ids0 i gs v out wr) (hK : keysA (absG H) = K) {k : ByteArray} {j : Nat} (hk : K[j]? = some k) : ∃ x ∈ gs, x.key = k := by
  have h1 : k ∈ keysA (absG H) := by rw [hK]; exact List.mem_of_getElem? hk
  unfold keysA at h1
  rw [mem_sortS] at h1
  have e : (absG H).map (·.key) = gs.map (·.key) := by rw [h.ky]; unfold absG; rw [List.map_map]; rfl
  rw [e] at h1
  obtain ⟨x, hx, e⟩ := List.mem_map.1 h1
  exact ⟨x, hx, e⟩
theorem SndR.fhub (h : SndR w base H s kv K ids0 i gs v out wr) (hw : HubG w base H) {b : Nat} (hb : b = H.hb ∨ FHub { H with gs := gs } b) : b < w.heap.size := by
  rcases hb with rfl | hb | hb | hb | ⟨y, hy, hb⟩
  · exact hw.hlt
  · exact (hw.lt (.inl hb)).2
  · exact (hw.lt (.inr (.inl hb))).2
  · exact (hw.lt (.inr (.inr (.inl hb)))).2
  · obtain ⟨x, hx, hb⟩ := h.blk y hy b hb
    exact (hw.lt (.inr (.inr (.inr ⟨x, hx, hb⟩)))).2
theorem SndR.grown (h : SndR w base H s kv K ids0 i gs v out wr) (hw : HubG w base H) {w4 : World} (hg : wr.grownBy w4 v.ownBlock) : HubG w4 base { H with gs := gs } := h.is.kept fun b hb => by
  have h1 := h.fhub hw hb
  have h2 := h.fr.size
  exact hg.block b (by omega) (fun e => by have := (h.row.lt b e.symm).1; omega)
theorem SndR.turn (h : SndR w base H s kv K ids0 i gs v out wr) (hw : HubG w base H) {x : KG} (hx : x ∈ gs) (hk : K[i]? = some x.key) (hm : matchB x.g.fil s = true) {w4 : World} {v2 : Value} {id : Int} {c : Nat} (hg : wr.grownBy w4 v.ownBlock) (hrow : IRow w4 w.heap.size v2 (out ++ [id]))
    (hid : x.g.ids[x.g.tn]? = some id) (hc : x.g.ms[nextI x.g.ms.length x.g.tn]? = some c) : SndR w base H s kv K ids0 (i + 1) (setG gs x.key { x.g with tn := nextI x.g.ms.length x.g.tn }) v2 (out ++ [id]) (w4.setCell ⟨x.g.gb, 3, none⟩ (ptr c)) := by
  have h4 := h.grown hw hg
  obtain ⟨hgi, hne, htn, -, -⟩ := h4.each x hx
  have hlen := hgi.len
  have hgb : x.g.gb < w.heap.size := h.fhub hw (.inr (.inr (.inr (.inr ⟨x, hx, List.mem_cons_self ..⟩))))
  have hto : GrpTo w4 base x.g (w4.setCell ⟨x.g.gb, 3, none⟩ (ptr c)) { x.g with tn := nextI x.g.ms.length x.g.tn } := ⟨hgi.turned hc, rfl, rfl, frame_set w4 x.g.gb 3 _ (List.mem_cons_self ..), fun b hb => .inl hb⟩
  have hset : ∀ b, w.heap.size ≤ b → (w4.setCell ⟨x.g.gb, 3, none⟩ (ptr c)).heap[b]? = w4.heap[b]? := fun b hb => Below.heap_setCell _ _ _ _ (by show b ≠ x.g.gb; omega)
  refine ⟨h4.group hx hto hne (by show nextI _ _ < x.g.ids.length; unfold nextI; split <;> omega), ?_, row_of_heap hrow fun b e => hset b (hrow.lt b e).1, (h.keys.of_heap fun b e => ?_).of_heap fun b e => hset b (h.keys.lt b e).1, ?_, fun y hy b hb => ?_, by rw [List.length_append]; have := h.len; simp; omega, by rw [setG_keys]; exact h.ky⟩
  · rw [fold_snoc hk, ← h.fold]
    unfold sendOne
    simp only
    rw [find_some h.is.keys hx]
    simp only
    rw [if_pos (show matchB x.ag.fil s = true from hm), abs_setG]
    refine Prod.ext ?_ ?_
    · show setA _ _ _ = setA _ _ _
      unfold KG.ag
      simp only [hlen]
    · show out ++ [id] = out ++ [x.g.ids.getD x.g.tn 0]
      rw [List.getD_eq_getElem?_getD, hid]
      rfl
  · exact hg.block b (h.keys.lt b e).2 (rows_apart h.row h.keys b e ·.symm)
  · refine h.fr.trans ⟨hg.os, hg.tape, hg.output, by simpa using hg.size, fun b hb hF => ?_⟩
    rw [Below.heap_setCell _ _ _ _ (fun e => hF (.inl ?_))]
    · exact hg.block b hb (fun e => hF (.inr (h.row.lt b e.symm).1))
    · have e : b = x.g.gb := e
      obtain ⟨z, hz, hb⟩ := h.blk x hx x.g.gb (List.mem_cons_self ..)
      rw [e]
      exact .inr (.inr (.inr ⟨z, hz, hb⟩))
  · rcases mem_setG hy with ⟨rfl, -⟩ | ⟨hy, -⟩
    · exact h.blk x hx b hb
    · exact h.blk y hy b hb
end
end
end Go.Proofs.YtincmegllckcjaaGreatDoor
