/- TRIE: the reference's list: Match. SHARE: what a subscription's text is: a group's name and a filter. -/
import Derived.Test.YtincmegllckcjaaGreatDoorMTrieRefR
import Derived.Test.YtincmegllckcjaaGreatDoorShareShelf
import Derived.Deep.QuietTactic
import Derived.BigQuiet
import Derived.IntWalk
import Derived.Laws.DeepStrings4
namespace Go.Proofs.YtincmegllckcjaaGreatDoor
section
open Go Go.RowKit
attribute [local go_sem ↓] Go.wp_at_zero Go.wp_at_succ

theorem RL.at_ {W : World} {base rb n c : Nat} {x1 x2 : Value} {q : Option Addr} {l : Subs} (h : RL W base rb x1 x2 (.slice q n c) l) {i : Nat} {x : ByteArray × Int} (hx : l[i]? = some x) : ∃ g, q = some ⟨g, 0, none⟩ ∧ W.cell? ⟨g, i * 2, none⟩ = some (.string x.1) ∧ W.cell? ⟨g, i * 2 + 1, none⟩ = some (.int .i64 x.2) := by
  have hlt := (List.getElem?_eq_some_iff.1 hx).1
  rcases h.row.2 with ⟨h1, h2⟩ | ⟨g, cap, cur, h1, -⟩
  · omega
  · injection h1 with h1 h2 h3
    subst h1; subst h2; subst h3
    obtain ⟨g1, g2⟩ := subCells_get l i x hx
    have hg1 := h.row.cellAt (i * 2) (by omega)
    have hg2 := h.row.cellAt (i * 2 + 1) (by omega)
    rw [g1] at hg1
    rw [g2] at hg2
    exact ⟨g, rfl, hg1, hg2⟩
theorem RL.form {W : World} {base rb : Nat} {x1 x2 v : Value} {l : Subs} (h : RL W base rb x1 x2 v l) : ∃ q c, v = .slice q l.length c := (Fl.of_own h.row).form
theorem RL.cell0 {W : World} {base rb : Nat} {x1 x2 v : Value} {l : Subs} (h : RL W base rb x1 x2 v l) : W.cell? ⟨rb, 0, none⟩ = some v := by rw [cell_of_row W rb 0 _ _ _ h.box]; rfl
theorem take_snoc_mem {α : Type} {l : List α} {i : Nat} {x : α} (hx : l[i]? = some x) (y : α) : y ∈ l.take (i + 1) ↔ y ∈ l.take i ∨ y = x := by
  rw [List.take_add_one, hx, Option.toList_some, List.mem_append, List.mem_singleton]
set_option maxRecDepth 100000 in
set_option maxHeartbeats 8000000 in
theorem refListMatch_any (w : World) (base rb : Nat) (x1 x2 v : Value) (l : Subs) (f : ByteArray) (h : RL w base rb x1 x2 v l) (hl : l.length ≤ 100000000) (hT : Tabs w) (hfs : f.size ≤ 1048576) (hsz : ∀ x ∈ l, x.1.size ≤ 1048576) :
    Calls Tryz.prog 81 #[.pointer (some ⟨rb, 0, none⟩), .string f] w fun e w' => (∃ v' ids, e = .returned v' ∧ IS w' v' ids ∧ ids.Pairwise (fun a b : Int => a < b) ∧ ids.length ≤ l.length ∧ ∀ z, z ∈ ids ↔ ∃ f', (f', z) ∈ l ∧ matchB f' f = true) ∧ Below w.heap.size w w' := by
  obtain ⟨PP, hPP⟩ : ∃ PP : Ending → World → Prop, (fun e w' => (∃ v' ids, e = .returned v' ∧ IS w' v' ids ∧ ids.Pairwise (fun a b : Int => a < b) ∧ ids.length ≤ l.length ∧ ∀ z, z ∈ ids ↔ ∃ f', (f', z) ∈ l ∧ matchB f' f = true) ∧ Below w.heap.size w w') = PP := ⟨_, rfl⟩
  rw [hPP]
  have HPP := Lib.hid hPP
  have HR := Lib.hid h
  obtain ⟨q, c, rfl⟩ := h.form
  have c0 := h.cell0
  have hb := World.block_lt_of_cell? w _ c0
  have HSZ : Hid (∀ {i : Nat} (x : ByteArray × Int), l[i]? = some x → x.1.size ≤ 1048576) := fun x hx => hsz x (List.mem_of_getElem? hx)
  clear hsz
  clear hPP h
  go_enter Tryz.func81, Tryz.ntmps81
  go_wp2_with fail
  go_loopw [5, 6] (fun so si wr => ∃ (i : Nat) (q2 : Option Addr) (c2 : Nat) (ids : List Int), so = .slice q2 ids.length c2 ∧ si = .int .i64 (i : Nat) ∧ i ≤ l.length ∧ Hid (IS wr (.slice q2 ids.length c2) ids) ∧ Hid (ids.Pairwise (fun a b : Int => a < b)) ∧ Hid (∀ z, z ∈ ids ↔ ∃ f', (f', z) ∈ l.take i ∧ matchB f' f = true) ∧ ids.length ≤ i ∧ Hid (Below w.heap.size w wr)) (fun _ si _ => l.length - (intOf si).toNat)
  case atStart => exact ⟨0, none, 0, [], rfl, rfl, Nat.zero_le _, ⟨none, 0, rfl, Nat.le_refl _, by omega, .inl rfl⟩, List.Pairwise.nil, fun z => by simp, Nat.le_refl _, Below.refl _ _⟩
  case round =>
    obtain ⟨i, q2, c2, ids, rfl, rfl, hi, hS, hW, hM, hL, hB⟩ := hrel
    have k0 := (hB.out.cell (p := ⟨rb, 0, none⟩) hb).trans c0
    have kb : rb < wr.heap.size := World.block_lt_of_cell? wr _ k0
    by_cases hlt : i < l.length
    · obtain ⟨x, hx⟩ : ∃ x, l[i]? = some x := ⟨_, List.getElem?_eq_getElem hlt⟩
      obtain ⟨g, rfl, e1', e2'⟩ := HR.out.at_ hx
      have e1 := (hB.out.cell (World.block_lt_of_cell? w _ e1')).trans e1'
      have e2 := (hB.out.cell (World.block_lt_of_cell? w _ e2')).trans e2'
      have hgl : g < wr.heap.size := World.block_lt_of_cell? wr _ e1
      have hltI : (i : Int) < (l.length : Int) := by omega
      have hi0 : (0 : Int) ≤ (i : Int) := by omega
      have HTM := Lib.hid (take_snoc_mem hx)
      have HX := Lib.hid hx
      clear hx e1' e2'
      cases hm : matchB x.1 f with
      | false =>
        have HNO : Hid (¬ matchB x.1 f = true) := by rw [hm]; exact Bool.false_ne_true
        have CM := refMatch_any valid_said x.1 f wr (HSZ.out _ HX.out) hfs (hT.below hB.out)
        rw [hm] at CM
        have CM' := Lib.hid CM
        clear CM hm
        go_wp2_with (go_at_call 82; refine CM'.out.mono ?_; rintro e w1 ⟨rfl, hb1⟩; have HB1 := Lib.hid (hB.out.trans (hb1.mono hB.out.size)); have HS1 := Lib.hid (IS.below hS.out hb1); clear hb1)
        go_roundw
        case rel =>
          refine ⟨i + 1, q2, c2, ids, rfl, by go_num, by omega, HS1.out, hW.out, fun z => ?_, by omega, HB1.out⟩
          rw [hM.out]
          constructor
          · rintro ⟨f', h1, h2⟩; exact ⟨f', (HTM.out _).2 (.inl h1), h2⟩
          · rintro ⟨f', h1, h2⟩
            rcases (HTM.out _).1 h1 with h1 | h1
            · exact ⟨f', h1, h2⟩
            · exact absurd h2 (by subst h1; exact HNO.out)
        case measure => simp [intOf]; omega
      | true =>
        have HYES : Hid (matchB x.1 f = true) := hm
        have CM := refMatch_any valid_said x.1 f wr (HSZ.out _ HX.out) hfs (hT.below hB.out)
        rw [hm] at CM
        have CM' := Lib.hid CM
        clear CM hm
        go_wp2_with (go_at_call 82; refine CM'.out.mono ?_; rintro e w1 ⟨rfl, hb1⟩; have HB1 := Lib.hid (hB.out.trans (hb1.mono hB.out.size)); have HS1 := Lib.hid (IS.below hS.out hb1); have k1 := (hb1.cell (p := ⟨rb, 0, none⟩) kb).trans k0; have e3 := (hb1.cell (p := ⟨g, i * 2 + 1, none⟩) hgl).trans e2; have kb1 : rb < w1.heap.size := World.block_lt_of_cell? w1 _ k1; have hgl1 : g < w1.heap.size := World.block_lt_of_cell? w1 _ e3; clear hb1)
        have HMEM : Hid (∀ z, z ∈ putL (fun a b : Int => a < b) ids x.2 ↔ ∃ f', (f', z) ∈ l.take (i + 1) ∧ matchB f' f = true) := fun z => by
          rw [putL_mem, hM.out]
          constructor
          · rintro (h1 | ⟨f', h1, h2⟩)
            · subst h1; exact ⟨x.1, (HTM.out _).2 (.inr rfl), HYES.out⟩
            · exact ⟨f', (HTM.out _).2 (.inl h1), h2⟩
          · rintro ⟨f', h1, h2⟩
            rcases (HTM.out _).1 h1 with h1 | h1
            · exact .inr ⟨f', h1, h2⟩
            · exact .inl (by subst h1; rfl)
        have HWP := Lib.hid (putL_sorted ord_int hW.out x.2)
        have hLP := putL_len (lt := fun a b : Int => a < b) ids x.2
        go_wp2_with fail
        refine (refPut_any w1 _ ids x.2 HS1.out hW.out (by omega)).mono ?_
        rintro e wp ⟨⟨vp, rfl, hp⟩, hbp⟩
        obtain ⟨qp, cp, rfl⟩ : ∃ qp cp, vp = .slice qp (putL (fun a b : Int => a < b) ids x.2).length cp := (IS_fl hp).form
        have HBP := Lib.hid (HB1.out.trans (hbp.mono HB1.out.size))
        have HP := Lib.hid hp
        clear hbp hp
        generalize putL (fun a b : Int => a < b) ids x.2 = idp at *
        go_wp2_with fail
        go_roundw
        case rel => exact ⟨i + 1, qp, cp, idp, rfl, by go_num, by omega, HP.out, HWP.out, HMEM.out, by omega, HBP.out⟩
        case measure => simp [intOf]; omega
    · have hltI : ¬ ((i : Int) < (l.length : Int)) := by omega
      have hge : i = l.length := by omega
      go_wp2_with fail
      rw [← HPP.out]
      refine ⟨⟨_, ids, rfl, hS.out, hW.out, by omega, fun z => ?_⟩, hB.out⟩
      have h1 := hM.out z
      rw [hge, List.take_length] at h1
      exact h1
end
section
open Go Go.RowKit Go.Lib
attribute [local go_sem ↓] Go.wp_at_zero Go.wp_at_succ

def pfx : List UInt8 := [36, 115, 104, 97, 114, 101, 47]
def pfxB : ByteArray := ⟨#[36, 115, 104, 97, 114, 101, 47]⟩
def restS (s : ByteArray) : ByteArray := s.extract 7 s.size
def cutK (r : ByteArray) : Int := Lib.indexByte r.data.toList 47
def gnameB (n : List UInt8) : Bool := !n.isEmpty && !hasB n 43 35 && !hasB n 0 0 && Lib.validD n
/-- a group's name (empty: none) and the filter -/
def splitK (s : ByteArray) : Option (ByteArray × ByteArray) :=
  if Lib.hasPrefix s.data.toList pfx = true then
    if cutK (restS s) < 0 then none
    else if gnameB ((restS s).extract 0 (cutK (restS s)).toNat).data.toList && filterB ((restS s).extract ((cutK (restS s)).toNat + 1) (restS s).size) then some ((restS s).extract 0 (cutK (restS s)).toNat, (restS s).extract ((cutK (restS s)).toNat + 1) (restS s).size) else none
  else if filterB s then some (ByteArray.empty, s) else none
def splitV (s : ByteArray) : Value := match splitK s with
  | none => .tuple #[.string ByteArray.empty, .string ByteArray.empty, .bool false]
  | some x => .tuple #[.string x.1, .string x.2, .bool true]
theorem ext_list (s : ByteArray) (a b : Nat) : (s.extract a b).data.toList = (s.data.toList.drop a).take (b - a) := by
  simp [ByteArray.data_extract, Array.toList_extract, List.extract_eq_take_drop]
theorem trim_rest {s : ByteArray} (h : Lib.hasPrefix s.data.toList pfx = true) : (⟨(Lib.trimPrefix s.data.toList pfxB.data.toList).toArray⟩ : ByteArray) = restS s := by
  apply bytes_inj
  unfold restS
  rw [ext_list]
  have e : pfxB.data.toList = pfx := rfl
  rw [e]
  unfold Lib.trimPrefix
  have hl : s.data.toList.length = s.size := Array.length_toList
  rw [h]
  simp only [if_true]
  have : pfx.length = 7 := rfl
  rw [this, List.take_of_length_le (by rw [List.length_drop]; omega)]
theorem trim_not {s : ByteArray} (h : Lib.hasPrefix s.data.toList pfx = false) : (⟨(Lib.trimPrefix s.data.toList pfxB.data.toList).toArray⟩ : ByteArray) = s := by
  apply bytes_inj
  have e : pfxB.data.toList = pfx := rfl
  rw [e]
  unfold Lib.trimPrefix
  rw [h]
  simp
theorem cutPrefix_any (s : ByteArray) (w : World) : Calls Tryz.prog 42 #[.string s, .string pfxB] w fun e w' => e = .returned (.tuple #[.string (if Lib.hasPrefix s.data.toList pfx = true then restS s else s), .bool (Lib.hasPrefix s.data.toList pfx)]) ∧ w' = w := by
  refine (Any.strings_CutPrefix Tryz.laysn103 s pfxB w).mono ?_
  rintro e w' ⟨rfl, rfl⟩
  refine ⟨?_, rfl⟩
  have e : pfxB.data.toList = pfx := rfl
  rw [e]
  cases h : Lib.hasPrefix s.data.toList pfx with
  | true =>
    have := trim_rest h
    rw [e] at this
    rw [this]; simp
  | false =>
    have := trim_not h
    rw [e] at this
    rw [this]; simp
def CutR (r : ByteArray) (e : Ending) : Prop := e = .returned (.tuple #[.string (if cutK r < 0 then r else r.extract 0 (cutK r).toNat), .string (if cutK r < 0 then ByteArray.empty else r.extract ((cutK r).toNat + 1) r.size), .bool (!decide (cutK r < 0))])
theorem indexByte_lt (l : List UInt8) (c : UInt8) : Lib.indexByte l c < l.length := by
  induction l with
  | nil => simp [Lib.indexByte]
  | cons b l ih =>
    unfold Lib.indexByte
    rw [List.length_cons]
    split
    · omega
    · split
      · omega
      · omega
theorem cutK_lt (r : ByteArray) : cutK r < r.size := by
  have h := indexByte_lt r.data.toList 47
  have e : r.data.toList.length = r.size := Array.length_toList
  unfold cutK
  omega
set_option maxHeartbeats 4000000 in
theorem cutIn_any (r : ByteArray) (w : World) (hr : r.size ≤ 1048576) : Calls Tryz.prog 74 #[.string r, .string ⟨#[47]⟩] w fun e w' => CutR r e ∧ Below w.heap.size w w' := by
  obtain ⟨PP, hPP⟩ : ∃ PP : Ending → World → Prop, (fun e w' => CutR r e ∧ Below w.heap.size w w') = PP := ⟨_, rfl⟩
  rw [hPP]
  have HPP := Lib.hid hPP
  have CI : Hid (∀ w, Calls Tryz.prog 115 #[.string r, .string ⟨#[47]⟩] w fun e w' => e = .returned (.int .i64 (cutK r)) ∧ w' = w) := fun w => Any.stringslite_Index_one Tryz.laysn219 r 47 w
  have hlt := cutK_lt r
  have HR : Hid (∀ k e, cutK r = k → e = .returned (.tuple #[.string (if k < 0 then r else r.extract 0 k.toNat), .string (if k < 0 then ByteArray.empty else r.extract (k.toNat + 1) r.size), .bool (!decide (k < 0))]) → CutR r e) := fun k e hk he => by subst hk; exact he
  obtain ⟨k, hk⟩ : ∃ k, cutK r = k := ⟨_, rfl⟩
  have HRK : Hid (∀ e, e = .returned (.tuple #[.string (if k < 0 then r else r.extract 0 k.toNat), .string (if k < 0 then ByteArray.empty else r.extract (k.toNat + 1) r.size), .bool (!decide (k < 0))]) → CutR r e) := fun e he => HR.out k e hk he
  rw [hk] at CI hlt
  clear hPP hk HR
  by_cases h0 : k < 0
  · have h0' : ¬ 0 ≤ k := by omega
    go_enter Tryz.func74, Tryz.ntmps74
    go_wp2_with fail
    refine (CI.out _).mono ?_
    rintro e w1 ⟨rfl, hw⟩
    subst hw
    go_wp2_with fail
    refine bodyPost_ret (v := .tuple #[.string r, .string ByteArray.empty, .bool false]) (by simp [results, Tryz.results74, go_sem]; rfl) rfl ?_
    rw [← HPP.out]
    exact ⟨HRK.out _ (by rw [if_pos h0, if_pos h0]; simp [h0]), Below.refl _ _⟩
  · have h0' : 0 ≤ k := by omega
    obtain ⟨n, rfl⟩ : ∃ n : Nat, k = (n : Int) := ⟨k.toNat, by omega⟩
    have hn : n < r.size := by omega
    have e1 : IntKind.i64.wrap ((n : Int) + 1) = (n : Int) + 1 := IntWalk.i64_in _ (by omega)
    have e2 : ((n : Int) + 1).toNat = n + 1 := by omega
    have e3 : (0 : Int) ≤ (n : Int) + 1 := by omega
    have e4 : (n : Int) + 1 ≤ (r.size : Int) := by omega
    have e5 : (n : Int) ≤ (r.size : Int) := by omega
    go_enter Tryz.func74, Tryz.ntmps74
    go_wp2_with fail
    refine (CI.out _).mono ?_
    rintro e w1 ⟨rfl, hw⟩
    subst hw
    go_wp2_with fail
    go_quiet (fail)
    go_wp2_with fail
    refine bodyPost_ret (v := .tuple #[.string (r.extract 0 n), .string (r.extract (n + 1) r.size), .bool true]) (by simp [results, Tryz.results74, go_sem]) rfl ?_
    rw [← HPP.out]
    exact ⟨HRK.out _ (by rw [if_neg (Int.not_lt.2 h0'), if_neg (Int.not_lt.2 h0')]; simp), below_drewN' (Below.refl _ _) _⟩
theorem cut_any (r : ByteArray) (w : World) (hr : r.size ≤ 1048576) : Calls Tryz.prog 43 #[.string r, .string ⟨#[47]⟩] w fun e w' => CutR r e ∧ Below w.heap.size w w' := by
  obtain ⟨PP, hPP⟩ : ∃ PP : Ending → World → Prop, (fun e w' => CutR r e ∧ Below w.heap.size w w') = PP := ⟨_, rfl⟩
  rw [hPP]
  have HPP := Lib.hid hPP
  have C := Lib.hid (cutIn_any r w hr)
  clear hPP
  unfold CutR at C
  have HR : Hid (∀ a b c e, e = Ending.returned (.tuple #[.string (if cutK r < 0 then r else r.extract 0 (cutK r).toNat), .string (if cutK r < 0 then ByteArray.empty else r.extract ((cutK r).toNat + 1) r.size), .bool (!decide (cutK r < 0))]) → (if cutK r < 0 then r else r.extract 0 (cutK r).toNat) = a → (if cutK r < 0 then ByteArray.empty else r.extract ((cutK r).toNat + 1) r.size) = b → (!decide (cutK r < 0)) = c → CutR r (.returned (.tuple #[.string a, .string b, .bool c]))) := fun a b c e _ h1 h2 h3 => by subst h1; subst h2; subst h3; exact rfl
  obtain ⟨a, ha⟩ : ∃ a, (if cutK r < 0 then r else r.extract 0 (cutK r).toNat) = a := ⟨_, rfl⟩
  obtain ⟨b, hb⟩ : ∃ b, (if cutK r < 0 then ByteArray.empty else r.extract ((cutK r).toNat + 1) r.size) = b := ⟨_, rfl⟩
  obtain ⟨c, hc⟩ : ∃ c, (!decide (cutK r < 0)) = c := ⟨_, rfl⟩
  have HA := Lib.hid ha
  have HB := Lib.hid hb
  have HC := Lib.hid hc
  rw [ha, hb, hc] at C
  clear ha hb hc
  go_enter Tryz.func43, Tryz.ntmps43
  go_wp2_with fail
  refine C.out.mono ?_
  rintro e w1 ⟨rfl, hb1⟩
  have HB1 := Lib.hid hb1
  clear hb1
  go_wp2_with fail
  refine bodyPost_ret (v := .tuple #[.string a, .string b, .bool c]) (by simp [results, Tryz.results43, go_sem]) rfl ?_
  rw [← HPP.out]
  exact ⟨HR.out a b c _ rfl HA.out HB.out HC.out, HB1.out⟩
end
end Go.Proofs.YtincmegllckcjaaGreatDoor
