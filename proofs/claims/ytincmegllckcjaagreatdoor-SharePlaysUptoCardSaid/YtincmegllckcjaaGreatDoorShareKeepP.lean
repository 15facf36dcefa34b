/- SHARE: what is kept, in memory. -/
import Derived.Test.YtincmegllckcjaaGreatDoorShareOwn
namespace Go.Proofs.YtincmegllckcjaaGreatDoor
open Go Go.RowKit

/-- a reader that holds what it reads -/
def heldR (v : Value) : Option (DataW Value × List MemPlace) := some (.held v, [])
def noV : DataW Value := .lit (.bool false)
def lookV (D : DataW Value) (s : ByteArray) : Option Value := match D.atKey (.string s.data.toList) noV with
  | .held v => some v
  | _ => none
theorem lookV_some {D : DataW Value} {s : ByteArray} {v : Value} (h : D.atKey (.string s.data.toList) noV = .held v) : lookV D s = some v := by unfold lookV; rw [h]
theorem lookV_none {D : DataW Value} {s : ByteArray} (h : D.atKey (.string s.data.toList) noV = noV) : lookV D s = none := by unfold lookV; rw [h]; rfl
theorem lookV_put_same {D : DataW Value} (hD : Maps.IsMap D) (s : ByteArray) (v : Value) : lookV (D.put (.string s.data.toList) (.held v)) s = some v := lookV_some (Maps.atKey_put_same hD (show WideAt.IsKeyLit (.string s.data.toList) from trivial) _ _)
theorem lookV_put_other {D : DataW Value} {s t : ByteArray} (h : t ≠ s) (v : Value) : lookV (D.put (.string s.data.toList) (.held v)) t = lookV D t := by
  unfold lookV
  rw [Maps.atKey_put_other (fun e => h (bytes_inj (by injection e)))]
theorem lookV_del_same {D : DataW Value} (s : ByteArray) : lookV (D.del (.string s.data.toList)) s = none := lookV_none (Maps.atKey_del_same _)
theorem lookV_del_other {D : DataW Value} {s t : ByteArray} (h : t ≠ s) : lookV (D.del (.string s.data.toList)) t = lookV D t := by
  unfold lookV
  rw [Maps.atKey_del_other (fun e => h (bytes_inj (by injection e)))]
def msgZero : Value := .agg #[.int .i64 0, .string ⟨#[]⟩, .int .i64 0, .int .i64 0, .int .u64 0, .string ⟨#[]⟩, .slice none 0 0, .int .i64 0, .int .i64 0, .string ⟨#[]⟩, .int .i64 0, .int .i64 0, .int .i64 0]
/-- a message: thirteen cells, and what its body says -/
structure Mg where
  id : Int
  tp : ByteArray
  kd : Int
  di : Int
  db : Int
  ds : ByteArray
  q : Option Addr
  n : Nat
  c : Nat
  at_ : Int
  un : Int
  rp : ByteArray
  co : Int
  pr : Int
  ho : Int
  t : Dv
  f : Nat
def Mg.body (m : Mg) : List Value := [.int .i64 m.kd, .int .i64 m.di, .int .u64 m.db, .string m.ds, .slice m.q m.n m.c]
def Mg.val (m : Mg) : Value := .agg #[.int .i64 m.id, .string m.tp, .int .i64 m.kd, .int .i64 m.di, .int .u64 m.db, .string m.ds, .slice m.q m.n m.c, .int .i64 m.at_, .int .i64 m.un, .string m.rp, .int .i64 m.co, .int .i64 m.pr, .int .i64 m.ho]
/-- a message as far as it is told -/
structure AM where
  id : Int
  tp : ByteArray
  at_ : Int
  un : Int
  rp : ByteArray
  co : Int
  pr : Int
  ho : Int
  t : Dv
def Mg.am (m : Mg) : AM := ⟨m.id, m.tp, m.at_, m.un, m.rp, m.co, m.pr, m.ho, m.t⟩
/-- what is kept -/
structure KeptIs (W : World) (base km kn : Nat) (KD : DataW Value) (KB : Nat → Prop) (ms : List Mg) : Prop where
  map : W.ownsMap Tryz.prog 9 heldR km kn KD
  by_ : ∀ key v, lookV KD key = some v ↔ ∃ m ∈ ms, m.tp = key ∧ m.val = v
  keys : (ms.map (·.tp)).Nodup
  each : ∀ m ∈ ms, DvIn KB W m.f m.body m.t ∧ DvSm m.f m.t ∧ m.tp.size ≤ 1048576
  kb : ∀ b, KB b → base ≤ b ∧ b < W.heap.size ∧ b ≠ km
  lo : base ≤ km
section
variable {W W' : World} {base km kn : Nat} {KD : DataW Value} {KB : Nat → Prop} {ms : List Mg}
theorem heldmap_kept {k : TypeId} {b n : Nat} {D : DataW Value} (h : W.ownsMap Tryz.prog k heldR b n D) (hk : W'.heap[b]? = W.heap[b]?) : W'.ownsMap Tryz.prog k heldR b n D := by
  obtain ⟨es, clock, hb, r⟩ := h
  exact ⟨es, clock, hk.trans hb, r⟩
theorem KeptIs.kept (h : KeptIs W base km kn KD KB ms) (hs : W.heap.size ≤ W'.heap.size) (hk : ∀ b, b = km ∨ KB b → W'.heap[b]? = W.heap[b]?) : KeptIs W' base km kn KD KB ms :=
  ⟨heldmap_kept h.map (hk _ (.inl rfl)), h.by_, h.keys, fun m hm => ⟨(h.each m hm).1.kept fun b hb _ => ⟨hk b (.inr hb), hb⟩, (h.each m hm).2⟩, fun b hb => ⟨(h.kb b hb).1, Nat.lt_of_lt_of_le (h.kb b hb).2.1 hs, (h.kb b hb).2.2⟩, h.lo⟩
theorem KeptIs.below (h : KeptIs W base km kn KD KB ms) (hb : Below W.heap.size W W') : KeptIs W' base km kn KD KB ms := h.kept hb.size fun b hb2 => hb.block b (by
  rcases hb2 with rfl | hb2
  · exact h.map.lt
  · exact (h.kb b hb2).2.1)
theorem KeptIs.look_none (h : KeptIs W base km kn KD KB ms) {s : ByteArray} : lookV KD s = none ↔ ∀ m ∈ ms, m.tp ≠ s := by
  constructor
  · intro hk m hm e
    have := (h.by_ s m.val).2 ⟨m, hm, e, rfl⟩
    rw [hk] at this
    cases this
  · intro hm
    cases hk : lookV KD s with
    | none => rfl
    | some v =>
      obtain ⟨m, h1, h2, -⟩ := (h.by_ s v).1 hk
      exact absurd h2 (hm m h1)
/-- has the map the key -/
theorem KeptIs.has (h : KeptIs W base km kn KD KB ms) {s : ByteArray} (hs : s.size ≤ maxLen) : Maps.has KD (.string s.data.toList) = true ↔ ∃ m ∈ ms, m.tp = s := by
  have h1 : (Maps.has KD (.string s.data.toList) = true ↔ ∃ v, lookV KD s = some v) := by
    obtain ⟨es, clock, hb, F, _, hD⟩ := h.map
    rw [hD]
    rcases Maps.fit_look (w := W) (z := msgZero) false string_keys Tryz.underlying60 (by kernel_rfl) hb F (WideMaps.keyOf_string_mk Tryz.underlying9 (s := s) hs) with ⟨hrun, _, hat⟩ | ⟨e0, y, _, _, hrun, hRv, hat, _⟩
    · rw [lookV_none (hat noV), Maps.has_false_of_atKey hat]
      exact Iff.intro (fun e => (by cases e)) (fun ⟨c, e⟩ => (by cases e))
    · injection hRv with hRv
      subst hRv
      rw [lookV_some (hat noV), Maps.has_true_of_atKey hat]
      exact ⟨fun _ => ⟨_, rfl⟩, fun _ => rfl⟩
  rw [h1]
  constructor
  · rintro ⟨v, hv⟩
    obtain ⟨m, h2, h3, -⟩ := (h.by_ s v).1 hv
    exact ⟨m, h2, h3⟩
  · rintro ⟨m, h2, h3⟩
    exact ⟨m.val, (h.by_ s m.val).2 ⟨m, h2, h3, rfl⟩⟩
def mgZero : Mg := ⟨0, ⟨#[]⟩, 0, 0, 0, ⟨#[]⟩, none, 0, 0, 0, 0, ⟨#[]⟩, 0, 0, 0, .mk 0 0 0 ⟨#[]⟩ [], 1⟩
theorem heldInj {a b : Value} (h : (DataW.held a : DataW Value) = .held b) : a = b := by injection h
theorem held_of {v : Value} {y : DataW Value × List MemPlace} (h : heldR v = some y) : (.held v, []) = y := by unfold heldR at h; injection h
theorem KeptIs.look2 (h : KeptIs W base km kn KD KB ms) {s : ByteArray} (hs : s.size ≤ maxLen) : ∃ (x : Mg) (ok : Bool), (∀ W', W'.heap[km]? = W.heap[km]? → (Instr.lookup 60 (.map (some km)) (.string s) true).run Tryz.prog W' = .ok (.tuple #[x.val, .bool ok]) W') ∧ (ok = true ↔ ∃ m ∈ ms, m.tp = s) := by
  have hh := h.has hs
  have hby := h.by_
  obtain ⟨es, clock, hb, F, _, hD⟩ := h.map
  have K := fun W' (hW : W'.heap[km]? = W.heap[km]?) => Maps.fit_look (w := W') (z := msgZero) true string_keys Tryz.underlying60 (by kernel_rfl) (hW.trans hb) F (WideMaps.keyOf_string_mk Tryz.underlying9 (s := s) hs)
  rcases hl : Maps.has KD (.string s.data.toList) with _ | _
  · rw [hl] at hh
    refine ⟨mgZero, false, fun W' hW => ?_, hh⟩
    rcases K W' hW with ⟨hrun, _, hat⟩ | ⟨e0, y, _, _, hrun, hRv, hat, _⟩
    · exact hrun
    · rw [hD, Maps.has_true_of_atKey hat] at hl; cases hl
  · rw [hl] at hh
    rcases K W rfl with ⟨hrun, _, hat⟩ | ⟨e0, y, _, _, hrun, hRv, hat, _⟩
    · rw [hD, Maps.has_false_of_atKey hat] at hl; cases hl
    · injection hRv with hRv
      subst hRv
      obtain ⟨x, -, -, hx⟩ := (hby s e0.val).1 (by rw [hD]; exact lookV_some (hat noV))
      refine ⟨x, true, fun W' hW => ?_, hh⟩
      rcases K W' hW with ⟨hrun', _, hat'⟩ | ⟨e1, y1, _, _, hrun', hRv', hat', _⟩
      · rw [hD, Maps.has_false_of_atKey hat'] at hl; cases hl
      · have hy1 : y1.1 = .held e1.val := by rw [← held_of hRv']
        have e : (DataW.held e0.val : DataW Value) = .held e1.val := (hat noV).symm.trans ((hat' noV).trans hy1)
        have hx2 := hx.trans (heldInj e)
        rw [hx2]
        exact hrun'
theorem filter_tp {ms : List Mg} {s : ByteArray} {x : Mg} : x ∈ ms.filter (fun m => decide (m.tp.data.toList ≠ s.data.toList)) ↔ x ∈ ms ∧ x.tp ≠ s := by
  rw [List.mem_filter, decide_eq_true_eq]
  exact and_congr_right fun _ => ⟨fun h e => h (by rw [e]), fun h e => h (bytes_inj e)⟩
/-- a message is let go -/
theorem KeptIs.drop (h : KeptIs W base km kn KD KB ms) {s : ByteArray} (hg : W.grownBy W' (some km)) (hmap : W'.ownsMap Tryz.prog 9 heldR km kn (KD.del (.string s.data.toList))) : KeptIs W' base km kn (KD.del (.string s.data.toList)) KB (ms.filter fun m => decide (m.tp.data.toList ≠ s.data.toList)) := by
  refine ⟨hmap, fun key v => ?_, h.keys.sublist ((List.filter_sublist).map _), fun m hm => ?_, fun b hb => ⟨(h.kb b hb).1, Nat.lt_of_lt_of_le (h.kb b hb).2.1 hg.size, (h.kb b hb).2.2⟩, h.lo⟩
  · by_cases e : key = s
    · subst e
      rw [lookV_del_same]
      constructor
      · intro e; cases e
      · rintro ⟨m, hm, h1, -⟩
        exact absurd h1 (filter_tp.1 hm).2
    · rw [lookV_del_other e, h.by_]
      constructor
      · rintro ⟨m, hm, h1, h2⟩; exact ⟨m, filter_tp.2 ⟨hm, fun e2 => e (h1.symm.trans e2)⟩, h1, h2⟩
      · rintro ⟨m, hm, h1, h2⟩; exact ⟨m, (filter_tp.1 hm).1, h1, h2⟩
  · obtain ⟨h1, h2⟩ := h.each m (filter_tp.1 hm).1
    exact ⟨h1.kept fun b hb hl => ⟨hg.block b hl (fun e => (h.kb b hb).2.2 (by injection e)), hb⟩, h2⟩
/-- a message is kept: its body has been copied, and then the map has turned -/
theorem KeptIs.put {W1 : World} (h : KeptIs W base km kn KD KB ms) {m : Mg} (hb : Below W.heap.size W W1) (hd : DvIn (fun b => W.heap.size ≤ b ∧ b < W1.heap.size) W1 m.f m.body m.t) (hsm : DvSm m.f m.t) (htp : m.tp.size ≤ 1048576) (hbase : base ≤ W.heap.size) (hg : W1.grownBy W' (some km)) (hmap : W'.ownsMap Tryz.prog 9 heldR km (kn + 1) (KD.put (.string m.tp.data.toList) (.held m.val))) :
    KeptIs W' base km (kn + 1) (KD.put (.string m.tp.data.toList) (.held m.val)) (fun b => KB b ∨ (W.heap.size ≤ b ∧ b < W1.heap.size)) (ms.filter (fun x => decide (x.tp.data.toList ≠ m.tp.data.toList)) ++ [m]) := by
  have hkm := h.map.lt
  have hmem : ∀ {y : Mg}, y ∈ ms.filter (fun x => decide (x.tp.data.toList ≠ m.tp.data.toList)) ++ [m] ↔ (y ∈ ms ∧ y.tp ≠ m.tp) ∨ y = m := fun {y} => by
    rw [List.mem_append, filter_tp, List.mem_singleton]
  refine ⟨hmap, fun key v => ?_, ?_, fun x hx => ?_, fun b hb2 => ?_, h.lo⟩
  · by_cases e : key = m.tp
    · subst e
      rw [lookV_put_same h.map.isMap]
      constructor
      · intro e; injection e with e; exact ⟨m, hmem.2 (.inr rfl), rfl, e⟩
      · rintro ⟨x, hx, h1, h2⟩
        rcases hmem.1 hx with ⟨-, h3⟩ | rfl
        · exact absurd h1 h3
        · rw [h2]
    · rw [lookV_put_other e, h.by_]
      constructor
      · rintro ⟨x, hx, h1, h2⟩; exact ⟨x, hmem.2 (.inl ⟨hx, fun e2 => e (h1.symm.trans e2)⟩), h1, h2⟩
      · rintro ⟨x, hx, h1, h2⟩
        rcases hmem.1 hx with ⟨h3, -⟩ | rfl
        · exact ⟨x, h3, h1, h2⟩
        · exact absurd h1.symm e
  · rw [List.map_append]
    refine List.nodup_append.2 ⟨h.keys.sublist ((List.filter_sublist).map _), List.nodup_cons.2 ⟨List.not_mem_nil, List.nodup_nil⟩, fun a ha b hb e => ?_⟩
    have hb : b ∈ [m.tp] := hb
    rw [List.mem_singleton] at hb
    subst hb; subst e
    obtain ⟨x, hx, e⟩ := List.mem_map.1 ha
    exact (filter_tp.1 hx).2 e
  · rcases hmem.1 hx with ⟨hx, -⟩ | rfl
    · obtain ⟨h1, h2⟩ := h.each x hx
      exact ⟨h1.kept fun b hb2 hl => ⟨(hg.block b (Nat.lt_of_lt_of_le hl hb.size) (fun e => (h.kb b hb2).2.2 (by injection e))).trans (hb.block b hl), .inl hb2⟩, h2⟩
    · exact ⟨hd.kept fun b hb2 hl => ⟨hg.block b hl (fun e => by have := hb2.1; injection e with e; omega), .inr hb2⟩, hsm, htp⟩
  · have h1 := hb.size
    have h2 := hg.size
    rcases hb2 with hb2 | hb2
    · exact ⟨(h.kb b hb2).1, by have := (h.kb b hb2).2.1; omega, (h.kb b hb2).2.2⟩
    · exact ⟨by omega, by omega, by omega⟩
end
/-- the whole hub -/
structure HubK (W : World) (base : Nat) (H : Hb) (kn : Nat) (KD : DataW Value) (KB : Nat → Prop) (ms : List Mg) : Prop where
  hub : HubG W base H
  kept : KeptIs W base H.km kn KD KB ms
  off : H.hb ≠ H.km ∧ ¬ FHub H H.km
  offB : ∀ b, KB b → b ≠ H.hb ∧ ¬ FHub H b
section
variable {W W' : World} {base kn : Nat} {H H' : Hb} {KD : DataW Value} {KB : Nat → Prop} {ms : List Mg}
theorem HubK.below (h : HubK W base H kn KD KB ms) (hb : Below W.heap.size W W') : HubK W' base H kn KD KB ms := ⟨h.hub.below hb, h.kept.below hb, h.off, h.offB⟩
theorem HubK.to (h : HubK W base H kn KD KB ms) (ht : HubTo W base H W' H') : HubK W' base H' kn KD KB ms := by
  have hlt := h.kept.map.lt
  refine ⟨ht.is, ?_, ?_, fun b hb => ?_⟩
  · rw [ht.km]
    exact h.kept.kept ht.fr.size fun b hb => ht.fr.block b (by
      rcases hb with rfl | hb
      · exact hlt
      · exact (h.kept.kb b hb).2.1) (by
      rcases hb with rfl | hb
      · exact h.off.2
      · exact (h.offB b hb).2)
  · rw [ht.km, ht.hb]
    exact ⟨h.off.1, fun e => by
      rcases ht.own _ e with e | e
      · exact h.off.2 e
      · omega⟩
  · rw [ht.hb]
    exact ⟨(h.offB b hb).1, fun e => by
      rcases ht.own _ e with e | e
      · exact (h.offB b hb).2 e
      · have := (h.kept.kb b hb).2.1; omega⟩
end
end Go.Proofs.YtincmegllckcjaaGreatDoor
