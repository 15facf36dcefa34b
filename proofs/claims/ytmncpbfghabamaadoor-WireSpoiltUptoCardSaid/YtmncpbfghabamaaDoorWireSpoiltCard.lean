/- WireSpoilt (second form, bulk at most 1048576): of any fit message: its frame cut off is ErrFrame; with at most 16 bits in a row turned in the body or the sum it is not taken. Listed and tied: unicode/utf8's two tables. -/
import Derived.Test.YtmncpbfghabamaaDoorCards
import Derived.Test.YtmncpbfghabamaaDoorTie
import Derived.Test.YtmncpbfghabamaaDoorWireTabs
import Derived.Test.YtmncpbfghabamaaDoorWireTurned
import Derived.Test.YtmncpbfghabamaaDoorWireLawS
namespace Go.Proofs.YtmncpbfghabamaaDoor.wireSpoilt
open Go Go.ChangeShapes Go.WideShapes Go.ChangeAt Go.RowKit
open Go.ChangeMaps (open_string shut_string)

set_option maxRecDepth 100000 in
set_option maxHeartbeats 4000000 in
theorem contract (H : Type) (enc : TypeId × Value → H) (W : World) (base : Nat) (args : Array Value) (ds gs : List (DataW H)) (before : List MemPlace)
    (hval : ∀ (j : Nat) t v, Tryd.f8.params[j]? = some t → args[j]? = some v → Value.okWide Tryd.prog W .any base t v)
    (hW : DataW.Whole enc Tryd.prog Tryd.f8.params.toList Rows.wireSpoiltSpec.vars false W args.toList ds gs before)
    (hk : Rows.uptoSmall H (ds ++ gs) = true) (hE : Tabs W) :
    Calls Tryd.prog 8 args W fun e W' => ∃ v, e = .returned v ∧ Rows.wireSpoiltSpec.post enc Tryd.prog Tryd.f8 false true false false W args v W' := by
  have hW' := hW
  obtain ⟨p, q, hA0, hV, rfl, hfz, hnd⟩ := hW
  have hA : DataW.TrodAll enc Tryd.prog W 0 (fun _ => true) true Tryd.f8.params.toList args.toList ds p := hA0
  rw [Tryd.params8] at hA hval
  obtain ⟨v0, vs0, d0, ds0, p0, q0, hargs, rfl, rfl, h0, r0⟩ := trodAll_cons hA
  obtain ⟨v1, vs1, d1, ds1, p1, q1, rfl, rfl, rfl, h1, r1⟩ := trodAll_cons r0
  obtain ⟨rfl, rfl, rfl⟩ := trodAll_nil r1
  obtain rfl : args = #[v0, v1] := by cases args; simp_all
  obtain ⟨rfl, rfl⟩ := trodVars_none hV
  obtain ⟨cs0, rfl, -⟩ := okWide_struct Tryd.underlying39 (hval 0 39 v0 rfl rfl)
  obtain ⟨f0, t0⟩ := h0
  obtain ⟨k0, id0, at0, un0, co0, pr0, hp0, tp0, rp0, kd0, di0, db0, ds0, mq0, mm0, mc0, ps0, y0, hD0, hw0, hi0⟩ := read_mv f0 cs0.toList _ t0
  have hb0 := Nat.le_trans hw0 (Nat.le_trans (bulk_part _ d0 (by simp)) (of_decide_eq_true hk))
  have he0 := enc_wt k0 _ _ hD0 (by omega)
  have h0 : DataW.Trod enc Tryd.prog W 0 (fun _ => true) true 39 (.agg cs0) d0 p0 := ⟨f0, t0⟩
  obtain rfl : cs0 = #[.int .i64 id0, .string tp0, .int .i64 kd0, .int .i64 di0, .int .u64 db0, .string ds0, .slice mq0 mm0 mc0, .int .i64 at0, .int .i64 un0, .string rp0, .int .i64 co0, .int .i64 pr0, .int .i64 hp0] := by rw [← Array.toArray_toList (xs := cs0), y0]
  obtain ⟨cs1, rfl, -⟩ := okWide_struct Tryd.underlying54 (hval 1 54 v1 rfl rfl)
  obtain ⟨f1, t1⟩ := h1
  obtain ⟨ta1, tb1, tc1, y1, ha1, hb1, hc1⟩ := read_turned f1 cs1.toList _ t1
  have h1 : DataW.Trod enc Tryd.prog W 0 (fun _ => true) true 54 (.agg cs1) d1 p1 := ⟨f1, t1⟩
  obtain rfl : cs1 = #[.int .i64 ta1, .int .u16 tb1, .int .i64 tc1] := by rw [← Array.toArray_toList (xs := cs1), y1]
  clear hA0
  simp only [List.append_nil] at hW'
  refine (wireSpoilt_any W k0 id0 at0 un0 co0 pr0 hp0 tp0 rp0 kd0 di0 db0 ds0 mq0 mm0 mc0 ps0 hD0 hi0 (by omega) (by omega) (by omega) ta1 tb1 tc1 ha1 hb1 hc1 hE).mono fun e W' ⟨he, bel⟩ => ?_
  subst he
  refine ⟨_, rfl, _, _, _, [], _, [], hW', ?_, trodAll_cons_mk (Below.trod laidOut (by kernel_rfl) (of_decide_eq_true (by kernel_rfl)) h0 bel (fun x hx => by simpa using hW'.lt x (by simp [hx]))) (trodAll_cons_mk (Below.trod laidOut (by kernel_rfl) (of_decide_eq_true (by kernel_rfl)) h1 bel (fun x hx => by simpa using hW'.lt x (by simp [hx]))) trodAll_mk0), ?_, bel.frame _, fun h => by cases h⟩
  · exact trodAll_cons_mk (shut_bool Tryd.underlying4 _) trodAll_mk0
  · rfl

theorem reads (os : Os) {H : Type} (enc : TypeId × Value → H) : ∃ places, DataW.whole enc Tryd.prog ((laidWorld2 os).forCall (fun _ _ => 0) ⟨#[], #[.agg #[.int .i64 0, .string ⟨#[]⟩, .int .i64 0, .int .i64 0, .int .u64 0, .string ⟨#[]⟩, .slice none 0 0, .int .i64 0, .int .i64 0, .string ⟨#[]⟩, .int .i64 0, .int .i64 0, .int .i64 0], .agg #[.int .i64 0, .int .u16 0, .int .i64 0]], []⟩).memory Tryd.f8.params.toList Rows.wireSpoiltSpec.vars false #[Value.agg #[.int .i64 0, .string ⟨#[]⟩, .int .i64 0, .int .i64 0, .int .u64 0, .string ⟨#[]⟩, .slice none 0 0, .int .i64 0, .int .i64 0, .string ⟨#[]⟩, .int .i64 0, .int .i64 0, .int .i64 0], Value.agg #[.int .i64 0, .int .u16 0, .int .i64 0]].toList 8 = some ([.agg [.lit (.int .i64 0), .lit (.string []), .agg [.lit (.int .i64 0), .lit (.int .i64 0), .lit (.int .u64 0), .lit (.string []), .nil], .lit (.int .i64 0), .lit (.int .i64 0), .lit (.string []), .lit (.int .i64 0), .lit (.int .i64 0), .lit (.int .i64 0)], .agg [.lit (.int .i64 0), .lit (.int .u16 0), .lit (.int .i64 0)]], [], places) :=
  ⟨[], by kernel_rfl⟩

set_option maxRecDepth 100000 in
theorem liftedUpto (os : Os) (started : os.Started) (H : Type) (enc : TypeId × Value → H) (F : Stop.Interp) :
    ReturnsInHanded {} Tryd.checked os 8 .any ((Rows.OpenSpec.upto Rows.wireSpoiltSpec).preRow enc Tryd.prog Tryd.f8 Rows.wireSpoiltUptoRow.domain false Rows.wireSpoiltUptoRow.laid) (((Rows.OpenSpec.upto Rows.wireSpoiltSpec).at F).post enc Tryd.prog Tryd.f8 false true false false) := by
  obtain ⟨places, hx⟩ := reads os enc
  refine returnsInHanded_of_row (C := Tryd.checked) (s := Rows.OpenSpec.upto Rows.wireSpoiltSpec) own started (by kernel_rfl) Tryd.func8
    (witness_row_at (enc := enc) (C := Tryd.checked) false (laidWorld2 os) #[.agg #[.int .i64 0, .string ⟨#[]⟩, .int .i64 0, .int .i64 0, .int .u64 0, .string ⟨#[]⟩, .slice none 0 0, .int .i64 0, .int .i64 0, .string ⟨#[]⟩, .int .i64 0, .int .i64 0, .int .i64 0], .agg #[.int .i64 0, .int .u16 0, .int .i64 0]] rfl (by kernel_rfl) (by kernel_rfl) (by kernel_rfl)
      (OpenSpec.preRow_of_cond 8 hx (by kernel_rfl) (fun k hk => by cases hk; kernel_rfl) (by kernel_rfl) (laid_met2 os _))) ?_
  intro W base args ds gs before hval hW _ hcond _ hL _ _
  exact contract H enc W base args ds gs before hval hW (hcond _ rfl) (tabs_of2 hL)

theorem saidUpto : Rows.WireSpoiltUptoSaid :=
  OpenClaim.holds_of_cond 8 Tryd.f8 rfl rfl rfl rfl rfl rfl rfl ⟨rfl, rfl, rfl, rfl, rfl⟩ rfl rfl rfl rfl rfl (by kernel_rfl) Tryd.func8 (by kernel_rfl)
    (of_decide_eq_true (by kernel_rfl)) (by unfold Func.isWrapper; first | (rw [if_pos (by decide +kernel)]; kernel_rfl) | (rw [if_neg (by decide +kernel)]; exact ⟨rfl, rfl⟩))
    (fun os started H enc _ F => by rw [OpenClaim.pre_eq_preRow]; exact liftedUpto os started H enc F)

theorem plain (f : FuncId) (fn : Func) (hf : Tryd.pinned.checked.prog.funcNamed Rows.wireSpoiltUptoRow.func = some f) (hfn : Tryd.pinned.checked.prog.funcs[f]? = some fn) :
    false = Tryd.pinned.checked.prog.looks [] ∧ ∀ (j : Nat) t, fn.params[j]? = some t → Tryd.pinned.checked.prog.wantsStandIn t = false := by
  obtain rfl : f = 8 := Option.some.inj ((show Tryd.prog.funcNamed Rows.wireSpoiltUptoRow.func = some 8 by kernel_rfl).symm.trans hf) |>.symm
  obtain rfl : fn = Tryd.f8 := (Option.some.inj (Tryd.func8.symm.trans hfn)).symm
  refine ⟨by kernel_rfl, fun j t ht => ?_⟩
  rw [Tryd.params8] at ht
  have h : t = 39 ∨ t = 54 := by simpa using Array.mem_of_getElem? ht
  rcases h with rfl | rfl
  · exact (show Tryd.prog.wantsStandIn 39 = false by kernel_rfl)
  · exact (show Tryd.prog.wantsStandIn 54 = false by kernel_rfl)

theorem cardUpto : Rows.WireSpoiltUptoCardSaid :=
  Claim7.holds_tied_plain_at .later [] _ _ _ _ saidUpto (fun _ h => by cases h) (by kernel_rfl) (fun _ h => by cases h) wireSpoiltUpto_row_tie rfl ⟨rfl, rfl⟩ (by kernel_rfl) rfl plain (by kernel_rfl)
end Go.Proofs.YtmncpbfghabamaaDoor.wireSpoilt
