/- WIRE: what the chapter's examples answer. WIRE: awake. -/
import Derived.Test.YtmncpbfghabamaaDoorWireWDec
import Derived.Lib.SmallJoins
namespace Go.Proofs.YtmncpbfghabamaaDoor
open Go Go.RowKit
attribute [local go_sem ↓] Go.wp_at_zero Go.wp_at_succ

def frA : List UInt8 := [167, 1, 10, 0, 0, 0, 0, 0, 0, 1, 116, 0, 0, 147, 69]
theorem body_aw : bodyB [0, 0, 0, 0, 0, 0] ⟨#[116]⟩ ⟨#[]⟩ (.mk 0 0 0 ⟨#[]⟩ []) = [0, 0, 0, 0, 0, 0, 1, 116, 0, 0] := by
  have h0 : numB 0 = [0] := by rw [numB_small (by decide)]; rfl
  have h1 : numB 1 = [1] := by rw [numB_small (by decide)]; rfl
  unfold bodyB sigsB txtB
  rw [show (⟨#[116]⟩ : ByteArray).size = 1 from rfl, show (⟨#[]⟩ : ByteArray).size = 0 from rfl]
  simp only [List.flatMap_cons, List.flatMap_nil, h0, h1, show zig 0 = 0 from rfl]
  rfl
theorem crc_aw : crcB [0, 0, 0, 0, 0, 0, 1, 116, 0, 0] = [147, 69] := by kernel_rfl
theorem frame_aw : frameB (bodyB [0, 0, 0, 0, 0, 0] ⟨#[116]⟩ ⟨#[]⟩ (.mk 0 0 0 ⟨#[]⟩ [])) = frA := by
  rw [body_aw]
  unfold frameB
  rw [if_neg (by decide), crc_aw, show ([0, 0, 0, 0, 0, 0, 1, 116, 0, 0] : List UInt8).length = 10 from rfl, numB_small (by decide)]
  rfl
theorem dec_aw : decD frA = .ok ([0, 0, 0, 0, 0, 0], ⟨#[116]⟩, ⟨#[]⟩, .mk 0 0 0 ⟨#[]⟩ []) 15 := by kernel_rfl
theorem read_aw : valD 16 1 4095 [1] = .short := by kernel_rfl
theorem sum_aw : (crc [49, 50, 51, 52, 53, 54, 55, 56, 57]).toNat = 10673 := by kernel_rfl
theorem dat_aw : enc (.mk 1 300 0 ⟨#[]⟩ []) = [1, 216, 4] := by
  have h : numB 600 = [216, 4] := by rw [numB_big (by decide), numB_small (by decide)]; rfl
  unfold enc ownB
  rw [if_pos (.inl rfl), show zig 300 = 600 from rfl, h]
  rfl

theorem conv_lit0 (W : World) (C : Array Value) (m c : Nat) :
    (convert 26 26 (.slice (some ⟨W.heap.size, 0, none⟩) m c)).run Tryd.prog (W.alloc (.cells C 5)) = .ok (.slice (some ⟨W.heap.size, 0, none⟩) m c) (W.alloc (.cells C 5 (C.size, C.size + 1))) :=
  Joins.run_convert_bytes_const_at W _ _ C m c _ rfl Tryd.underlying26 Tryd.underlying5
theorem alloc_new2 (W : World) (o : Obj) : (W.alloc o).heap[W.heap.size]? = some o := World.alloc_heap_new W _
/-- bytes of a block of one's own -/
theorem bs_new (W : World) (l : List UInt8) (fr : Nat × Nat) (hl : l.length ≤ 1000000) : Bs (W.alloc (.cells (l.map bv).toArray 5 fr)) (.slice (some ⟨W.heap.size, 0, none⟩) l.length l.length) l :=
  ⟨_, l.length, rfl, Nat.le_refl _, by omega, fun _ => ⟨W.heap.size, 0, rfl, fun j x hj => by
    rw [cell_of_row _ _ _ _ _ _ (alloc_new2 W _)]
    simp [hj, bv]⟩⟩
theorem dvis0 (W : World) {kd di : Int} (h : I64 kd ∧ I64 di) : DvIs W 1 [.int .i64 kd, .int .i64 di, .int .u64 0, .string ⟨#[]⟩, .slice none 0 0] (.mk kd di 0 ⟨#[]⟩ []) :=
  ⟨none, 0, rfl, h.1, h.2, ⟨Int.le_refl 0, by decide⟩, Nat.le_refl 0, Nat.zero_le _, fun h => absurd h (Nat.lt_irrefl 0)⟩
def AwPost (w : World) (r : Ending) (w' : World) : Prop := r = .returned (.bool true) ∧ Below w.heap.size w w'
set_option maxRecDepth 100000 in
set_option maxHeartbeats 4000000 in
theorem awake_any (w : World) (hT : Tabs w) : Calls Tryd.prog 17 #[] w (AwPost w) := by
  obtain ⟨PP, hPP⟩ : ∃ PP, AwPost w = PP := ⟨_, rfl⟩
  rw [hPP]
  have HPP := Lib.hid hPP
  have HTB := Lib.hid hT
  have i0 : I64 0 := by unfold I64; omega
  have i1 : I64 1 := by unfold I64; omega
  have i300 : I64 300 := by unfold I64; omega
  have HI := Lib.hid i0
  have CE : Hid (Calls Tryd.prog 19 #[.agg #[.int .i64 0, .string ⟨#[116]⟩, .int .i64 0, .int .i64 0, .int .u64 0, .string ⟨#[]⟩, .slice none 0 0, .int .i64 0, .int .i64 0, .string ⟨#[]⟩, .int .i64 0, .int .i64 0, .int .i64 0]] w (BPost frA w)) := by
    have h := encode_any 1 w 0 0 0 0 0 0 ⟨#[116]⟩ ⟨#[]⟩ 0 0 0 ⟨#[]⟩ none 0 0 [] (dvis0 w ⟨i0, i0⟩) (by intro x hx; simp at hx; subst hx; exact i0) (by decide) (by decide) (by decide)
    rw [frame_aw] at h
    exact h
  have CDA : Hid (∀ W, Calls Tryd.prog 11 #[.agg #[.int .i64 1, .int .i64 300, .int .u64 0, .string ⟨#[]⟩, .slice none 0 0]] W (BPost [1, 216, 4] W)) := fun W => by
    have h := wdatum_top 1 W 1 300 0 ⟨#[]⟩ none 0 0 [] (dvis0 W ⟨i1, i300⟩) (by rw [dat_aw]; decide)
    rw [dat_aw] at h
    exact h
  clear hPP hT i0 i1 i300
  go_enter Tryd.func17, Tryd.ntmps17
  go_wp2_with fail
  refine CE.out.mono ?_
  rintro e W1 ⟨v1, rfl, hr1, hb1⟩
  obtain ⟨q1, m1, cc1, rfl⟩ := row_val hr1
  have hbs1 := bs_of_own hr1
  obtain rfl : m1 = 15 := hbs1.len.1
  obtain ⟨bf, of, rfl, hcf⟩ := hbs1.addr (by decide)
  have HB1 := Lib.hid hb1
  have HS1 := Lib.hid hbs1
  have CD : Hid (Calls Tryd.prog 22 #[.slice (some ⟨bf, of, none⟩) 15 cc1] W1 (DecOut frA W1)) := decode_any frA _ W1 hbs1 (by decide) (HTB.out.below hb1)
  have hfl := World.block_lt_of_cell? W1 _ (hcf 2 10 rfl)
  have HF2 : Hid (W1.cell? ⟨bf, of + 2, none⟩ = some (.int .u8 10)) := hcf 2 10 rfl
  clear hr1 hb1 hbs1 hcf CE
  go_wp2_with fail
  refine CD.out.mono ?_
  rintro e W2 ⟨n0, n1, n2, n3, n4, n5, tp, rp, kd, di, db, ds, q, n, c, k, er, rfl, hb2, hd⟩
  rw [dec_aw] at hd
  obtain ⟨rfl, rfl, -, hd1, -, -⟩ := hd
  subst hd1
  have HB2 := Lib.hid (HB1.out.trans (hb2.mono HB1.out.size))
  have hf2 : W2.cell? ⟨bf, of + 2, none⟩ = some (.int .u8 10) := (hb2.cell hfl).trans HF2.out
  have hfl2 : bf < W2.heap.size := Nat.lt_of_lt_of_le hfl hb2.size
  clear hb2 CD hfl
  obtain ⟨A, hA⟩ : ∃ A, W2.alloc (.cells #[.int .i64 n0, .string ⟨#[116]⟩, .int .i64 kd, .int .i64 di, .int .u64 db, .string ds, .slice q n c, .int .i64 n1, .int .i64 n2, .string rp, .int .i64 n3, .int .i64 n4, .int .i64 n5] 39) = A := ⟨_, rfl⟩
  have BA : Hid (Below w.heap.size w A) := by show Below _ _ _; rw [← hA]; exact HB2.out.alloc HB2.out.size _
  have MAx : Hid (A.heap[W2.heap.size]? = some (.cells #[.int .i64 n0, .string ⟨#[116]⟩, .int .i64 kd, .int .i64 di, .int .u64 db, .string ds, .slice q n c, .int .i64 n1, .int .i64 n2, .string rp, .int .i64 n3, .int .i64 n4, .int .i64 n5] 39 (0, 0))) := by show _ = _; rw [← hA]; exact heap_alloc_new W2 _
  have FA : Hid (A.cell? ⟨bf, of + 2, none⟩ = some (.int .u8 10) ∧ bf < A.heap.size) := by
    show _ ∧ _
    rw [← hA]
    exact ⟨(((Below.refl _ W2).alloc (Nat.le_refl _) _).cell hfl2).trans hf2, by rw [World.size_alloc]; omega⟩
  have CR : Hid (∀ W, Bs W (.slice (some ⟨A.heap.size, 0, none⟩) 1 1) [1] → Calls Tryd.prog 14 #[.slice (some ⟨A.heap.size, 0, none⟩) 1 1] W (RdPost (valD 16 1 4095 [1]) W)) := fun W h => readDatum_any [1] _ W h (by decide)
  have HAA := Lib.hid hA
  clear hA hf2 hfl2
  go_upto_region 3 with fail
  rw [HAA.out]
  go_wp2_with fail
  refine (CR.out _ (bs_new A [1] (0, 0) (by decide))).mono ?_
  rintro e W3 ⟨kd2, di2, db2, ds2, p2, n2', c2, k2, e2, rfl, hb3, hr3⟩
  rw [read_aw] at hr3
  obtain ⟨rfl, rfl, -⟩ := hr3
  have bA : Below A.heap.size A (A.alloc (.cells #[.int .u8 1] 5)) := (Below.refl _ _).alloc (Nat.le_refl _) _
  have BA3 : Below A.heap.size A W3 := bA.trans (hb3.mono (by simp))
  obtain ⟨B, hB⟩ : ∃ B, W3.alloc (.cells #[.int .i64 kd2, .int .i64 di2, .int .u64 db2, .string ds2, .slice p2 n2' c2] 25) = B := ⟨_, rfl⟩
  have BAB : Hid (Below A.heap.size A B) := by show Below _ _ _; rw [← hB]; exact BA3.alloc BA3.size _
  have BB : Hid (Below w.heap.size w B) := BA.out.trans (BAB.out.mono BA.out.size)
  have FB : Hid (B.cell? ⟨bf, of + 2, none⟩ = some (.int .u8 10) ∧ bf < B.heap.size) := ⟨(BAB.out.cell FA.out.2).trans FA.out.1, Nat.lt_of_lt_of_le FA.out.2 BAB.out.size⟩
  have MB : Hid (B.heap[W2.heap.size]? = some (.cells #[.int .i64 n0, .string ⟨#[116]⟩, .int .i64 kd, .int .i64 di, .int .u64 db, .string ds, .slice q n c, .int .i64 n1, .int .i64 n2, .string rp, .int .i64 n3, .int .i64 n4, .int .i64 n5] 39 (0, 0))) := (BAB.out.block _ (Array.getElem?_eq_some_iff.1 MAx.out).1).trans MAx.out
  have HBB := Lib.hid hB
  clear hb3 bA BA3 hB
  go_upto_region 4 with fail
  rw [HBB.out]
  have cv := conv_lit0 B #[.int .u8 49, .int .u8 50, .int .u8 51, .int .u8 52, .int .u8 53, .int .u8 54, .int .u8 55, .int .u8 56, .int .u8 57] 9 9
  have CSm : Hid (Calls Tryd.prog 25 #[.slice (some ⟨B.heap.size, 0, none⟩) 9 9] (B.alloc (.cells #[.int .u8 49, .int .u8 50, .int .u8 51, .int .u8 52, .int .u8 53, .int .u8 54, .int .u8 55, .int .u8 56, .int .u8 57] 5 (9, 10))) fun e w' => e = .returned (.int .u16 10673) ∧ w' = B.alloc (.cells #[.int .u8 49, .int .u8 50, .int .u8 51, .int .u8 52, .int .u8 53, .int .u8 54, .int .u8 55, .int .u8 56, .int .u8 57] 5 (9, 10))) := by
    have h := sum_any (some ⟨B.heap.size, 0, none⟩) 9 [49, 50, 51, 52, 53, 54, 55, 56, 57] _ (bs_new B [49, 50, 51, 52, 53, 54, 55, 56, 57] (9, 10) (by decide))
    rw [sum_aw] at h
    exact h
  have hcB := FB.out.1
  have hlB := FB.out.2
  have hmB := MB.out
  have hcC : (B.alloc (.cells #[.int .u8 49, .int .u8 50, .int .u8 51, .int .u8 52, .int .u8 53, .int .u8 54, .int .u8 55, .int .u8 56, .int .u8 57] 5 (9, 10))).cell? ⟨bf, of + 2, none⟩ = some (.int .u8 10) := (((Below.refl _ B).alloc (Nat.le_refl _) _).cell hlB).trans hcB
  have hmC : (B.alloc (.cells #[.int .u8 49, .int .u8 50, .int .u8 51, .int .u8 52, .int .u8 53, .int .u8 54, .int .u8 55, .int .u8 56, .int .u8 57] 5 (9, 10))).cell? ⟨W2.heap.size, 1, none⟩ = some (.string ⟨#[116]⟩) := by
    rw [((Below.refl _ B).alloc (Nat.le_refl _) _).cell (Array.getElem?_eq_some_iff.1 hmB).1, cell_of_row _ _ _ _ _ _ hmB]
    rfl
  clear hcB hmB
  go_wp2_with fail
  refine CSm.out.mono ?_
  rintro e W4 ⟨rfl, rfl⟩
  go_wp2_with fail
  refine (CDA.out _).mono ?_
  rintro e W5 ⟨v5, rfl, hr5, hb5⟩
  obtain ⟨q5, m5, c5, rfl⟩ := row_val hr5
  have htx := (bs_of_own hr5).text
  rw [show ba [1, 216, 4] = (⟨#[1, 216, 4]⟩ : ByteArray) from rfl] at htx
  have HB5 : Hid (Below w.heap.size w W5) := (BB.out.alloc BB.out.size _).trans (hb5.mono (by have := BB.out.size; simp; omega))
  clear hr5 hb5
  go_wp2_with fail
  rw [← HPP.out]
  exact ⟨rfl, HB5.out⟩
end Go.Proofs.YtmncpbfghabamaaDoor
