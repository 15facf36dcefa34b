/- WIRE: datum.fits where the fields are fit. -/
import Derived.Test.YtmncpbfghabamaaDoorWireRt
namespace Go.Proofs.YtmncpbfghabamaaDoor
open Go Go.RowKit

def FtPost (w : World) (r : Ending) (w' : World) : Prop := r = .returned (.bool true) ∧ Below w.heap.size w w'
set_option maxRecDepth 100000 in
set_option maxHeartbeats 4000000 in
theorem fits_k0 (w : World) (di db : Int) (ds : ByteArray) (p : Option Addr) (n cap : Nat) (hF : FairV 0 di db ds n) :
    Calls Tryd.prog 80 #[.agg #[.int .i64 0, .int .i64 di, .int .u64 db, .string ds, .slice p n cap]] w (FtPost w) := by
  obtain ⟨PP, hPP⟩ : ∃ PP, FtPost w = PP := ⟨_, rfl⟩
  rw [hPP]
  have HPP := Lib.hid hPP
  clear hPP
  obtain rfl : di = 0 := by have := hF.2.2.2.1; omega
  obtain rfl : db = 0 := by have := hF.2.2.2.2.1; omega
  obtain rfl : ds = ⟨#[]⟩ := by rcases hF.2.2.2.2.2.1 with h | h | h | h | h <;> first | exact h | omega
  obtain rfl : n = 0 := by have := hF.2.2.2.2.2.2.2.2; omega
  clear hF
  go_enter Tryd.func80, Tryd.ntmps80
  go_wp2_with fail
  rw [← HPP.out]
  exact ⟨rfl, (Below.refl _ _).alloc (Nat.le_refl _) _⟩
set_option maxRecDepth 100000 in
set_option maxHeartbeats 4000000 in
theorem fits_k1 (w : World) (di db : Int) (ds : ByteArray) (p : Option Addr) (n cap : Nat) (hF : FairV 1 di db ds n) :
    Calls Tryd.prog 80 #[.agg #[.int .i64 1, .int .i64 di, .int .u64 db, .string ds, .slice p n cap]] w (FtPost w) := by
  obtain ⟨PP, hPP⟩ : ∃ PP, FtPost w = PP := ⟨_, rfl⟩
  rw [hPP]
  have HPP := Lib.hid hPP
  clear hPP
  obtain rfl : db = 0 := by have := hF.2.2.2.2.1; omega
  obtain rfl : ds = ⟨#[]⟩ := by rcases hF.2.2.2.2.2.1 with h | h | h | h | h <;> first | exact h | omega
  obtain rfl : n = 0 := by have := hF.2.2.2.2.2.2.2.2; omega
  clear hF
  go_enter Tryd.func80, Tryd.ntmps80
  go_wp2_with fail
  rw [← HPP.out]
  exact ⟨rfl, (Below.refl _ _).alloc (Nat.le_refl _) _⟩
set_option maxRecDepth 100000 in
set_option maxHeartbeats 4000000 in
theorem fits_k2 (w : World) (di db : Int) (ds : ByteArray) (p : Option Addr) (n cap : Nat) (hF : FairV 2 di db ds n) :
    Calls Tryd.prog 80 #[.agg #[.int .i64 2, .int .i64 di, .int .u64 db, .string ds, .slice p n cap]] w (FtPost w) := by
  obtain ⟨PP, hPP⟩ : ∃ PP, FtPost w = PP := ⟨_, rfl⟩
  rw [hPP]
  have HPP := Lib.hid hPP
  clear hPP
  obtain rfl : db = 0 := by have := hF.2.2.2.2.1; omega
  obtain rfl : ds = ⟨#[]⟩ := by rcases hF.2.2.2.2.2.1 with h | h | h | h | h <;> first | exact h | omega
  obtain rfl : n = 0 := by have := hF.2.2.2.2.2.2.2.2; omega
  clear hF
  go_enter Tryd.func80, Tryd.ntmps80
  go_wp2_with fail
  rw [← HPP.out]
  exact ⟨rfl, (Below.refl _ _).alloc (Nat.le_refl _) _⟩
set_option maxRecDepth 100000 in
set_option maxHeartbeats 4000000 in
theorem fits_k3 (w : World) (di db : Int) (ds : ByteArray) (p : Option Addr) (n cap : Nat) (hF : FairV 3 di db ds n) :
    Calls Tryd.prog 80 #[.agg #[.int .i64 3, .int .i64 di, .int .u64 db, .string ds, .slice p n cap]] w (FtPost w) := by
  obtain ⟨PP, hPP⟩ : ∃ PP, FtPost w = PP := ⟨_, rfl⟩
  rw [hPP]
  have HPP := Lib.hid hPP
  clear hPP
  obtain rfl : di = 0 := by have := hF.2.2.2.1; omega
  obtain rfl : ds = ⟨#[]⟩ := by rcases hF.2.2.2.2.2.1 with h | h | h | h | h <;> first | exact h | omega
  obtain rfl : n = 0 := by have := hF.2.2.2.2.2.2.2.2; omega
  clear hF
  go_enter Tryd.func80, Tryd.ntmps80
  go_wp2_with fail
  rw [← HPP.out]
  exact ⟨rfl, (Below.refl _ _).alloc (Nat.le_refl _) _⟩
set_option maxRecDepth 100000 in
set_option maxHeartbeats 4000000 in
theorem fits_k4 (w : World) (di db : Int) (ds : ByteArray) (p : Option Addr) (n cap : Nat) (hF : FairV 4 di db ds n) :
    Calls Tryd.prog 80 #[.agg #[.int .i64 4, .int .i64 di, .int .u64 db, .string ds, .slice p n cap]] w (FtPost w) := by
  obtain ⟨PP, hPP⟩ : ∃ PP, FtPost w = PP := ⟨_, rfl⟩
  rw [hPP]
  have HPP := Lib.hid hPP
  clear hPP
  obtain rfl : di = 0 := by have := hF.2.2.2.1; omega
  obtain rfl : db = 0 := by have := hF.2.2.2.2.1; omega
  have hsz : (ds.size : Int) ≤ 65535 := by have := hF.2.2.1; omega
  obtain rfl : n = 0 := by have := hF.2.2.2.2.2.2.2.2; omega
  clear hF
  go_enter Tryd.func80, Tryd.ntmps80
  go_wp2_with fail
  rw [← HPP.out]
  exact ⟨rfl, (Below.refl _ _).alloc (Nat.le_refl _) _⟩
set_option maxRecDepth 100000 in
set_option maxHeartbeats 4000000 in
theorem fits_k5 (w : World) (di db : Int) (ds : ByteArray) (p : Option Addr) (n cap : Nat) (hF : FairV 5 di db ds n) :
    Calls Tryd.prog 80 #[.agg #[.int .i64 5, .int .i64 di, .int .u64 db, .string ds, .slice p n cap]] w (FtPost w) := by
  obtain ⟨PP, hPP⟩ : ∃ PP, FtPost w = PP := ⟨_, rfl⟩
  rw [hPP]
  have HPP := Lib.hid hPP
  clear hPP
  obtain rfl : di = 0 := by have := hF.2.2.2.1; omega
  obtain rfl : db = 0 := by have := hF.2.2.2.2.1; omega
  have hsz : (ds.size : Int) ≤ 65535 := by have := hF.2.2.1; omega
  obtain rfl : n = 0 := by have := hF.2.2.2.2.2.2.2.2; omega
  clear hF
  go_enter Tryd.func80, Tryd.ntmps80
  go_wp2_with fail
  rw [← HPP.out]
  exact ⟨rfl, (Below.refl _ _).alloc (Nat.le_refl _) _⟩
set_option maxRecDepth 100000 in
set_option maxHeartbeats 4000000 in
theorem fits_k6 (w : World) (di db : Int) (ds : ByteArray) (p : Option Addr) (n cap : Nat) (hF : FairV 6 di db ds n) :
    Calls Tryd.prog 80 #[.agg #[.int .i64 6, .int .i64 di, .int .u64 db, .string ds, .slice p n cap]] w (FtPost w) := by
  obtain ⟨PP, hPP⟩ : ∃ PP, FtPost w = PP := ⟨_, rfl⟩
  rw [hPP]
  have HPP := Lib.hid hPP
  clear hPP
  rcases hF.2.2.2.2.2.2.1 rfl with rfl | rfl
  all_goals
    obtain rfl : db = 0 := by have := hF.2.2.2.2.1; omega
    obtain rfl : ds = ⟨#[]⟩ := by rcases hF.2.2.2.2.2.1 with h | h | h | h | h <;> first | exact h | omega
    obtain rfl : n = 0 := by have := hF.2.2.2.2.2.2.2.2; omega
    clear hF
    go_enter Tryd.func80, Tryd.ntmps80
    go_wp2_with fail
    rw [← HPP.out]
    exact ⟨rfl, (Below.refl _ _).alloc (Nat.le_refl _) _⟩
set_option maxRecDepth 100000 in
set_option maxHeartbeats 4000000 in
theorem fits_k7 (w : World) (di db : Int) (ds : ByteArray) (p : Option Addr) (n cap : Nat) (hF : FairV 7 di db ds n) :
    Calls Tryd.prog 80 #[.agg #[.int .i64 7, .int .i64 di, .int .u64 db, .string ds, .slice p n cap]] w (FtPost w) := by
  obtain ⟨PP, hPP⟩ : ∃ PP, FtPost w = PP := ⟨_, rfl⟩
  rw [hPP]
  have HPP := Lib.hid hPP
  clear hPP
  obtain rfl : di = 0 := by have := hF.2.2.2.1; omega
  obtain rfl : db = 0 := by have := hF.2.2.2.2.1; omega
  have hsz : (ds.size : Int) ≤ 65535 := by have := hF.2.2.1; omega
  obtain rfl : n = 0 := by have := hF.2.2.2.2.2.2.2.2; omega
  clear hF
  go_enter Tryd.func80, Tryd.ntmps80
  go_wp2_with fail
  rw [← HPP.out]
  exact ⟨rfl, (Below.refl _ _).alloc (Nat.le_refl _) _⟩
set_option maxRecDepth 100000 in
set_option maxHeartbeats 4000000 in
theorem fits_k8 (w : World) (di db : Int) (ds : ByteArray) (p : Option Addr) (n cap : Nat) (hF : FairV 8 di db ds n) :
    Calls Tryd.prog 80 #[.agg #[.int .i64 8, .int .i64 di, .int .u64 db, .string ds, .slice p n cap]] w (FtPost w) := by
  obtain ⟨PP, hPP⟩ : ∃ PP, FtPost w = PP := ⟨_, rfl⟩
  rw [hPP]
  have HPP := Lib.hid hPP
  clear hPP
  obtain rfl : di = 0 := by have := hF.2.2.2.1; omega
  obtain rfl : db = 0 := by have := hF.2.2.2.2.1; omega
  obtain rfl : ds = ⟨#[]⟩ := by rcases hF.2.2.2.2.2.1 with h | h | h | h | h <;> first | exact h | omega
  clear hF
  go_enter Tryd.func80, Tryd.ntmps80
  go_wp2_with fail
  rw [← HPP.out]
  exact ⟨rfl, (Below.refl _ _).alloc (Nat.le_refl _) _⟩
set_option maxRecDepth 100000 in
set_option maxHeartbeats 4000000 in
theorem fits_k9 (w : World) (di db : Int) (ds : ByteArray) (p : Option Addr) (n cap : Nat) (hF : FairV 9 di db ds n) :
    Calls Tryd.prog 80 #[.agg #[.int .i64 9, .int .i64 di, .int .u64 db, .string ds, .slice p n cap]] w (FtPost w) := by
  obtain ⟨PP, hPP⟩ : ∃ PP, FtPost w = PP := ⟨_, rfl⟩
  rw [hPP]
  have HPP := Lib.hid hPP
  clear hPP
  obtain rfl : di = 0 := by have := hF.2.2.2.1; omega
  obtain rfl : db = 0 := by have := hF.2.2.2.2.1; omega
  obtain rfl : ds = ⟨#[]⟩ := by rcases hF.2.2.2.2.2.1 with h | h | h | h | h <;> first | exact h | omega
  obtain rfl : n = 2 := by have := hF.2.2.2.2.2.2.2.2; omega
  clear hF
  go_enter Tryd.func80, Tryd.ntmps80
  go_wp2_with fail
  rw [← HPP.out]
  exact ⟨rfl, (Below.refl _ _).alloc (Nat.le_refl _) _⟩
set_option maxRecDepth 100000 in
set_option maxHeartbeats 4000000 in
theorem fits_k10 (w : World) (di db : Int) (ds : ByteArray) (p : Option Addr) (n cap : Nat) (hF : FairV 10 di db ds n) :
    Calls Tryd.prog 80 #[.agg #[.int .i64 10, .int .i64 di, .int .u64 db, .string ds, .slice p n cap]] w (FtPost w) := by
  obtain ⟨PP, hPP⟩ : ∃ PP, FtPost w = PP := ⟨_, rfl⟩
  rw [hPP]
  have HPP := Lib.hid hPP
  clear hPP
  obtain rfl : db = 0 := by have := hF.2.2.2.2.1; omega
  have hsz : (ds.size : Int) ≤ 65535 := by have := hF.2.2.1; omega
  obtain rfl : n = 0 := by have := hF.2.2.2.2.2.2.2.2; omega
  clear hF
  go_enter Tryd.func80, Tryd.ntmps80
  go_wp2_with fail
  rw [← HPP.out]
  exact ⟨rfl, (Below.refl _ _).alloc (Nat.le_refl _) _⟩
set_option maxRecDepth 100000 in
set_option maxHeartbeats 4000000 in
theorem fits_k11 (w : World) (di db : Int) (ds : ByteArray) (p : Option Addr) (n cap : Nat) (hF : FairV 11 di db ds n) :
    Calls Tryd.prog 80 #[.agg #[.int .i64 11, .int .i64 di, .int .u64 db, .string ds, .slice p n cap]] w (FtPost w) := by
  obtain ⟨PP, hPP⟩ : ∃ PP, FtPost w = PP := ⟨_, rfl⟩
  rw [hPP]
  have HPP := Lib.hid hPP
  clear hPP
  have hl1 : ¬ di < 1 := by have := hF.2.2.2.2.2.2.2.1 rfl; omega
  obtain rfl : db = 0 := by have := hF.2.2.2.2.1; omega
  obtain rfl : ds = ⟨#[]⟩ := by rcases hF.2.2.2.2.2.1 with h | h | h | h | h <;> first | exact h | omega
  obtain rfl : n = 1 := by have := hF.2.2.2.2.2.2.2.2; omega
  clear hF
  go_enter Tryd.func80, Tryd.ntmps80
  go_wp2_with fail
  rw [← HPP.out]
  exact ⟨rfl, (Below.refl _ _).alloc (Nat.le_refl _) _⟩
set_option maxRecDepth 100000 in
set_option maxHeartbeats 4000000 in
theorem fits_k12 (w : World) (di db : Int) (ds : ByteArray) (p : Option Addr) (n cap : Nat) (hF : FairV 12 di db ds n) :
    Calls Tryd.prog 80 #[.agg #[.int .i64 12, .int .i64 di, .int .u64 db, .string ds, .slice p n cap]] w (FtPost w) := by
  obtain ⟨PP, hPP⟩ : ∃ PP, FtPost w = PP := ⟨_, rfl⟩
  rw [hPP]
  have HPP := Lib.hid hPP
  clear hPP
  obtain rfl : di = 0 := by have := hF.2.2.2.1; omega
  obtain rfl : db = 0 := by have := hF.2.2.2.2.1; omega
  obtain rfl : ds = ⟨#[]⟩ := by rcases hF.2.2.2.2.2.1 with h | h | h | h | h <;> first | exact h | omega
  obtain rfl : n = 0 := by have := hF.2.2.2.2.2.2.2.2; omega
  clear hF
  go_enter Tryd.func80, Tryd.ntmps80
  go_wp2_with fail
  rw [← HPP.out]
  exact ⟨rfl, (Below.refl _ _).alloc (Nat.le_refl _) _⟩
set_option maxRecDepth 100000 in
set_option maxHeartbeats 4000000 in
theorem fits_k13 (w : World) (di db : Int) (ds : ByteArray) (p : Option Addr) (n cap : Nat) (hF : FairV 13 di db ds n) :
    Calls Tryd.prog 80 #[.agg #[.int .i64 13, .int .i64 di, .int .u64 db, .string ds, .slice p n cap]] w (FtPost w) := by
  obtain ⟨PP, hPP⟩ : ∃ PP, FtPost w = PP := ⟨_, rfl⟩
  rw [hPP]
  have HPP := Lib.hid hPP
  clear hPP
  obtain rfl : di = 0 := by have := hF.2.2.2.1; omega
  obtain rfl : db = 0 := by have := hF.2.2.2.2.1; omega
  obtain rfl : ds = ⟨#[]⟩ := by rcases hF.2.2.2.2.2.1 with h | h | h | h | h <;> first | exact h | omega
  obtain rfl : n = 0 := by have := hF.2.2.2.2.2.2.2.2; omega
  clear hF
  go_enter Tryd.func80, Tryd.ntmps80
  go_wp2_with fail
  rw [← HPP.out]
  exact ⟨rfl, (Below.refl _ _).alloc (Nat.le_refl _) _⟩
theorem fits_true (w : World) (kd di db : Int) (ds : ByteArray) (p : Option Addr) (n cap : Nat) (hF : FairV kd di db ds n) :
    Calls Tryd.prog 80 #[.agg #[.int .i64 kd, .int .i64 di, .int .u64 db, .string ds, .slice p n cap]] w (FtPost w) := by
  by_cases h0 : kd = 0
  · subst h0; exact fits_k0 w di db ds p n cap hF
  by_cases h1 : kd = 1
  · subst h1; exact fits_k1 w di db ds p n cap hF
  by_cases h2 : kd = 2
  · subst h2; exact fits_k2 w di db ds p n cap hF
  by_cases h3 : kd = 3
  · subst h3; exact fits_k3 w di db ds p n cap hF
  by_cases h4 : kd = 4
  · subst h4; exact fits_k4 w di db ds p n cap hF
  by_cases h5 : kd = 5
  · subst h5; exact fits_k5 w di db ds p n cap hF
  by_cases h6 : kd = 6
  · subst h6; exact fits_k6 w di db ds p n cap hF
  by_cases h7 : kd = 7
  · subst h7; exact fits_k7 w di db ds p n cap hF
  by_cases h8 : kd = 8
  · subst h8; exact fits_k8 w di db ds p n cap hF
  by_cases h9 : kd = 9
  · subst h9; exact fits_k9 w di db ds p n cap hF
  by_cases h10 : kd = 10
  · subst h10; exact fits_k10 w di db ds p n cap hF
  by_cases h11 : kd = 11
  · subst h11; exact fits_k11 w di db ds p n cap hF
  by_cases h12 : kd = 12
  · subst h12; exact fits_k12 w di db ds p n cap hF
  by_cases h13 : kd = 13
  · subst h13; exact fits_k13 w di db ds p n cap hF
  exfalso
  have h1 := hF.1
  have h2 := hF.2.1
  omega
end Go.Proofs.YtmncpbfghabamaaDoor
