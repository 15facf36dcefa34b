/- WIRE: what the chapter's examples answer. -/
import Derived.Test.YtmncpbfghabamaaDoorWireWDec
namespace Go.Proofs.YtmncpbfghabamaaDoor
open Go Go.RowKit

def frA : List UInt8 := [167, 1, 10, 0, 0, 0, 0, 0, 0, 1, 116, 0, 0, 147, 69]
theorem body_aw : bodyB [0, 0, 0, 0, 0, 0] ⟨#[116]⟩ ⟨#[]⟩ (.mk 0 0 0 ⟨#[]⟩ []) = [0, 0, 0, 0, 0, 0, 1, 116, 0, 0] := by
  have h0 : numB 0 = [0] := by rw [numB_small (by decide)]; rfl
  have h1 : numB 1 = [1] := by rw [numB_small (by decide)]; rfl
  unfold bodyB sigsB txtB
  rw [show (⟨#[116]⟩ : ByteArray).size = 1 from rfl, show (⟨#[]⟩ : ByteArray).size = 0 from rfl]
  simp only [List.flatMap_cons, List.flatMap_nil, h0, h1, show zig 0 = 0 from rfl]
  rfl
theorem crc_aw : crcB [0, 0, 0, 0, 0, 0, 1, 116, 0, 0] = [147, 69] := by kernel_rfl
theorem frame_aw : frameB (bodyB [0, 0, 0, 0, 0, 0] ⟨#[116]⟩ ⟨#[]⟩ (.mk 0 0 0 ⟨#[]⟩ [])) = frA := by
  rw [body_aw]
  unfold frameB
  rw [if_neg (by decide), crc_aw, show ([0, 0, 0, 0, 0, 0, 1, 116, 0, 0] : List UInt8).length = 10 from rfl, numB_small (by decide)]
  rfl
theorem dec_aw : decD frA = .ok ([0, 0, 0, 0, 0, 0], ⟨#[116]⟩, ⟨#[]⟩, .mk 0 0 0 ⟨#[]⟩ []) 15 := by kernel_rfl
theorem read_aw : valD 16 1 4095 [1] = .short := by kernel_rfl
theorem sum_aw : (crc [49, 50, 51, 52, 53, 54, 55, 56, 57]).toNat = 10673 := by kernel_rfl
theorem dat_aw : enc (.mk 1 300 0 ⟨#[]⟩ []) = [1, 216, 4] := by
  have h : numB 600 = [216, 4] := by rw [numB_big (by decide), numB_small (by decide)]; rfl
  unfold enc ownB
  rw [if_pos (.inl rfl), show zig 300 = 600 from rfl, h]
  rfl
end Go.Proofs.YtmncpbfghabamaaDoor
