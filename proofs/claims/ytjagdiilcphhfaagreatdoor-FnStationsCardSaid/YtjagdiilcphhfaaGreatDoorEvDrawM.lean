/- The draws of messages and signals. -/
import Derived.Test.YtjagdiilcphhfaaGreatDoorEvDrawBs
import Derived.Test.YtjagdiilcphhfaaGreatDoorEvExact
set_option linter.unusedVariables false
set_option linter.unusedSimpArgs false
namespace Go.Proofs.YtjagdiilcphhfaaGreatDoor.Ev.Dr
/-- A letter as a text. -/
def letB (k : Int) : ByteArray := ⟨#[UInt8.ofNat (IntKind.u8.wrap (97 + k)).toNat]⟩
theorem letB_sz (k : Int) : (letB k).size = 1 := rfl
theorem letter_s (k : Int) (h0 : 0 ≤ k) (h1 : k ≤ 1000000) : ev E0 92 [i64 k] [] = some (st (letB k), []) := by
  have hw : IntKind.i64.wrap (97 + k) = 97 + k := wr64 (by omega) (by omega)
  rw [e92]
  unfold runF letB
  simp -implicitDefEqProofs [L92, hw, b2sR, b2sL, bytesOf]
theorem enc_sz (ms : List ByteArray) (hz : ∀ m ∈ ms, m.size ≤ 20) (s : ByteArray) (hs : s.size ≤ 12) : (enc ms s).size ≤ 252 := by
  have h := encL_sz hz s (B s) 0 ⟨#[]⟩
  have h0 : (⟨#[]⟩ : ByteArray).size = 0 := rfl
  rw [B_len, h0] at h
  unfold enc
  omega
end Go.Proofs.YtjagdiilcphhfaaGreatDoor.Ev.Dr
