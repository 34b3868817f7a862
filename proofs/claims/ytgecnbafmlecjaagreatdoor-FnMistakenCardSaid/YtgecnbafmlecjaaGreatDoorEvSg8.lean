/- Messages without gaps and their marks counted, both programs. -/
import Derived.Test.YtgecnbafmlecjaaGreatDoorEvSg7
set_option linter.unusedVariables false
set_option linter.unusedSimpArgs false
namespace Go.Proofs.YtgecnbafmlecjaaGreatDoor.Ev
theorem enc_small {ms : List ByteArray} (ho : okTable ms = true) {s : ByteArray} (hs : okMsg ms.length s = true) : (enc ms s).size ≤ 300 := by
  obtain ⟨h1, h2⟩ := okMsg_msgL hs
  have := encL_sz (tab_sizes ho).2 s (B s) 0 ⟨#[]⟩
  have h0 : (⟨#[]⟩ : ByteArray).size = 0 := rfl
  rw [B_len] at this
  have h3 : s.size * (20 + 1) ≤ 12 * 21 := Nat.mul_le_mul_right 21 h2
  unfold enc
  omega
end Go.Proofs.YtgecnbafmlecjaaGreatDoor.Ev
