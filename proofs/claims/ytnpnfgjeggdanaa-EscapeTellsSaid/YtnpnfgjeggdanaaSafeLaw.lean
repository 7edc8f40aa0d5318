/- EscapeSafe: the plain law and the walk. UNDER WAY. -/
import Derived.Test.YtnpnfgjeggdanaaAlive
namespace Go.Proofs.Ytnpnfgjeggdanaa
open Go.RowKit Go.Lib

theorem enc_bytes_fin : ∀ n : Fin 256, ∀ b ∈ encByte (UInt8.ofNat n.val), 33 ≤ b.toNat ∧ b.toNat ≤ 126 := by decide +kernel
theorem enc_bytes (l : List UInt8) : ∀ b ∈ encL l, 33 ≤ b.toNat ∧ b.toNat ≤ 126 := by
  intro b hb
  obtain ⟨c, _, hc⟩ := List.mem_flatMap.1 hb
  have := enc_bytes_fin ⟨c.toNat, c.toNat_lt⟩ b (by simpa using hc)
  exact this
theorem esc_bytes_fin : ∀ n : Fin 256, ∀ b ∈ escByte (UInt8.ofNat n.val), b ≠ 60 ∧ b ≠ 62 ∧ b ≠ 34 ∧ b ≠ 0 := by decide +kernel
theorem esc_bytes (l : List UInt8) : ∀ b ∈ escL l, b ≠ 60 ∧ b ≠ 62 ∧ b ≠ 34 ∧ b ≠ 0 := by
  intro b hb
  obtain ⟨c, _, hc⟩ := List.mem_flatMap.1 hb
  have := esc_bytes_fin ⟨c.toNat, c.toNat_lt⟩ b (by simpa using hc)
  exact this
end Go.Proofs.Ytnpnfgjeggdanaa
