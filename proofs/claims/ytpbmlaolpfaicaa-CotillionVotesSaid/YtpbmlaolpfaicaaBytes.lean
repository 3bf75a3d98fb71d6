/- Plain laws of rows of bytes. -/
import Derived.Test.YtpbmlaolpfaicaaNum
namespace Go.AEX
open Go Go.AE
set_option linter.unusedVariables false
set_option linter.unusedSimpArgs false

theorem bytes_len (s : List UInt8) : (AE.bytes s).length = s.length := by simp [AE.bytes]
theorem bytes_sub (s : List UInt8) (i n : Nat) : sub (AE.bytes s) i n = AE.bytes ((s.drop i).take n) := by simp [sub, AE.bytes, List.map_take, List.map_drop]
theorem bytes_to (s : List UInt8) : toBytes (AE.bytes s) = s := by
  unfold toBytes AE.bytes
  rw [List.map_map]
  conv => rhs; rw [← List.map_id s]
  apply List.map_congr_left
  intro b _
  simp
theorem bytes_all (s : List UInt8) : allU8 (AE.bytes s) := by
  intro x hx
  simp only [AE.bytes, List.mem_map] at hx
  obtain ⟨b, _, rfl⟩ := hx
  exact ⟨_, rfl⟩
end Go.AEX
