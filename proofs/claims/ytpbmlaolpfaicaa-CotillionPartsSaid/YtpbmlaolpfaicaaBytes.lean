/- Plain laws of rows of bytes. -/
import Derived.Test.YtpbmlaolpfaicaaNum
namespace Go.AEX
open Go Go.AE
set_option linter.unusedVariables false
set_option linter.unusedSimpArgs false

theorem bytes_len (s : List UInt8) : (AE.bytes s).length = s.length := by simp [AE.bytes]
theorem bytes_sub (s : List UInt8) (i n : Nat) : sub (AE.bytes s) i n = AE.bytes ((s.drop i).take n) := by simp [sub, AE.bytes, List.map_take, List.map_drop]
end Go.AEX
