/- The abstract evaluator: AEzo in one. -/
import Derived.Test.YtpbmlaolpfaicaaAEzn
/- The abstract evaluator, part zo: a front that stays, and a few blocks behind it that move. -/
namespace Go.AE
open Go
set_option linter.unusedVariables false
set_option linter.unusedSimpArgs false

variable {P : Program} {n k0 : Nat}

theorem idl_mem : ∀ {n i p : Nat}, p ∈ idl n i → i ≤ p ∧ p < i + n
  | 0, _, _, h => by simp [idl] at h
  | n + 1, i, p, h => by
    simp only [idl, List.mem_cons] at h
    rcases h with rfl | h
    · omega
    · have := idl_mem h; omega
end Go.AE
