/- The abstract evaluator: AEzi, AEzj in one. -/
import Derived.Test.YtpbmlaolpfaicaaAEzh
/- The abstract evaluator, part zi: cells behind those that are told are cleared. -/
namespace Go.AE
open Go
set_option linter.unusedVariables false
set_option linter.unusedSimpArgs false

variable {P : Program} {n k0 : Nat} {φ : Fz} {σ : Sg} {m : Mem} {w : World}

end Go.AE

/- The abstract evaluator, part zj: less is told of a block. -/
namespace Go.AE
open Go
set_option linter.unusedVariables false
set_option linter.unusedSimpArgs false

variable {P : Program} {n k0 : Nat}

end Go.AE
