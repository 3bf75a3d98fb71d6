/- The abstract evaluator, part zg: a slice literal that is told as a row of one's own. -/
import Derived.Test.YthpfmahafgfbeaaAEzf
namespace Go.AE
open Go
set_option linter.unusedVariables false
set_option linter.unusedSimpArgs false

variable {P : Program} {n k0 : Nat}

end Go.AE
