/- The abstract evaluator, part zf: a row that is lent: a contract about a slice that nobody writes holds for one of one's own too. -/
import Derived.Test.YthpfmahafgfbeaaAEze
namespace Go.AE
open Go
set_option linter.unusedVariables false
set_option linter.unusedSimpArgs false

variable {P : Program} {n k0 : Nat}

end Go.AE
