/- The abstract evaluator: AEzb in one. -/
import Derived.Test.YthdkobfafncpcaaDoorAEza
import Derived.Maps.RangeRun
/- The abstract evaluator, part zb: slices held against nil; rounds over maps. -/
namespace Go.AE
open Go
set_option linter.unusedVariables false
set_option linter.unusedSimpArgs false

variable {P : Program} {n k0 : Nat}

def slLen : AV → Option Nat
  | .nilsl => some 0
  | .sl _ _ n _ _ => some n
  | .asl _ _ _ n _ => some n
  | .vsl _ xs _ => some xs.length
  | _ => none
end Go.AE
