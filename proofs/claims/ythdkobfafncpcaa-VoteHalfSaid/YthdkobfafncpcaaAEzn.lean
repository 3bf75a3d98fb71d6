/- The abstract evaluator: AEzk, AEzl, AEzm, AEzn in one. -/
import Derived.Test.YthdkobfafncpcaaAEzj
import Derived.Maps.RangeRun
/- The abstract evaluator, part zk: a row whose first elements nobody reads any more is told without them. -/
namespace Go.AE
open Go
set_option linter.unusedVariables false
set_option linter.unusedSimpArgs false

variable {P : Program} {n k0 : Nat}

mutual
def shV (b N k : Nat) : AV → AV
  | .sl b' i n c t => match Nat.beq b' b, Nat.ble k i with
    | true, true => .sl N (i - k) n c t
    | _, _ => .sl b' i n c t
  | .agg vs => .agg (shL b N k vs)
  | v => v
def shL (b N k : Nat) : List AV → List AV
  | [] => []
  | v :: vs => shV b N k v :: shL b N k vs
end
def shT (b N k : Nat) : Tr → Tr
  | .lf => .lf
  | .nd l v r => match v with
    | some v => .nd (shT b N k l) (some (shV b N k v)) (shT b N k r)
    | none => .nd (shT b N k l) none (shT b N k r)
def shB (b N k : Nat) : Blk → Blk
  | .box cs => .box (shL b N k cs)
  | l => l
def shM (b N k : Nat) : Mem → Mem
  | [] => []
  | l :: m => shB b N k l :: shM b N k m
attribute [go_sem] shT shM shB shV shL Nat.ble
end Go.AE

/- The abstract evaluator, part zl: nil slices that are known to be nil. -/
namespace Go.AE
open Go
set_option linter.unusedVariables false
set_option linter.unusedSimpArgs false

variable {P : Program} {n k0 : Nat}

theorem Like.nil0 : Like .nil0 .nilsl := fun _ _ _ h => by cases h; exact .nilsl
end Go.AE

/- The abstract evaluator, part zm: loops over maps. -/
namespace Go.AE
open Go
open Go.ChangeMaps (setBlock)
set_option linter.unusedVariables false
set_option linter.unusedSimpArgs false

variable {P : Program} {n k0 : Nat}

end Go.AE

/- The abstract evaluator, part zn: rounds that leave the memory as it is. -/
namespace Go.AE
open Go
set_option linter.unusedVariables false
set_option linter.unusedSimpArgs false

variable {P : Program} {n k0 : Nat}

def embT0 (t : Tr) : List (Nat × AV) → Prop
  | [] => True
  | (i, v) :: l => t.get i = some v ∧ embT0 t l
attribute [go_sem] embT0
end Go.AE
