/- The abstract evaluator: AEzc in one. -/
import Derived.Test.YthdkobfafncpcaaAEzb
/- The abstract evaluator, part zc: a row's block told under a new number; a nil slice in a variable told as a row of no elements. -/
namespace Go.AE
open Go
set_option linter.unusedVariables false
set_option linter.unusedSimpArgs false

variable {P : Program} {n k0 : Nat}

def mvL : Nat → Nat → Nat → List Nat
  | 0, _, _ => []
  | l + 1, i, b => bif Nat.beq i b then (i + l + 1) :: mvL l (i + 1) b else i :: mvL l (i + 1) b
def renT (π : List Nat) (N : Nat) : Tr → Tr
  | .lf => .lf
  | .nd l v r => match v with
    | some v => .nd (renT π N l) (some (ren π N v)) (renT π N r)
    | none => .nd (renT π N l) none (renT π N r)
def renM (π : List Nat) (N : Nat) : Mem → Mem
  | [] => []
  | k :: m => renB π N k :: renM π N m
theorem renM_len {π : List Nat} {N : Nat} : ∀ {m : Mem}, (renM π N m).length = m.length
  | [] => rfl
  | k :: m => by simp [renM, renM_len]
attribute [go_sem] mvL renT renM rid slLen
end Go.AE
