/- The abstract evaluator: AEzi, AEzj in one. -/
import Derived.Test.YthdkobfafncpcaaDoorAEzh
/- The abstract evaluator, part zi: cells behind those that are told are cleared. -/
namespace Go.AE
open Go
set_option linter.unusedVariables false
set_option linter.unusedSimpArgs false

variable {P : Program} {n k0 : Nat} {φ : Fz} {σ : Sg} {m : Mem} {w : World}

theorem sem_drawS {ord : List (Nat × Bool)} {r : List It} {L : List (Nat × Bool × It)} {k : List C} {t : Tr} {Q : Exit → Tr → Mem → Prop} (hok : okDraw r ord = true ∧ mkL r ord = some L) (hm : P.follows .mixedOrders = true)
    (h : ∀ KK : Tr → Mem → Prop, KK = (fun t m => SemW P n k0 k t m Q) → DZ P KK L [] t m) : SemW P n k0 (.draw r :: k) t m Q := by
  obtain ⟨h1, h2⟩ := mkL_ok hok.2
  have h' : DX P r (fun t m => SemW P n k0 k t m Q) ord [] t m := by
    rw [h1]; exact DY_ok (lag := []) h2 (fun x hx => by cases hx) (h _ rfl)
  exact sem_draw ord hm hok.1 h'
end Go.AE

/- The abstract evaluator, part zj: less is told of a block. -/
namespace Go.AE
open Go
set_option linter.unusedVariables false
set_option linter.unusedSimpArgs false

variable {P : Program} {n k0 : Nat}

end Go.AE
