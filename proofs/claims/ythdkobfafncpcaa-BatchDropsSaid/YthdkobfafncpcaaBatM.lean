/- Batch: raw numbers as players, each once, rising. -/
import Derived.Test.YthdkobfafncpcaaBatL
namespace Go.AEX
open Go Go.AE Go.Proofs
set_option maxRecDepth 100000
set_option linter.unusedVariables false
set_option linter.unusedSimpArgs false

structure Rise (k : Nat) (R : List Int) : Prop where
  nd : R.Nodup
  lt : ∀ x ∈ R, 0 ≤ x ∧ x < k
  len : R.length ≤ k
theorem Rise.mono {k : Nat} {R : List Int} (h : Rise k R) : Rise (k + 1) R := ⟨h.nd, fun x hx => by have := h.lt x hx; omega, by have := h.len; omega⟩
theorem Rise.put {k : Nat} {R : List Int} (h : Rise k R) : Rise (k + 1) (R ++ [(k : Int)]) := by
  refine ⟨?_, fun x hx => ?_, by have := h.len; simp; omega⟩
  · rw [List.nodup_append]
    refine ⟨h.nd, by simp, fun a ha b hb => ?_⟩
    simp at hb; subst hb
    have := h.lt a ha; omega
  · rcases List.mem_append.1 hx with hx | hx
    · have := h.lt x hx; omega
    · simp at hx; omega
end Go.AEX
