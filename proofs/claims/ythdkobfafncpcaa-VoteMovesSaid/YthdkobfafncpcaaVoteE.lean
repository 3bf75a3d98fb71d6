/- Vote: VoteHalf. -/
import Derived.Test.YthdkobfafncpcaaVoteD
namespace Go.AEX
open Go Go.AE Go.Proofs
set_option maxRecDepth 100000
set_option linter.unusedVariables false
set_option linter.unusedSimpArgs false

def rg (n : Nat) : List Int := (List.range n).map Int.ofNat
theorem rg_succ (n : Nat) : rg (n + 1) = rg n ++ [(n : Int)] := by unfold rg; rw [List.range_succ, List.map_append]; rfl
theorem rg_len (n : Nat) : (rg n).length = n := by simp [rg]
def Sn (n : Nat) : Nat := ofN (rg n) 0
theorem Sn_lt : ∀ n < 18, Sn n < 4294967296 := by decide +kernel
theorem Sn_has' : ∀ n < 18, ∀ v < n, hasN (Sn n) (Int.ofNat v) = true := by decide +kernel
theorem Sn_has {n : Nat} (hn : n < 18) {v : Int} (h : 0 ≤ v ∧ v < n) : hasN (Sn n) v = true := by
  have := Sn_has' n hn v.toNat (by omega)
  rwa [show Int.ofNat v.toNat = v by simp only [Int.ofNat_eq_natCast]; omega] at this
end Go.AEX
