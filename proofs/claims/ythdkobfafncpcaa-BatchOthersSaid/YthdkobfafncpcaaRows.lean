/-
  No cell of these rows narrows 'for every input' (looked for: loops, veiled, ifaces, maps, wideKeys, modest, calm, conditions, laid).
  DERIVED. THE GIVEN ROWS OF THIS SEAT. 6 by the template 'for every input the law returns true; each argument reads behind the call as it read before'; 0 by the template 'total and deterministic' (their statements: YthdkobfafncpcaaTotals.lean).
  GIVEN WITH THE SEED: the statements are not yours to turn. If you find one false, say at which input.
  Laid BY PROGRAM, IN A SANDBOX (cutbox-rows.mjs): the forced cells as the released guide's own fill.sh prints them over the translation be683e3a866d4bc9… (all of the seat's roots in one cut). By AI agents, Wed Nov 11 2026. No macro, syntax, notation, axiom, sorry.
-/
import Derived.Test.YthdkobfafncpcaaChecked
import GoSem.Claim
import GoSem.ClaimJoined
import GoSem.ClaimMapViews
import Derived.JoinedTies
import Derived.KernelRfl
namespace Go.Proofs.Ythdkobfafncpcaa
/- THE CELL 'sum', in the pinned program and in every row, IS THE sha256 OF THE DUMP (.gsa) THAT YthdkobfafncpcaaProg.lean LOADS. Nothing in Lean hashes anything: it is a label: what it is worth is what the hold of that sum in a sandbox is worth. -/
noncomputable def Try.pinned : Pinned := { name := "ythdkobfafncpcaa", sum := "be683e3a866d4bc9f9105407176770eafbeae94e7f64ac440ab514cf644ef60f", checked := Try.checked }
namespace Rows
def none {H : Type} : Left H := { results := [], args := [] }

/-- 'cotillionlaw16.BatchDrops': WHATEVER THE INPUT: true; the input reads as it did. -/
def batchDropsSpec : ChangeSpec := { name := "batchDrops", fn := fun _ => fun
  | [d1, d2, d3] => { results := [.lit (.bool true)], args := [d1, d2, d3] }
  | _ => none }
def batchDropsRow : OpenClaim := { program := "ythdkobfafncpcaa", sum := "be683e3a866d4bc9f9105407176770eafbeae94e7f64ac440ab514cf644ef60f", func := "cotillion/cotillionlaw16.BatchDrops", spec := "batchDrops", unfollowed := true, recurses := true, apart := false }
def BatchDropsSaid : Prop := batchDropsRow.holds Try.pinned (OpenSpec.ofChange batchDropsSpec)

/-- ITS FALSE NEIGHBOUR: 'it returns false'. Refute it at one input. -/
def batchDropsWrong : ChangeSpec := { name := "batchDrops", fn := fun _ => fun
  | [d1, d2, d3] => { results := [.lit (.bool false)], args := [d1, d2, d3] }
  | _ => none }
def BatchDropsWrongFalsely : Prop := batchDropsRow.holds Try.pinned (OpenSpec.ofChange batchDropsWrong)

/-- 'cotillionlaw19.VoteOnce': WHATEVER THE INPUT: true; the input reads as it did. -/
def voteOnceSpec : ChangeSpec := { name := "voteOnce", fn := fun _ => fun
  | [d] => { results := [.lit (.bool true)], args := [d] }
  | _ => none }
def voteOnceRow : OpenClaim := { program := "ythdkobfafncpcaa", sum := "be683e3a866d4bc9f9105407176770eafbeae94e7f64ac440ab514cf644ef60f", func := "cotillion/cotillionlaw19.VoteOnce", spec := "voteOnce", unfollowed := true, recurses := true, apart := false }
def VoteOnceSaid : Prop := voteOnceRow.holds Try.pinned (OpenSpec.ofChange voteOnceSpec)

/-- ITS FALSE NEIGHBOUR: 'it returns false'. Refute it at one input. -/
def voteOnceWrong : ChangeSpec := { name := "voteOnce", fn := fun _ => fun
  | [d] => { results := [.lit (.bool false)], args := [d] }
  | _ => none }
def VoteOnceWrongFalsely : Prop := voteOnceRow.holds Try.pinned (OpenSpec.ofChange voteOnceWrong)

/-- 'cotillionlaw19.VoteHalf': WHATEVER THE INPUT: true; the input reads as it did. -/
def voteHalfSpec : ChangeSpec := { name := "voteHalf", fn := fun _ => fun
  | [d1, d2, d3] => { results := [.lit (.bool true)], args := [d1, d2, d3] }
  | _ => none }
def voteHalfRow : OpenClaim := { program := "ythdkobfafncpcaa", sum := "be683e3a866d4bc9f9105407176770eafbeae94e7f64ac440ab514cf644ef60f", func := "cotillion/cotillionlaw19.VoteHalf", spec := "voteHalf", unfollowed := true, recurses := true, apart := false }
def VoteHalfSaid : Prop := voteHalfRow.holds Try.pinned (OpenSpec.ofChange voteHalfSpec)

/-- ITS FALSE NEIGHBOUR: 'it returns false'. Refute it at one input. -/
def voteHalfWrong : ChangeSpec := { name := "voteHalf", fn := fun _ => fun
  | [d1, d2, d3] => { results := [.lit (.bool false)], args := [d1, d2, d3] }
  | _ => none }
def VoteHalfWrongFalsely : Prop := voteHalfRow.holds Try.pinned (OpenSpec.ofChange voteHalfWrong)

/-- 'cotillionlaw16.BatchMissing': WHATEVER THE INPUT: true; the input reads as it did. -/
def batchMissingSpec : ChangeSpec := { name := "batchMissing", fn := fun _ => fun
  | [d1, d2] => { results := [.lit (.bool true)], args := [d1, d2] }
  | _ => none }
def batchMissingRow : OpenClaim := { program := "ythdkobfafncpcaa", sum := "be683e3a866d4bc9f9105407176770eafbeae94e7f64ac440ab514cf644ef60f", func := "cotillion/cotillionlaw16.BatchMissing", spec := "batchMissing", unfollowed := true, recurses := true, apart := false }
def BatchMissingSaid : Prop := batchMissingRow.holds Try.pinned (OpenSpec.ofChange batchMissingSpec)

/-- ITS FALSE NEIGHBOUR: 'it returns false'. Refute it at one input. -/
def batchMissingWrong : ChangeSpec := { name := "batchMissing", fn := fun _ => fun
  | [d1, d2] => { results := [.lit (.bool false)], args := [d1, d2] }
  | _ => none }
def BatchMissingWrongFalsely : Prop := batchMissingRow.holds Try.pinned (OpenSpec.ofChange batchMissingWrong)

/-- 'cotillionlaw16.BatchOthers': WHATEVER THE INPUT: true; the input reads as it did. -/
def batchOthersSpec : ChangeSpec := { name := "batchOthers", fn := fun _ => fun
  | [d1, d2] => { results := [.lit (.bool true)], args := [d1, d2] }
  | _ => none }
def batchOthersRow : OpenClaim := { program := "ythdkobfafncpcaa", sum := "be683e3a866d4bc9f9105407176770eafbeae94e7f64ac440ab514cf644ef60f", func := "cotillion/cotillionlaw16.BatchOthers", spec := "batchOthers", unfollowed := true, recurses := true, apart := false }
def BatchOthersSaid : Prop := batchOthersRow.holds Try.pinned (OpenSpec.ofChange batchOthersSpec)

/-- ITS FALSE NEIGHBOUR: 'it returns false'. Refute it at one input. -/
def batchOthersWrong : ChangeSpec := { name := "batchOthers", fn := fun _ => fun
  | [d1, d2] => { results := [.lit (.bool false)], args := [d1, d2] }
  | _ => none }
def BatchOthersWrongFalsely : Prop := batchOthersRow.holds Try.pinned (OpenSpec.ofChange batchOthersWrong)

/-- 'cotillionlaw19.VoteMoves': WHATEVER THE INPUT: true; the input reads as it did. -/
def voteMovesSpec : ChangeSpec := { name := "voteMoves", fn := fun _ => fun
  | [d1, d2, d3] => { results := [.lit (.bool true)], args := [d1, d2, d3] }
  | _ => none }
def voteMovesRow : OpenClaim := { program := "ythdkobfafncpcaa", sum := "be683e3a866d4bc9f9105407176770eafbeae94e7f64ac440ab514cf644ef60f", func := "cotillion/cotillionlaw19.VoteMoves", spec := "voteMoves", unfollowed := true, recurses := true, apart := false }
def VoteMovesSaid : Prop := voteMovesRow.holds Try.pinned (OpenSpec.ofChange voteMovesSpec)

/-- ITS FALSE NEIGHBOUR: 'it returns false'. Refute it at one input. -/
def voteMovesWrong : ChangeSpec := { name := "voteMoves", fn := fun _ => fun
  | [d1, d2, d3] => { results := [.lit (.bool false)], args := [d1, d2, d3] }
  | _ => none }
def VoteMovesWrongFalsely : Prop := voteMovesRow.holds Try.pinned (OpenSpec.ofChange voteMovesWrong)

/- THE SECOND FORM. 'bulk': how many values and letters a reading holds, each counted each time it is reached (what is shared counts as often as it is met; a slice's spare places count too). A statement '..UptoSaid' is the law's where the arguments, and the package variables that the reading takes, are together of bulk at most 1048576: NARROWER than '..Said'. Prove '..Said' where nothing that the law and all that it calls make is longer than what came in: it says more and counts as full. Else prove '..UptoSaid'. A law counts once. -/
mutual
def uptoBulk {H : Type} : DataW H → Nat
  | .lit (.string bytes) => bytes.length + 1
  | .lit _ => 1
  | .nil => 1
  | .ptr d => uptoBulk d + 1
  | .slice elems spare => uptoBulkAll elems + uptoBulkAll spare + 1
  | .agg parts => uptoBulkAll parts + 1
  | .iface _ d => uptoBulk d + 1
  | .map entries => uptoBulkEntries entries + 1
  | .held _ => 1
def uptoBulkAll {H : Type} : List (DataW H) → Nat
  | [] => 0
  | d :: r => uptoBulk d + uptoBulkAll r
def uptoBulkEntries {H : Type} : List (Lit × DataW H) → Nat
  | [] => 0
  | x :: r => uptoBulkEntry x + uptoBulkEntries r
def uptoBulkEntry {H : Type} : Lit × DataW H → Nat
  | (.string bytes, d) => bytes.length + uptoBulk d + 1
  | (_, d) => uptoBulk d + 1
 end
def uptoSmall : (H : Type) → List (DataW H) → Bool := fun _ ds => decide (uptoBulkAll ds ≤ 1048576)
def OpenSpec.upto (s : _root_.Go.ChangeSpec) : _root_.Go.OpenSpec := { _root_.Go.OpenSpec.ofChange s with cond := some uptoSmall }

/-- 'cotillionlaw16.BatchDrops', WHERE WHAT IT READS IS OF BULK AT MOST 1048576: true; the input reads as it did. -/
def batchDropsUptoRow : OpenClaim := { program := "ythdkobfafncpcaa", sum := "be683e3a866d4bc9f9105407176770eafbeae94e7f64ac440ab514cf644ef60f", func := "cotillion/cotillionlaw16.BatchDrops", spec := "batchDrops", unfollowed := true, recurses := true, apart := false, narrowed := true }
def BatchDropsUptoSaid : Prop := batchDropsUptoRow.holds Try.pinned (OpenSpec.upto batchDropsSpec)

/-- 'cotillionlaw19.VoteOnce', WHERE WHAT IT READS IS OF BULK AT MOST 1048576: true; the input reads as it did. -/
def voteOnceUptoRow : OpenClaim := { program := "ythdkobfafncpcaa", sum := "be683e3a866d4bc9f9105407176770eafbeae94e7f64ac440ab514cf644ef60f", func := "cotillion/cotillionlaw19.VoteOnce", spec := "voteOnce", unfollowed := true, recurses := true, apart := false, narrowed := true }
def VoteOnceUptoSaid : Prop := voteOnceUptoRow.holds Try.pinned (OpenSpec.upto voteOnceSpec)

/-- 'cotillionlaw19.VoteHalf', WHERE WHAT IT READS IS OF BULK AT MOST 1048576: true; the input reads as it did. -/
def voteHalfUptoRow : OpenClaim := { program := "ythdkobfafncpcaa", sum := "be683e3a866d4bc9f9105407176770eafbeae94e7f64ac440ab514cf644ef60f", func := "cotillion/cotillionlaw19.VoteHalf", spec := "voteHalf", unfollowed := true, recurses := true, apart := false, narrowed := true }
def VoteHalfUptoSaid : Prop := voteHalfUptoRow.holds Try.pinned (OpenSpec.upto voteHalfSpec)

/-- 'cotillionlaw16.BatchMissing', WHERE WHAT IT READS IS OF BULK AT MOST 1048576: true; the input reads as it did. -/
def batchMissingUptoRow : OpenClaim := { program := "ythdkobfafncpcaa", sum := "be683e3a866d4bc9f9105407176770eafbeae94e7f64ac440ab514cf644ef60f", func := "cotillion/cotillionlaw16.BatchMissing", spec := "batchMissing", unfollowed := true, recurses := true, apart := false, narrowed := true }
def BatchMissingUptoSaid : Prop := batchMissingUptoRow.holds Try.pinned (OpenSpec.upto batchMissingSpec)

/-- 'cotillionlaw16.BatchOthers', WHERE WHAT IT READS IS OF BULK AT MOST 1048576: true; the input reads as it did. -/
def batchOthersUptoRow : OpenClaim := { program := "ythdkobfafncpcaa", sum := "be683e3a866d4bc9f9105407176770eafbeae94e7f64ac440ab514cf644ef60f", func := "cotillion/cotillionlaw16.BatchOthers", spec := "batchOthers", unfollowed := true, recurses := true, apart := false, narrowed := true }
def BatchOthersUptoSaid : Prop := batchOthersUptoRow.holds Try.pinned (OpenSpec.upto batchOthersSpec)

/-- 'cotillionlaw19.VoteMoves', WHERE WHAT IT READS IS OF BULK AT MOST 1048576: true; the input reads as it did. -/
def voteMovesUptoRow : OpenClaim := { program := "ythdkobfafncpcaa", sum := "be683e3a866d4bc9f9105407176770eafbeae94e7f64ac440ab514cf644ef60f", func := "cotillion/cotillionlaw19.VoteMoves", spec := "voteMoves", unfollowed := true, recurses := true, apart := false, narrowed := true }
def VoteMovesUptoSaid : Prop := voteMovesUptoRow.holds Try.pinned (OpenSpec.upto voteMovesSpec)

end Rows
end Go.Proofs.Ythdkobfafncpcaa
