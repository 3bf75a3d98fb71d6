/-
  No cell of these rows narrows 'for every input' (looked for: loops, veiled, ifaces, maps, wideKeys, modest, calm, conditions, laid).
  DERIVED. THE GIVEN ROWS OF THIS SEAT. 4 by the template 'for every input the law returns true; each argument reads behind the call as it read before'; 0 by the template 'total and deterministic' (their statements: YtpbmlaolpfaicaaTotals.lean).
  GIVEN WITH THE SEED: the statements are not yours to turn. If you find one false, say at which input.
  Laid BY PROGRAM, IN A SANDBOX (cutbox-rows.mjs): the forced cells as the released guide's own fill.sh prints them over the translation 3e4667e3d36cf8f8… (all of the seat's roots in one cut). By AI agents, Wed Nov 11 2026. No macro, syntax, notation, axiom, sorry.
-/
import Derived.Test.YtpbmlaolpfaicaaChecked
import GoSem.Claim
import GoSem.ClaimJoined
import GoSem.ClaimMapViews
import Derived.JoinedTies
import Derived.KernelRfl
namespace Go.Proofs.Ytpbmlaolpfaicaa
/- THE CELL 'sum', in the pinned program and in every row, IS THE sha256 OF THE DUMP (.gsa) THAT YtpbmlaolpfaicaaProg.lean LOADS. Nothing in Lean hashes anything: it is a label: what it is worth is what the hold of that sum in a sandbox is worth. -/
noncomputable def Try.pinned : Pinned := { name := "ytpbmlaolpfaicaa", sum := "3e4667e3d36cf8f8bf623b0e185c4477252380af42a40161ac8959194d878b28", checked := Try.checked }
namespace Rows
def none {H : Type} : Left H := { results := [], args := [] }

/-- 'cotilliontop.CotillionBatches': WHATEVER THE INPUT: true; the input reads as it did. -/
def cotillionBatchesSpec : ChangeSpec := { name := "cotillionBatches", fn := fun _ => fun
  | [d1, d2] => { results := [.lit (.bool true)], args := [d1, d2] }
  | _ => none }
def cotillionBatchesRow : OpenClaim := { program := "ytpbmlaolpfaicaa", sum := "3e4667e3d36cf8f8bf623b0e185c4477252380af42a40161ac8959194d878b28", func := "cotillion/cotilliontop.CotillionBatches", spec := "cotillionBatches", unfollowed := true, recurses := true, apart := false }
def CotillionBatchesSaid : Prop := cotillionBatchesRow.holds Try.pinned (OpenSpec.ofChange cotillionBatchesSpec)

/-- ITS FALSE NEIGHBOUR: 'it returns false'. Refute it at one input. -/
def cotillionBatchesWrong : ChangeSpec := { name := "cotillionBatches", fn := fun _ => fun
  | [d1, d2] => { results := [.lit (.bool false)], args := [d1, d2] }
  | _ => none }
def CotillionBatchesWrongFalsely : Prop := cotillionBatchesRow.holds Try.pinned (OpenSpec.ofChange cotillionBatchesWrong)

/-- 'cotilliontop.CotillionParts': WHATEVER THE INPUT: true; the input reads as it did. -/
def cotillionPartsSpec : ChangeSpec := { name := "cotillionParts", fn := fun _ => fun
  | [d1, d2] => { results := [.lit (.bool true)], args := [d1, d2] }
  | _ => none }
def cotillionPartsRow : OpenClaim := { program := "ytpbmlaolpfaicaa", sum := "3e4667e3d36cf8f8bf623b0e185c4477252380af42a40161ac8959194d878b28", func := "cotillion/cotilliontop.CotillionParts", spec := "cotillionParts", unfollowed := true, recurses := true, apart := false }
def CotillionPartsSaid : Prop := cotillionPartsRow.holds Try.pinned (OpenSpec.ofChange cotillionPartsSpec)

/-- ITS FALSE NEIGHBOUR: 'it returns false'. Refute it at one input. -/
def cotillionPartsWrong : ChangeSpec := { name := "cotillionParts", fn := fun _ => fun
  | [d1, d2] => { results := [.lit (.bool false)], args := [d1, d2] }
  | _ => none }
def CotillionPartsWrongFalsely : Prop := cotillionPartsRow.holds Try.pinned (OpenSpec.ofChange cotillionPartsWrong)

/-- 'cotilliontop.CotillionVotes': WHATEVER THE INPUT: true; the input reads as it did. -/
def cotillionVotesSpec : ChangeSpec := { name := "cotillionVotes", fn := fun _ => fun
  | [d1, d2, d3, d4] => { results := [.lit (.bool true)], args := [d1, d2, d3, d4] }
  | _ => none }
def cotillionVotesRow : OpenClaim := { program := "ytpbmlaolpfaicaa", sum := "3e4667e3d36cf8f8bf623b0e185c4477252380af42a40161ac8959194d878b28", func := "cotillion/cotilliontop.CotillionVotes", spec := "cotillionVotes", unfollowed := true, recurses := true, apart := false }
def CotillionVotesSaid : Prop := cotillionVotesRow.holds Try.pinned (OpenSpec.ofChange cotillionVotesSpec)

/-- ITS FALSE NEIGHBOUR: 'it returns false'. Refute it at one input. -/
def cotillionVotesWrong : ChangeSpec := { name := "cotillionVotes", fn := fun _ => fun
  | [d1, d2, d3, d4] => { results := [.lit (.bool false)], args := [d1, d2, d3, d4] }
  | _ => none }
def CotillionVotesWrongFalsely : Prop := cotillionVotesRow.holds Try.pinned (OpenSpec.ofChange cotillionVotesWrong)

/-- 'cotilliontop.CotillionImages': WHATEVER THE INPUT: true; the input reads as it did. -/
def cotillionImagesSpec : ChangeSpec := { name := "cotillionImages", fn := fun _ => fun
  | [d1, d2, d3] => { results := [.lit (.bool true)], args := [d1, d2, d3] }
  | _ => none }
def cotillionImagesRow : OpenClaim := { program := "ytpbmlaolpfaicaa", sum := "3e4667e3d36cf8f8bf623b0e185c4477252380af42a40161ac8959194d878b28", func := "cotillion/cotilliontop.CotillionImages", spec := "cotillionImages", unfollowed := true, recurses := true, apart := false }
def CotillionImagesSaid : Prop := cotillionImagesRow.holds Try.pinned (OpenSpec.ofChange cotillionImagesSpec)

/-- ITS FALSE NEIGHBOUR: 'it returns false'. Refute it at one input. -/
def cotillionImagesWrong : ChangeSpec := { name := "cotillionImages", fn := fun _ => fun
  | [d1, d2, d3] => { results := [.lit (.bool false)], args := [d1, d2, d3] }
  | _ => none }
def CotillionImagesWrongFalsely : Prop := cotillionImagesRow.holds Try.pinned (OpenSpec.ofChange cotillionImagesWrong)

/- THE SECOND FORM. 'bulk': how many values and letters a reading holds, each counted each time it is reached (what is shared counts as often as it is met; a slice's spare places count too). A statement '..UptoSaid' is the law's where the arguments, and the package variables that the reading takes, are together of bulk at most 1048576: NARROWER than '..Said'. Prove '..Said' where nothing that the law and all that it calls make is longer than what came in: it says more and counts as full. Else prove '..UptoSaid'. A law counts once. -/
mutual
def uptoBulk {H : Type} : DataW H → Nat
  | .lit (.string bytes) => bytes.length + 1
  | .lit _ => 1
  | .nil => 1
  | .ptr d => uptoBulk d + 1
  | .slice elems spare => uptoBulkAll elems + uptoBulkAll spare + 1
  | .agg parts => uptoBulkAll parts + 1
  | .iface _ d => uptoBulk d + 1
  | .map entries => uptoBulkEntries entries + 1
  | .held _ => 1
def uptoBulkAll {H : Type} : List (DataW H) → Nat
  | [] => 0
  | d :: r => uptoBulk d + uptoBulkAll r
def uptoBulkEntries {H : Type} : List (Lit × DataW H) → Nat
  | [] => 0
  | x :: r => uptoBulkEntry x + uptoBulkEntries r
def uptoBulkEntry {H : Type} : Lit × DataW H → Nat
  | (.string bytes, d) => bytes.length + uptoBulk d + 1
  | (_, d) => uptoBulk d + 1
 end
def uptoSmall : (H : Type) → List (DataW H) → Bool := fun _ ds => decide (uptoBulkAll ds ≤ 1048576)
def OpenSpec.upto (s : _root_.Go.ChangeSpec) : _root_.Go.OpenSpec := { _root_.Go.OpenSpec.ofChange s with cond := some uptoSmall }

/-- 'cotilliontop.CotillionBatches', WHERE WHAT IT READS IS OF BULK AT MOST 1048576: true; the input reads as it did. -/
def cotillionBatchesUptoRow : OpenClaim := { program := "ytpbmlaolpfaicaa", sum := "3e4667e3d36cf8f8bf623b0e185c4477252380af42a40161ac8959194d878b28", func := "cotillion/cotilliontop.CotillionBatches", spec := "cotillionBatches", unfollowed := true, recurses := true, apart := false, narrowed := true }
def CotillionBatchesUptoSaid : Prop := cotillionBatchesUptoRow.holds Try.pinned (OpenSpec.upto cotillionBatchesSpec)

/-- 'cotilliontop.CotillionParts', WHERE WHAT IT READS IS OF BULK AT MOST 1048576: true; the input reads as it did. -/
def cotillionPartsUptoRow : OpenClaim := { program := "ytpbmlaolpfaicaa", sum := "3e4667e3d36cf8f8bf623b0e185c4477252380af42a40161ac8959194d878b28", func := "cotillion/cotilliontop.CotillionParts", spec := "cotillionParts", unfollowed := true, recurses := true, apart := false, narrowed := true }
def CotillionPartsUptoSaid : Prop := cotillionPartsUptoRow.holds Try.pinned (OpenSpec.upto cotillionPartsSpec)

/-- 'cotilliontop.CotillionVotes', WHERE WHAT IT READS IS OF BULK AT MOST 1048576: true; the input reads as it did. -/
def cotillionVotesUptoRow : OpenClaim := { program := "ytpbmlaolpfaicaa", sum := "3e4667e3d36cf8f8bf623b0e185c4477252380af42a40161ac8959194d878b28", func := "cotillion/cotilliontop.CotillionVotes", spec := "cotillionVotes", unfollowed := true, recurses := true, apart := false, narrowed := true }
def CotillionVotesUptoSaid : Prop := cotillionVotesUptoRow.holds Try.pinned (OpenSpec.upto cotillionVotesSpec)

/-- 'cotilliontop.CotillionImages', WHERE WHAT IT READS IS OF BULK AT MOST 1048576: true; the input reads as it did. -/
def cotillionImagesUptoRow : OpenClaim := { program := "ytpbmlaolpfaicaa", sum := "3e4667e3d36cf8f8bf623b0e185c4477252380af42a40161ac8959194d878b28", func := "cotillion/cotilliontop.CotillionImages", spec := "cotillionImages", unfollowed := true, recurses := true, apart := false, narrowed := true }
def CotillionImagesUptoSaid : Prop := cotillionImagesUptoRow.holds Try.pinned (OpenSpec.upto cotillionImagesSpec)

end Rows
end Go.Proofs.Ytpbmlaolpfaicaa
