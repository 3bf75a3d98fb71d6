/-
  No cell of these rows narrows 'for every input' (looked for: loops, veiled, ifaces, maps, wideKeys, modest, calm, conditions, laid).
  DERIVED. THE GIVEN ROWS OF THIS SEAT. 8 by the template 'for every input the law returns true; each argument reads behind the call as it read before'; 0 by the template 'total and deterministic' (their statements: YteilmgoomifjmaaTotals.lean).
  GIVEN WITH THE SEED: the statements are not yours to turn. If you find one false, say at which input.
  Laid BY PROGRAM, IN A SANDBOX (cutbox-rows.mjs): the forced cells as the released guide's own fill.sh prints them over the translation add5f552f8c161d6… (all of the seat's roots in one cut). By AI agents, Wed Nov 11 2026. No macro, syntax, notation, axiom, sorry.
-/
import Derived.Test.YteilmgoomifjmaaChecked
import GoSem.Claim
import GoSem.ClaimJoined
import GoSem.ClaimMapViews
import Derived.JoinedTies
import Derived.KernelRfl
namespace Go.Proofs.Yteilmgoomifjmaa
/- THE CELL 'sum', in the pinned program and in every row, IS THE sha256 OF THE DUMP (.gsa) THAT YteilmgoomifjmaaProg.lean LOADS. Nothing in Lean hashes anything: it is a label: what it is worth is what the hold of that sum in a sandbox is worth. -/
noncomputable def Try.pinned : Pinned := { name := "yteilmgoomifjmaa", sum := "add5f552f8c161d6ff21b725863dfe2e5481fd7814e877081f152a5039f465ad", checked := Try.checked }
namespace Rows
def none {H : Type} : Left H := { results := [], args := [] }

/-- 'cotillionlaw06.FrameCells': WHATEVER THE INPUT: true; the input reads as it did. -/
def frameCellsSpec : ChangeSpec := { name := "frameCells", fn := fun _ => fun
  | [d1, d2, d3] => { results := [.lit (.bool true)], args := [d1, d2, d3] }
  | _ => none }
def frameCellsRow : OpenClaim := { program := "yteilmgoomifjmaa", sum := "add5f552f8c161d6ff21b725863dfe2e5481fd7814e877081f152a5039f465ad", func := "cotillion/cotillionlaw06.FrameCells", spec := "frameCells", apart := false }
def FrameCellsSaid : Prop := frameCellsRow.holds Try.pinned (OpenSpec.ofChange frameCellsSpec)

/-- ITS FALSE NEIGHBOUR: 'it returns false'. Refute it at one input. -/
def frameCellsWrong : ChangeSpec := { name := "frameCells", fn := fun _ => fun
  | [d1, d2, d3] => { results := [.lit (.bool false)], args := [d1, d2, d3] }
  | _ => none }
def FrameCellsWrongFalsely : Prop := frameCellsRow.holds Try.pinned (OpenSpec.ofChange frameCellsWrong)

/-- 'cotillionlaw06.FramePlays': WHATEVER THE INPUT: true; the input reads as it did. -/
def framePlaysSpec : ChangeSpec := { name := "framePlays", fn := fun _ => fun
  | [d1, d2, d3, d4] => { results := [.lit (.bool true)], args := [d1, d2, d3, d4] }
  | _ => none }
def framePlaysRow : OpenClaim := { program := "yteilmgoomifjmaa", sum := "add5f552f8c161d6ff21b725863dfe2e5481fd7814e877081f152a5039f465ad", func := "cotillion/cotillionlaw06.FramePlays", spec := "framePlays", apart := false }
def FramePlaysSaid : Prop := framePlaysRow.holds Try.pinned (OpenSpec.ofChange framePlaysSpec)

/-- ITS FALSE NEIGHBOUR: 'it returns false'. Refute it at one input. -/
def framePlaysWrong : ChangeSpec := { name := "framePlays", fn := fun _ => fun
  | [d1, d2, d3, d4] => { results := [.lit (.bool false)], args := [d1, d2, d3, d4] }
  | _ => none }
def FramePlaysWrongFalsely : Prop := framePlaysRow.holds Try.pinned (OpenSpec.ofChange framePlaysWrong)

/-- 'cotillionlaw06.FrameApart': WHATEVER THE INPUT: true; the input reads as it did. -/
def frameApartSpec : ChangeSpec := { name := "frameApart", fn := fun _ => fun
  | [d1, d2] => { results := [.lit (.bool true)], args := [d1, d2] }
  | _ => none }
def frameApartRow : OpenClaim := { program := "yteilmgoomifjmaa", sum := "add5f552f8c161d6ff21b725863dfe2e5481fd7814e877081f152a5039f465ad", func := "cotillion/cotillionlaw06.FrameApart", spec := "frameApart", apart := false }
def FrameApartSaid : Prop := frameApartRow.holds Try.pinned (OpenSpec.ofChange frameApartSpec)

/-- ITS FALSE NEIGHBOUR: 'it returns false'. Refute it at one input. -/
def frameApartWrong : ChangeSpec := { name := "frameApart", fn := fun _ => fun
  | [d1, d2] => { results := [.lit (.bool false)], args := [d1, d2] }
  | _ => none }
def FrameApartWrongFalsely : Prop := frameApartRow.holds Try.pinned (OpenSpec.ofChange frameApartWrong)

/-- 'cotillionlaw04.VerifyHosts': WHATEVER THE INPUT: true; the input reads as it did. -/
def verifyHostsSpec : ChangeSpec := { name := "verifyHosts", fn := fun _ => fun
  | [d1, d2] => { results := [.lit (.bool true)], args := [d1, d2] }
  | _ => none }
def verifyHostsRow : OpenClaim := { program := "yteilmgoomifjmaa", sum := "add5f552f8c161d6ff21b725863dfe2e5481fd7814e877081f152a5039f465ad", func := "cotillion/cotillionlaw04.VerifyHosts", spec := "verifyHosts", unfollowed := true, recurses := true, apart := false }
def VerifyHostsSaid : Prop := verifyHostsRow.holds Try.pinned (OpenSpec.ofChange verifyHostsSpec)

/-- ITS FALSE NEIGHBOUR: 'it returns false'. Refute it at one input. -/
def verifyHostsWrong : ChangeSpec := { name := "verifyHosts", fn := fun _ => fun
  | [d1, d2] => { results := [.lit (.bool false)], args := [d1, d2] }
  | _ => none }
def VerifyHostsWrongFalsely : Prop := verifyHostsRow.holds Try.pinned (OpenSpec.ofChange verifyHostsWrong)

/-- 'cotillionlaw04.VerifyPlain': WHATEVER THE INPUT: true; the input reads as it did. -/
def verifyPlainSpec : ChangeSpec := { name := "verifyPlain", fn := fun _ => fun
  | [d1, d2] => { results := [.lit (.bool true)], args := [d1, d2] }
  | _ => none }
def verifyPlainRow : OpenClaim := { program := "yteilmgoomifjmaa", sum := "add5f552f8c161d6ff21b725863dfe2e5481fd7814e877081f152a5039f465ad", func := "cotillion/cotillionlaw04.VerifyPlain", spec := "verifyPlain", unfollowed := true, recurses := true, apart := false }
def VerifyPlainSaid : Prop := verifyPlainRow.holds Try.pinned (OpenSpec.ofChange verifyPlainSpec)

/-- ITS FALSE NEIGHBOUR: 'it returns false'. Refute it at one input. -/
def verifyPlainWrong : ChangeSpec := { name := "verifyPlain", fn := fun _ => fun
  | [d1, d2] => { results := [.lit (.bool false)], args := [d1, d2] }
  | _ => none }
def VerifyPlainWrongFalsely : Prop := verifyPlainRow.holds Try.pinned (OpenSpec.ofChange verifyPlainWrong)

/-- 'cotillionlaw04.VerifyWalks': WHATEVER THE INPUT: true; the input reads as it did. -/
def verifyWalksSpec : ChangeSpec := { name := "verifyWalks", fn := fun _ => fun
  | [d1, d2, d3] => { results := [.lit (.bool true)], args := [d1, d2, d3] }
  | _ => none }
def verifyWalksRow : OpenClaim := { program := "yteilmgoomifjmaa", sum := "add5f552f8c161d6ff21b725863dfe2e5481fd7814e877081f152a5039f465ad", func := "cotillion/cotillionlaw04.VerifyWalks", spec := "verifyWalks", unfollowed := true, recurses := true, apart := false }
def VerifyWalksSaid : Prop := verifyWalksRow.holds Try.pinned (OpenSpec.ofChange verifyWalksSpec)

/-- ITS FALSE NEIGHBOUR: 'it returns false'. Refute it at one input. -/
def verifyWalksWrong : ChangeSpec := { name := "verifyWalks", fn := fun _ => fun
  | [d1, d2, d3] => { results := [.lit (.bool false)], args := [d1, d2, d3] }
  | _ => none }
def VerifyWalksWrongFalsely : Prop := verifyWalksRow.holds Try.pinned (OpenSpec.ofChange verifyWalksWrong)

/-- 'cotillionlaw06.FrameReads': WHATEVER THE INPUT: true; the input reads as it did. -/
def frameReadsSpec : ChangeSpec := { name := "frameReads", fn := fun _ => fun
  | [d] => { results := [.lit (.bool true)], args := [d] }
  | _ => none }
def frameReadsRow : OpenClaim := { program := "yteilmgoomifjmaa", sum := "add5f552f8c161d6ff21b725863dfe2e5481fd7814e877081f152a5039f465ad", func := "cotillion/cotillionlaw06.FrameReads", spec := "frameReads", apart := false }
def FrameReadsSaid : Prop := frameReadsRow.holds Try.pinned (OpenSpec.ofChange frameReadsSpec)

/-- ITS FALSE NEIGHBOUR: 'it returns false'. Refute it at one input. -/
def frameReadsWrong : ChangeSpec := { name := "frameReads", fn := fun _ => fun
  | [d] => { results := [.lit (.bool false)], args := [d] }
  | _ => none }
def FrameReadsWrongFalsely : Prop := frameReadsRow.holds Try.pinned (OpenSpec.ofChange frameReadsWrong)

/-- 'cotillionlaw06.FrameHeap': WHATEVER THE INPUT: true; the input reads as it did. -/
def frameHeapSpec : ChangeSpec := { name := "frameHeap", fn := fun _ => fun
  | [d] => { results := [.lit (.bool true)], args := [d] }
  | _ => none }
def frameHeapRow : OpenClaim := { program := "yteilmgoomifjmaa", sum := "add5f552f8c161d6ff21b725863dfe2e5481fd7814e877081f152a5039f465ad", func := "cotillion/cotillionlaw06.FrameHeap", spec := "frameHeap", apart := false }
def FrameHeapSaid : Prop := frameHeapRow.holds Try.pinned (OpenSpec.ofChange frameHeapSpec)

/-- ITS FALSE NEIGHBOUR: 'it returns false'. Refute it at one input. -/
def frameHeapWrong : ChangeSpec := { name := "frameHeap", fn := fun _ => fun
  | [d] => { results := [.lit (.bool false)], args := [d] }
  | _ => none }
def FrameHeapWrongFalsely : Prop := frameHeapRow.holds Try.pinned (OpenSpec.ofChange frameHeapWrong)

/- THE SECOND FORM. 'bulk': how many values and letters a reading holds, each counted each time it is reached (what is shared counts as often as it is met; a slice's spare places count too). A statement '..UptoSaid' is the law's where the arguments, and the package variables that the reading takes, are together of bulk at most 1048576: NARROWER than '..Said'. Prove '..Said' where nothing that the law and all that it calls make is longer than what came in: it says more and counts as full. Else prove '..UptoSaid'. A law counts once. -/
mutual
def uptoBulk {H : Type} : DataW H → Nat
  | .lit (.string bytes) => bytes.length + 1
  | .lit _ => 1
  | .nil => 1
  | .ptr d => uptoBulk d + 1
  | .slice elems spare => uptoBulkAll elems + uptoBulkAll spare + 1
  | .agg parts => uptoBulkAll parts + 1
  | .iface _ d => uptoBulk d + 1
  | .map entries => uptoBulkEntries entries + 1
  | .held _ => 1
def uptoBulkAll {H : Type} : List (DataW H) → Nat
  | [] => 0
  | d :: r => uptoBulk d + uptoBulkAll r
def uptoBulkEntries {H : Type} : List (Lit × DataW H) → Nat
  | [] => 0
  | x :: r => uptoBulkEntry x + uptoBulkEntries r
def uptoBulkEntry {H : Type} : Lit × DataW H → Nat
  | (.string bytes, d) => bytes.length + uptoBulk d + 1
  | (_, d) => uptoBulk d + 1
 end
def uptoSmall : (H : Type) → List (DataW H) → Bool := fun _ ds => decide (uptoBulkAll ds ≤ 1048576)
def OpenSpec.upto (s : _root_.Go.ChangeSpec) : _root_.Go.OpenSpec := { _root_.Go.OpenSpec.ofChange s with cond := some uptoSmall }

/-- 'cotillionlaw06.FrameCells', WHERE WHAT IT READS IS OF BULK AT MOST 1048576: true; the input reads as it did. -/
def frameCellsUptoRow : OpenClaim := { program := "yteilmgoomifjmaa", sum := "add5f552f8c161d6ff21b725863dfe2e5481fd7814e877081f152a5039f465ad", func := "cotillion/cotillionlaw06.FrameCells", spec := "frameCells", apart := false, narrowed := true }
def FrameCellsUptoSaid : Prop := frameCellsUptoRow.holds Try.pinned (OpenSpec.upto frameCellsSpec)

/-- 'cotillionlaw06.FramePlays', WHERE WHAT IT READS IS OF BULK AT MOST 1048576: true; the input reads as it did. -/
def framePlaysUptoRow : OpenClaim := { program := "yteilmgoomifjmaa", sum := "add5f552f8c161d6ff21b725863dfe2e5481fd7814e877081f152a5039f465ad", func := "cotillion/cotillionlaw06.FramePlays", spec := "framePlays", apart := false, narrowed := true }
def FramePlaysUptoSaid : Prop := framePlaysUptoRow.holds Try.pinned (OpenSpec.upto framePlaysSpec)

/-- 'cotillionlaw06.FrameApart', WHERE WHAT IT READS IS OF BULK AT MOST 1048576: true; the input reads as it did. -/
def frameApartUptoRow : OpenClaim := { program := "yteilmgoomifjmaa", sum := "add5f552f8c161d6ff21b725863dfe2e5481fd7814e877081f152a5039f465ad", func := "cotillion/cotillionlaw06.FrameApart", spec := "frameApart", apart := false, narrowed := true }
def FrameApartUptoSaid : Prop := frameApartUptoRow.holds Try.pinned (OpenSpec.upto frameApartSpec)

/-- 'cotillionlaw04.VerifyHosts', WHERE WHAT IT READS IS OF BULK AT MOST 1048576: true; the input reads as it did. -/
def verifyHostsUptoRow : OpenClaim := { program := "yteilmgoomifjmaa", sum := "add5f552f8c161d6ff21b725863dfe2e5481fd7814e877081f152a5039f465ad", func := "cotillion/cotillionlaw04.VerifyHosts", spec := "verifyHosts", unfollowed := true, recurses := true, apart := false, narrowed := true }
def VerifyHostsUptoSaid : Prop := verifyHostsUptoRow.holds Try.pinned (OpenSpec.upto verifyHostsSpec)

/-- 'cotillionlaw04.VerifyPlain', WHERE WHAT IT READS IS OF BULK AT MOST 1048576: true; the input reads as it did. -/
def verifyPlainUptoRow : OpenClaim := { program := "yteilmgoomifjmaa", sum := "add5f552f8c161d6ff21b725863dfe2e5481fd7814e877081f152a5039f465ad", func := "cotillion/cotillionlaw04.VerifyPlain", spec := "verifyPlain", unfollowed := true, recurses := true, apart := false, narrowed := true }
def VerifyPlainUptoSaid : Prop := verifyPlainUptoRow.holds Try.pinned (OpenSpec.upto verifyPlainSpec)

/-- 'cotillionlaw04.VerifyWalks', WHERE WHAT IT READS IS OF BULK AT MOST 1048576: true; the input reads as it did. -/
def verifyWalksUptoRow : OpenClaim := { program := "yteilmgoomifjmaa", sum := "add5f552f8c161d6ff21b725863dfe2e5481fd7814e877081f152a5039f465ad", func := "cotillion/cotillionlaw04.VerifyWalks", spec := "verifyWalks", unfollowed := true, recurses := true, apart := false, narrowed := true }
def VerifyWalksUptoSaid : Prop := verifyWalksUptoRow.holds Try.pinned (OpenSpec.upto verifyWalksSpec)

/-- 'cotillionlaw06.FrameReads', WHERE WHAT IT READS IS OF BULK AT MOST 1048576: true; the input reads as it did. -/
def frameReadsUptoRow : OpenClaim := { program := "yteilmgoomifjmaa", sum := "add5f552f8c161d6ff21b725863dfe2e5481fd7814e877081f152a5039f465ad", func := "cotillion/cotillionlaw06.FrameReads", spec := "frameReads", apart := false, narrowed := true }
def FrameReadsUptoSaid : Prop := frameReadsUptoRow.holds Try.pinned (OpenSpec.upto frameReadsSpec)

/-- 'cotillionlaw06.FrameHeap', WHERE WHAT IT READS IS OF BULK AT MOST 1048576: true; the input reads as it did. -/
def frameHeapUptoRow : OpenClaim := { program := "yteilmgoomifjmaa", sum := "add5f552f8c161d6ff21b725863dfe2e5481fd7814e877081f152a5039f465ad", func := "cotillion/cotillionlaw06.FrameHeap", spec := "frameHeap", apart := false, narrowed := true }
def FrameHeapUptoSaid : Prop := frameHeapUptoRow.holds Try.pinned (OpenSpec.upto frameHeapSpec)

end Rows
end Go.Proofs.Yteilmgoomifjmaa
