/-
  No cell of these rows narrows 'for every input' (looked for: loops, veiled, ifaces, maps, wideKeys, modest, calm, conditions, laid).
  DERIVED. THE GIVEN ROWS OF THIS SEAT. 9 by the template 'for every input the law returns true; each argument reads behind the call as it read before'; 0 by the template 'total and deterministic' (their statements: YtcenagdeejbmgaaTotals.lean).
  GIVEN WITH THE SEED: the statements are not yours to turn. If you find one false, say at which input.
  Laid BY PROGRAM, IN A SANDBOX (cutbox-rows.mjs): the forced cells as the released guide's own fill.sh prints them over the translation c0f3f2a44fd756ef… (all of the seat's roots in one cut). By AI agents, Wed Nov 11 2026. No macro, syntax, notation, axiom, sorry.
-/
import Derived.Test.YtcenagdeejbmgaaChecked
import GoSem.Claim
import GoSem.ClaimJoined
import GoSem.ClaimMapViews
import Derived.JoinedTies
import Derived.KernelRfl
namespace Go.Proofs.Ytcenagdeejbmgaa
/- THE CELL 'sum', in the pinned program and in every row, IS THE sha256 OF THE DUMP (.gsa) THAT YtcenagdeejbmgaaProg.lean LOADS. Nothing in Lean hashes anything: it is a label: what it is worth is what the hold of that sum in a sandbox is worth. -/
noncomputable def Try.pinned : Pinned := { name := "ytcenagdeejbmgaa", sum := "c0f3f2a44fd756ef079bbcb1f3c7245fe5e29ab2db5a92052f18ee5d1efa62cc", checked := Try.checked }
namespace Rows
def none {H : Type} : Left H := { results := [], args := [] }

/-- 'cotillionlaw25.BagOnce': WHATEVER THE INPUT: true; the input reads as it did. -/
def bagOnceSpec : ChangeSpec := { name := "bagOnce", fn := fun _ => fun
  | [d1, d2] => { results := [.lit (.bool true)], args := [d1, d2] }
  | _ => none }
def bagOnceRow : OpenClaim := { program := "ytcenagdeejbmgaa", sum := "c0f3f2a44fd756ef079bbcb1f3c7245fe5e29ab2db5a92052f18ee5d1efa62cc", func := "cotillion/cotillionlaw25.BagOnce", spec := "bagOnce", apart := false }
def BagOnceSaid : Prop := bagOnceRow.holds Try.pinned (OpenSpec.ofChange bagOnceSpec)

/-- ITS FALSE NEIGHBOUR: 'it returns false'. Refute it at one input. -/
def bagOnceWrong : ChangeSpec := { name := "bagOnce", fn := fun _ => fun
  | [d1, d2] => { results := [.lit (.bool false)], args := [d1, d2] }
  | _ => none }
def BagOnceWrongFalsely : Prop := bagOnceRow.holds Try.pinned (OpenSpec.ofChange bagOnceWrong)

/-- 'cotillionlaw17.PaceMeter': WHATEVER THE INPUT: true; the input reads as it did. -/
def paceMeterSpec : ChangeSpec := { name := "paceMeter", fn := fun _ => fun
  | [d1, d2, d3] => { results := [.lit (.bool true)], args := [d1, d2, d3] }
  | _ => none }
def paceMeterRow : OpenClaim := { program := "ytcenagdeejbmgaa", sum := "c0f3f2a44fd756ef079bbcb1f3c7245fe5e29ab2db5a92052f18ee5d1efa62cc", func := "cotillion/cotillionlaw17.PaceMeter", spec := "paceMeter", apart := false }
def PaceMeterSaid : Prop := paceMeterRow.holds Try.pinned (OpenSpec.ofChange paceMeterSpec)

/-- ITS FALSE NEIGHBOUR: 'it returns false'. Refute it at one input. -/
def paceMeterWrong : ChangeSpec := { name := "paceMeter", fn := fun _ => fun
  | [d1, d2, d3] => { results := [.lit (.bool false)], args := [d1, d2, d3] }
  | _ => none }
def PaceMeterWrongFalsely : Prop := paceMeterRow.holds Try.pinned (OpenSpec.ofChange paceMeterWrong)

/-- 'cotillionlaw17.PaceMay': WHATEVER THE INPUT: true; the input reads as it did. -/
def paceMaySpec : ChangeSpec := { name := "paceMay", fn := fun _ => fun
  | [d1, d2] => { results := [.lit (.bool true)], args := [d1, d2] }
  | _ => none }
def paceMayRow : OpenClaim := { program := "ytcenagdeejbmgaa", sum := "c0f3f2a44fd756ef079bbcb1f3c7245fe5e29ab2db5a92052f18ee5d1efa62cc", func := "cotillion/cotillionlaw17.PaceMay", spec := "paceMay", apart := false }
def PaceMaySaid : Prop := paceMayRow.holds Try.pinned (OpenSpec.ofChange paceMaySpec)

/-- ITS FALSE NEIGHBOUR: 'it returns false'. Refute it at one input. -/
def paceMayWrong : ChangeSpec := { name := "paceMay", fn := fun _ => fun
  | [d1, d2] => { results := [.lit (.bool false)], args := [d1, d2] }
  | _ => none }
def PaceMayWrongFalsely : Prop := paceMayRow.holds Try.pinned (OpenSpec.ofChange paceMayWrong)

/-- 'cotillionlaw17.PaceSteady': WHATEVER THE INPUT: true; the input reads as it did. -/
def paceSteadySpec : ChangeSpec := { name := "paceSteady", fn := fun _ => fun
  | [d1, d2, d3] => { results := [.lit (.bool true)], args := [d1, d2, d3] }
  | _ => none }
def paceSteadyRow : OpenClaim := { program := "ytcenagdeejbmgaa", sum := "c0f3f2a44fd756ef079bbcb1f3c7245fe5e29ab2db5a92052f18ee5d1efa62cc", func := "cotillion/cotillionlaw17.PaceSteady", spec := "paceSteady", apart := false }
def PaceSteadySaid : Prop := paceSteadyRow.holds Try.pinned (OpenSpec.ofChange paceSteadySpec)

/-- ITS FALSE NEIGHBOUR: 'it returns false'. Refute it at one input. -/
def paceSteadyWrong : ChangeSpec := { name := "paceSteady", fn := fun _ => fun
  | [d1, d2, d3] => { results := [.lit (.bool false)], args := [d1, d2, d3] }
  | _ => none }
def PaceSteadyWrongFalsely : Prop := paceSteadyRow.holds Try.pinned (OpenSpec.ofChange paceSteadyWrong)

/-- 'cotillionlaw17.PaceRow': WHATEVER THE INPUT: true; the input reads as it did. -/
def paceRowSpec : ChangeSpec := { name := "paceRow", fn := fun _ => fun
  | [d1, d2, d3, d4] => { results := [.lit (.bool true)], args := [d1, d2, d3, d4] }
  | _ => none }
def paceRowRow : OpenClaim := { program := "ytcenagdeejbmgaa", sum := "c0f3f2a44fd756ef079bbcb1f3c7245fe5e29ab2db5a92052f18ee5d1efa62cc", func := "cotillion/cotillionlaw17.PaceRow", spec := "paceRow", apart := false }
def PaceRowSaid : Prop := paceRowRow.holds Try.pinned (OpenSpec.ofChange paceRowSpec)

/-- ITS FALSE NEIGHBOUR: 'it returns false'. Refute it at one input. -/
def paceRowWrong : ChangeSpec := { name := "paceRow", fn := fun _ => fun
  | [d1, d2, d3, d4] => { results := [.lit (.bool false)], args := [d1, d2, d3, d4] }
  | _ => none }
def PaceRowWrongFalsely : Prop := paceRowRow.holds Try.pinned (OpenSpec.ofChange paceRowWrong)

/-- 'cotillionlaw17.PacePlans': WHATEVER THE INPUT: true; the input reads as it did. -/
def pacePlansSpec : ChangeSpec := { name := "pacePlans", fn := fun _ => fun
  | [d1, d2, d3] => { results := [.lit (.bool true)], args := [d1, d2, d3] }
  | _ => none }
def pacePlansRow : OpenClaim := { program := "ytcenagdeejbmgaa", sum := "c0f3f2a44fd756ef079bbcb1f3c7245fe5e29ab2db5a92052f18ee5d1efa62cc", func := "cotillion/cotillionlaw17.PacePlans", spec := "pacePlans", apart := false }
def PacePlansSaid : Prop := pacePlansRow.holds Try.pinned (OpenSpec.ofChange pacePlansSpec)

/-- ITS FALSE NEIGHBOUR: 'it returns false'. Refute it at one input. -/
def pacePlansWrong : ChangeSpec := { name := "pacePlans", fn := fun _ => fun
  | [d1, d2, d3] => { results := [.lit (.bool false)], args := [d1, d2, d3] }
  | _ => none }
def PacePlansWrongFalsely : Prop := pacePlansRow.holds Try.pinned (OpenSpec.ofChange pacePlansWrong)

/-- 'cotillionlaw25.BagTwice': WHATEVER THE INPUT: true; the input reads as it did. -/
def bagTwiceSpec : ChangeSpec := { name := "bagTwice", fn := fun _ => fun
  | [d1, d2, d3, d4] => { results := [.lit (.bool true)], args := [d1, d2, d3, d4] }
  | _ => none }
def bagTwiceRow : OpenClaim := { program := "ytcenagdeejbmgaa", sum := "c0f3f2a44fd756ef079bbcb1f3c7245fe5e29ab2db5a92052f18ee5d1efa62cc", func := "cotillion/cotillionlaw25.BagTwice", spec := "bagTwice", apart := false }
def BagTwiceSaid : Prop := bagTwiceRow.holds Try.pinned (OpenSpec.ofChange bagTwiceSpec)

/-- ITS FALSE NEIGHBOUR: 'it returns false'. Refute it at one input. -/
def bagTwiceWrong : ChangeSpec := { name := "bagTwice", fn := fun _ => fun
  | [d1, d2, d3, d4] => { results := [.lit (.bool false)], args := [d1, d2, d3, d4] }
  | _ => none }
def BagTwiceWrongFalsely : Prop := bagTwiceRow.holds Try.pinned (OpenSpec.ofChange bagTwiceWrong)

/-- 'cotillionlaw25.BagFull': WHATEVER THE INPUT: true; the input reads as it did. -/
def bagFullSpec : ChangeSpec := { name := "bagFull", fn := fun _ => fun
  | [d1, d2] => { results := [.lit (.bool true)], args := [d1, d2] }
  | _ => none }
def bagFullRow : OpenClaim := { program := "ytcenagdeejbmgaa", sum := "c0f3f2a44fd756ef079bbcb1f3c7245fe5e29ab2db5a92052f18ee5d1efa62cc", func := "cotillion/cotillionlaw25.BagFull", spec := "bagFull", unfollowed := true, recurses := true, apart := false }
def BagFullSaid : Prop := bagFullRow.holds Try.pinned (OpenSpec.ofChange bagFullSpec)

/-- ITS FALSE NEIGHBOUR: 'it returns false'. Refute it at one input. -/
def bagFullWrong : ChangeSpec := { name := "bagFull", fn := fun _ => fun
  | [d1, d2] => { results := [.lit (.bool false)], args := [d1, d2] }
  | _ => none }
def BagFullWrongFalsely : Prop := bagFullRow.holds Try.pinned (OpenSpec.ofChange bagFullWrong)

/-- 'cotillionlaw25.BagPlays': WHATEVER THE INPUT: true; the input reads as it did. -/
def bagPlaysSpec : ChangeSpec := { name := "bagPlays", fn := fun _ => fun
  | [d] => { results := [.lit (.bool true)], args := [d] }
  | _ => none }
def bagPlaysRow : OpenClaim := { program := "ytcenagdeejbmgaa", sum := "c0f3f2a44fd756ef079bbcb1f3c7245fe5e29ab2db5a92052f18ee5d1efa62cc", func := "cotillion/cotillionlaw25.BagPlays", spec := "bagPlays", unfollowed := true, recurses := true, apart := false }
def BagPlaysSaid : Prop := bagPlaysRow.holds Try.pinned (OpenSpec.ofChange bagPlaysSpec)

/-- ITS FALSE NEIGHBOUR: 'it returns false'. Refute it at one input. -/
def bagPlaysWrong : ChangeSpec := { name := "bagPlays", fn := fun _ => fun
  | [d] => { results := [.lit (.bool false)], args := [d] }
  | _ => none }
def BagPlaysWrongFalsely : Prop := bagPlaysRow.holds Try.pinned (OpenSpec.ofChange bagPlaysWrong)

/- THE SECOND FORM. 'bulk': how many values and letters a reading holds, each counted each time it is reached (what is shared counts as often as it is met; a slice's spare places count too). A statement '..UptoSaid' is the law's where the arguments, and the package variables that the reading takes, are together of bulk at most 1048576: NARROWER than '..Said'. Prove '..Said' where nothing that the law and all that it calls make is longer than what came in: it says more and counts as full. Else prove '..UptoSaid'. A law counts once. -/
mutual
def uptoBulk {H : Type} : DataW H → Nat
  | .lit (.string bytes) => bytes.length + 1
  | .lit _ => 1
  | .nil => 1
  | .ptr d => uptoBulk d + 1
  | .slice elems spare => uptoBulkAll elems + uptoBulkAll spare + 1
  | .agg parts => uptoBulkAll parts + 1
  | .iface _ d => uptoBulk d + 1
  | .map entries => uptoBulkEntries entries + 1
  | .held _ => 1
def uptoBulkAll {H : Type} : List (DataW H) → Nat
  | [] => 0
  | d :: r => uptoBulk d + uptoBulkAll r
def uptoBulkEntries {H : Type} : List (Lit × DataW H) → Nat
  | [] => 0
  | x :: r => uptoBulkEntry x + uptoBulkEntries r
def uptoBulkEntry {H : Type} : Lit × DataW H → Nat
  | (.string bytes, d) => bytes.length + uptoBulk d + 1
  | (_, d) => uptoBulk d + 1
 end
def uptoSmall : (H : Type) → List (DataW H) → Bool := fun _ ds => decide (uptoBulkAll ds ≤ 1048576)
def OpenSpec.upto (s : _root_.Go.ChangeSpec) : _root_.Go.OpenSpec := { _root_.Go.OpenSpec.ofChange s with cond := some uptoSmall }

/-- 'cotillionlaw25.BagOnce', WHERE WHAT IT READS IS OF BULK AT MOST 1048576: true; the input reads as it did. -/
def bagOnceUptoRow : OpenClaim := { program := "ytcenagdeejbmgaa", sum := "c0f3f2a44fd756ef079bbcb1f3c7245fe5e29ab2db5a92052f18ee5d1efa62cc", func := "cotillion/cotillionlaw25.BagOnce", spec := "bagOnce", apart := false, narrowed := true }
def BagOnceUptoSaid : Prop := bagOnceUptoRow.holds Try.pinned (OpenSpec.upto bagOnceSpec)

/-- 'cotillionlaw17.PaceMeter', WHERE WHAT IT READS IS OF BULK AT MOST 1048576: true; the input reads as it did. -/
def paceMeterUptoRow : OpenClaim := { program := "ytcenagdeejbmgaa", sum := "c0f3f2a44fd756ef079bbcb1f3c7245fe5e29ab2db5a92052f18ee5d1efa62cc", func := "cotillion/cotillionlaw17.PaceMeter", spec := "paceMeter", apart := false, narrowed := true }
def PaceMeterUptoSaid : Prop := paceMeterUptoRow.holds Try.pinned (OpenSpec.upto paceMeterSpec)

/-- 'cotillionlaw17.PaceMay', WHERE WHAT IT READS IS OF BULK AT MOST 1048576: true; the input reads as it did. -/
def paceMayUptoRow : OpenClaim := { program := "ytcenagdeejbmgaa", sum := "c0f3f2a44fd756ef079bbcb1f3c7245fe5e29ab2db5a92052f18ee5d1efa62cc", func := "cotillion/cotillionlaw17.PaceMay", spec := "paceMay", apart := false, narrowed := true }
def PaceMayUptoSaid : Prop := paceMayUptoRow.holds Try.pinned (OpenSpec.upto paceMaySpec)

/-- 'cotillionlaw17.PaceSteady', WHERE WHAT IT READS IS OF BULK AT MOST 1048576: true; the input reads as it did. -/
def paceSteadyUptoRow : OpenClaim := { program := "ytcenagdeejbmgaa", sum := "c0f3f2a44fd756ef079bbcb1f3c7245fe5e29ab2db5a92052f18ee5d1efa62cc", func := "cotillion/cotillionlaw17.PaceSteady", spec := "paceSteady", apart := false, narrowed := true }
def PaceSteadyUptoSaid : Prop := paceSteadyUptoRow.holds Try.pinned (OpenSpec.upto paceSteadySpec)

/-- 'cotillionlaw17.PaceRow', WHERE WHAT IT READS IS OF BULK AT MOST 1048576: true; the input reads as it did. -/
def paceRowUptoRow : OpenClaim := { program := "ytcenagdeejbmgaa", sum := "c0f3f2a44fd756ef079bbcb1f3c7245fe5e29ab2db5a92052f18ee5d1efa62cc", func := "cotillion/cotillionlaw17.PaceRow", spec := "paceRow", apart := false, narrowed := true }
def PaceRowUptoSaid : Prop := paceRowUptoRow.holds Try.pinned (OpenSpec.upto paceRowSpec)

/-- 'cotillionlaw17.PacePlans', WHERE WHAT IT READS IS OF BULK AT MOST 1048576: true; the input reads as it did. -/
def pacePlansUptoRow : OpenClaim := { program := "ytcenagdeejbmgaa", sum := "c0f3f2a44fd756ef079bbcb1f3c7245fe5e29ab2db5a92052f18ee5d1efa62cc", func := "cotillion/cotillionlaw17.PacePlans", spec := "pacePlans", apart := false, narrowed := true }
def PacePlansUptoSaid : Prop := pacePlansUptoRow.holds Try.pinned (OpenSpec.upto pacePlansSpec)

/-- 'cotillionlaw25.BagTwice', WHERE WHAT IT READS IS OF BULK AT MOST 1048576: true; the input reads as it did. -/
def bagTwiceUptoRow : OpenClaim := { program := "ytcenagdeejbmgaa", sum := "c0f3f2a44fd756ef079bbcb1f3c7245fe5e29ab2db5a92052f18ee5d1efa62cc", func := "cotillion/cotillionlaw25.BagTwice", spec := "bagTwice", apart := false, narrowed := true }
def BagTwiceUptoSaid : Prop := bagTwiceUptoRow.holds Try.pinned (OpenSpec.upto bagTwiceSpec)

/-- 'cotillionlaw25.BagFull', WHERE WHAT IT READS IS OF BULK AT MOST 1048576: true; the input reads as it did. -/
def bagFullUptoRow : OpenClaim := { program := "ytcenagdeejbmgaa", sum := "c0f3f2a44fd756ef079bbcb1f3c7245fe5e29ab2db5a92052f18ee5d1efa62cc", func := "cotillion/cotillionlaw25.BagFull", spec := "bagFull", unfollowed := true, recurses := true, apart := false, narrowed := true }
def BagFullUptoSaid : Prop := bagFullUptoRow.holds Try.pinned (OpenSpec.upto bagFullSpec)

/-- 'cotillionlaw25.BagPlays', WHERE WHAT IT READS IS OF BULK AT MOST 1048576: true; the input reads as it did. -/
def bagPlaysUptoRow : OpenClaim := { program := "ytcenagdeejbmgaa", sum := "c0f3f2a44fd756ef079bbcb1f3c7245fe5e29ab2db5a92052f18ee5d1efa62cc", func := "cotillion/cotillionlaw25.BagPlays", spec := "bagPlays", unfollowed := true, recurses := true, apart := false, narrowed := true }
def BagPlaysUptoSaid : Prop := bagPlaysUptoRow.holds Try.pinned (OpenSpec.upto bagPlaysSpec)

end Rows
end Go.Proofs.Ytcenagdeejbmgaa
