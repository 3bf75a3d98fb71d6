/-
  No cell of these rows narrows 'for every input' (looked for: loops, veiled, ifaces, maps, wideKeys, modest, calm, conditions, laid).
  DERIVED. THE GIVEN ROWS OF THIS SEAT. 5 by the template 'for every input the law returns true; each argument reads behind the call as it read before'; 0 by the template 'total and deterministic' (their statements: YtleggkkbdmnfkaaTotals.lean).
  GIVEN WITH THE SEED: the statements are not yours to turn. If you find one false, say at which input.
  Laid BY PROGRAM, IN A SANDBOX (cutbox-rows.mjs): the forced cells as the released guide's own fill.sh prints them over the translation 198b322913301298… (all of the seat's roots in one cut). By AI agents, Wed Nov 11 2026. No macro, syntax, notation, axiom, sorry.
-/
import Derived.Test.YtleggkkbdmnfkaaChecked
import GoSem.Claim
import GoSem.ClaimJoined
import GoSem.ClaimMapViews
import Derived.JoinedTies
import Derived.KernelRfl
namespace Go.Proofs.Ytleggkkbdmnfkaa
/- THE CELL 'sum', in the pinned program and in every row, IS THE sha256 OF THE DUMP (.gsa) THAT YtleggkkbdmnfkaaProg.lean LOADS. Nothing in Lean hashes anything: it is a label: what it is worth is what the hold of that sum in a sandbox is worth. -/
noncomputable def Try.pinned : Pinned := { name := "ytleggkkbdmnfkaa", sum := "198b322913301298d84ec6bf31ba332b1e68cebe0a39edd13dac295dafe45e43", checked := Try.checked }
namespace Rows
def none {H : Type} : Left H := { results := [], args := [] }

/-- 'cotillionlaw14.TimerMay': WHATEVER THE INPUT: true; the input reads as it did. -/
def timerMaySpec : ChangeSpec := { name := "timerMay", fn := fun _ => fun
  | [d1, d2] => { results := [.lit (.bool true)], args := [d1, d2] }
  | _ => none }
def timerMayRow : OpenClaim := { program := "ytleggkkbdmnfkaa", sum := "198b322913301298d84ec6bf31ba332b1e68cebe0a39edd13dac295dafe45e43", func := "cotillion/cotillionlaw14.TimerMay", spec := "timerMay", unfollowed := true, recurses := true, apart := false }
def TimerMaySaid : Prop := timerMayRow.holds Try.pinned (OpenSpec.ofChange timerMaySpec)

/-- ITS FALSE NEIGHBOUR: 'it returns false'. Refute it at one input. -/
def timerMayWrong : ChangeSpec := { name := "timerMay", fn := fun _ => fun
  | [d1, d2] => { results := [.lit (.bool false)], args := [d1, d2] }
  | _ => none }
def TimerMayWrongFalsely : Prop := timerMayRow.holds Try.pinned (OpenSpec.ofChange timerMayWrong)

/-- 'cotillionlaw14.TimerMany': WHATEVER THE INPUT: true; the input reads as it did. -/
def timerManySpec : ChangeSpec := { name := "timerMany", fn := fun _ => fun
  | [d1, d2] => { results := [.lit (.bool true)], args := [d1, d2] }
  | _ => none }
def timerManyRow : OpenClaim := { program := "ytleggkkbdmnfkaa", sum := "198b322913301298d84ec6bf31ba332b1e68cebe0a39edd13dac295dafe45e43", func := "cotillion/cotillionlaw14.TimerMany", spec := "timerMany", unfollowed := true, recurses := true, apart := false }
def TimerManySaid : Prop := timerManyRow.holds Try.pinned (OpenSpec.ofChange timerManySpec)

/-- ITS FALSE NEIGHBOUR: 'it returns false'. Refute it at one input. -/
def timerManyWrong : ChangeSpec := { name := "timerMany", fn := fun _ => fun
  | [d1, d2] => { results := [.lit (.bool false)], args := [d1, d2] }
  | _ => none }
def TimerManyWrongFalsely : Prop := timerManyRow.holds Try.pinned (OpenSpec.ofChange timerManyWrong)

/-- 'cotillionlaw14.TimerBackoff': WHATEVER THE INPUT: true; the input reads as it did. -/
def timerBackoffSpec : ChangeSpec := { name := "timerBackoff", fn := fun _ => fun
  | [d1, d2, d3] => { results := [.lit (.bool true)], args := [d1, d2, d3] }
  | _ => none }
def timerBackoffRow : OpenClaim := { program := "ytleggkkbdmnfkaa", sum := "198b322913301298d84ec6bf31ba332b1e68cebe0a39edd13dac295dafe45e43", func := "cotillion/cotillionlaw14.TimerBackoff", spec := "timerBackoff", unfollowed := true, recurses := true, apart := false }
def TimerBackoffSaid : Prop := timerBackoffRow.holds Try.pinned (OpenSpec.ofChange timerBackoffSpec)

/-- ITS FALSE NEIGHBOUR: 'it returns false'. Refute it at one input. -/
def timerBackoffWrong : ChangeSpec := { name := "timerBackoff", fn := fun _ => fun
  | [d1, d2, d3] => { results := [.lit (.bool false)], args := [d1, d2, d3] }
  | _ => none }
def TimerBackoffWrongFalsely : Prop := timerBackoffRow.holds Try.pinned (OpenSpec.ofChange timerBackoffWrong)

/-- 'cotillionlaw14.TimerStops': WHATEVER THE INPUT: true; the input reads as it did. -/
def timerStopsSpec : ChangeSpec := { name := "timerStops", fn := fun _ => fun
  | [d1, d2] => { results := [.lit (.bool true)], args := [d1, d2] }
  | _ => none }
def timerStopsRow : OpenClaim := { program := "ytleggkkbdmnfkaa", sum := "198b322913301298d84ec6bf31ba332b1e68cebe0a39edd13dac295dafe45e43", func := "cotillion/cotillionlaw14.TimerStops", spec := "timerStops", unfollowed := true, recurses := true, apart := false }
def TimerStopsSaid : Prop := timerStopsRow.holds Try.pinned (OpenSpec.ofChange timerStopsSpec)

/-- ITS FALSE NEIGHBOUR: 'it returns false'. Refute it at one input. -/
def timerStopsWrong : ChangeSpec := { name := "timerStops", fn := fun _ => fun
  | [d1, d2] => { results := [.lit (.bool false)], args := [d1, d2] }
  | _ => none }
def TimerStopsWrongFalsely : Prop := timerStopsRow.holds Try.pinned (OpenSpec.ofChange timerStopsWrong)

/-- 'cotillionlaw14.TimerPlays': WHATEVER THE INPUT: true; the input reads as it did. -/
def timerPlaysSpec : ChangeSpec := { name := "timerPlays", fn := fun _ => fun
  | [d1, d2, d3] => { results := [.lit (.bool true)], args := [d1, d2, d3] }
  | _ => none }
def timerPlaysRow : OpenClaim := { program := "ytleggkkbdmnfkaa", sum := "198b322913301298d84ec6bf31ba332b1e68cebe0a39edd13dac295dafe45e43", func := "cotillion/cotillionlaw14.TimerPlays", spec := "timerPlays", unfollowed := true, recurses := true, apart := false }
def TimerPlaysSaid : Prop := timerPlaysRow.holds Try.pinned (OpenSpec.ofChange timerPlaysSpec)

/-- ITS FALSE NEIGHBOUR: 'it returns false'. Refute it at one input. -/
def timerPlaysWrong : ChangeSpec := { name := "timerPlays", fn := fun _ => fun
  | [d1, d2, d3] => { results := [.lit (.bool false)], args := [d1, d2, d3] }
  | _ => none }
def TimerPlaysWrongFalsely : Prop := timerPlaysRow.holds Try.pinned (OpenSpec.ofChange timerPlaysWrong)

/- THE SECOND FORM. 'bulk': how many values and letters a reading holds, each counted each time it is reached (what is shared counts as often as it is met; a slice's spare places count too). A statement '..UptoSaid' is the law's where the arguments, and the package variables that the reading takes, are together of bulk at most 1048576: NARROWER than '..Said'. Prove '..Said' where nothing that the law and all that it calls make is longer than what came in: it says more and counts as full. Else prove '..UptoSaid'. A law counts once. -/
mutual
def uptoBulk {H : Type} : DataW H → Nat
  | .lit (.string bytes) => bytes.length + 1
  | .lit _ => 1
  | .nil => 1
  | .ptr d => uptoBulk d + 1
  | .slice elems spare => uptoBulkAll elems + uptoBulkAll spare + 1
  | .agg parts => uptoBulkAll parts + 1
  | .iface _ d => uptoBulk d + 1
  | .map entries => uptoBulkEntries entries + 1
  | .held _ => 1
def uptoBulkAll {H : Type} : List (DataW H) → Nat
  | [] => 0
  | d :: r => uptoBulk d + uptoBulkAll r
def uptoBulkEntries {H : Type} : List (Lit × DataW H) → Nat
  | [] => 0
  | x :: r => uptoBulkEntry x + uptoBulkEntries r
def uptoBulkEntry {H : Type} : Lit × DataW H → Nat
  | (.string bytes, d) => bytes.length + uptoBulk d + 1
  | (_, d) => uptoBulk d + 1
 end
def uptoSmall : (H : Type) → List (DataW H) → Bool := fun _ ds => decide (uptoBulkAll ds ≤ 1048576)
def OpenSpec.upto (s : _root_.Go.ChangeSpec) : _root_.Go.OpenSpec := { _root_.Go.OpenSpec.ofChange s with cond := some uptoSmall }

/-- 'cotillionlaw14.TimerMay', WHERE WHAT IT READS IS OF BULK AT MOST 1048576: true; the input reads as it did. -/
def timerMayUptoRow : OpenClaim := { program := "ytleggkkbdmnfkaa", sum := "198b322913301298d84ec6bf31ba332b1e68cebe0a39edd13dac295dafe45e43", func := "cotillion/cotillionlaw14.TimerMay", spec := "timerMay", unfollowed := true, recurses := true, apart := false, narrowed := true }
def TimerMayUptoSaid : Prop := timerMayUptoRow.holds Try.pinned (OpenSpec.upto timerMaySpec)

/-- 'cotillionlaw14.TimerMany', WHERE WHAT IT READS IS OF BULK AT MOST 1048576: true; the input reads as it did. -/
def timerManyUptoRow : OpenClaim := { program := "ytleggkkbdmnfkaa", sum := "198b322913301298d84ec6bf31ba332b1e68cebe0a39edd13dac295dafe45e43", func := "cotillion/cotillionlaw14.TimerMany", spec := "timerMany", unfollowed := true, recurses := true, apart := false, narrowed := true }
def TimerManyUptoSaid : Prop := timerManyUptoRow.holds Try.pinned (OpenSpec.upto timerManySpec)

/-- 'cotillionlaw14.TimerBackoff', WHERE WHAT IT READS IS OF BULK AT MOST 1048576: true; the input reads as it did. -/
def timerBackoffUptoRow : OpenClaim := { program := "ytleggkkbdmnfkaa", sum := "198b322913301298d84ec6bf31ba332b1e68cebe0a39edd13dac295dafe45e43", func := "cotillion/cotillionlaw14.TimerBackoff", spec := "timerBackoff", unfollowed := true, recurses := true, apart := false, narrowed := true }
def TimerBackoffUptoSaid : Prop := timerBackoffUptoRow.holds Try.pinned (OpenSpec.upto timerBackoffSpec)

/-- 'cotillionlaw14.TimerStops', WHERE WHAT IT READS IS OF BULK AT MOST 1048576: true; the input reads as it did. -/
def timerStopsUptoRow : OpenClaim := { program := "ytleggkkbdmnfkaa", sum := "198b322913301298d84ec6bf31ba332b1e68cebe0a39edd13dac295dafe45e43", func := "cotillion/cotillionlaw14.TimerStops", spec := "timerStops", unfollowed := true, recurses := true, apart := false, narrowed := true }
def TimerStopsUptoSaid : Prop := timerStopsUptoRow.holds Try.pinned (OpenSpec.upto timerStopsSpec)

/-- 'cotillionlaw14.TimerPlays', WHERE WHAT IT READS IS OF BULK AT MOST 1048576: true; the input reads as it did. -/
def timerPlaysUptoRow : OpenClaim := { program := "ytleggkkbdmnfkaa", sum := "198b322913301298d84ec6bf31ba332b1e68cebe0a39edd13dac295dafe45e43", func := "cotillion/cotillionlaw14.TimerPlays", spec := "timerPlays", unfollowed := true, recurses := true, apart := false, narrowed := true }
def TimerPlaysUptoSaid : Prop := timerPlaysUptoRow.holds Try.pinned (OpenSpec.upto timerPlaysSpec)

end Rows
end Go.Proofs.Ytleggkkbdmnfkaa
