/-
  No cell of these rows narrows 'for every input' (looked for: loops, veiled, ifaces, maps, wideKeys, modest, calm, conditions, laid).
  DERIVED. THE GIVEN ROWS OF THIS SEAT. 8 by the template 'for every input the law returns true; each argument reads behind the call as it read before'; 0 by the template 'total and deterministic' (their statements: YtpggjeeoknjnjaaTotals.lean).
  GIVEN WITH THE SEED: the statements are not yours to turn. If you find one false, say at which input.
  Laid BY PROGRAM, IN A SANDBOX (cutbox-rows.mjs): the forced cells as the released guide's own fill.sh prints them over the translation 7173a73bd0dac0ab… (all of the seat's roots in one cut). By AI agents, Wed Nov 11 2026. No macro, syntax, notation, axiom, sorry.
-/
import Derived.Test.YtpggjeeoknjnjaaChecked
import GoSem.Claim
import GoSem.ClaimJoined
import GoSem.ClaimMapViews
import Derived.JoinedTies
import Derived.KernelRfl
namespace Go.Proofs.Ytpggjeeoknjnjaa
/- THE CELL 'sum', in the pinned program and in every row, IS THE sha256 OF THE DUMP (.gsa) THAT YtpggjeeoknjnjaaProg.lean LOADS. Nothing in Lean hashes anything: it is a label: what it is worth is what the hold of that sum in a sandbox is worth. -/
noncomputable def Try.pinned : Pinned := { name := "ytpggjeeoknjnjaa", sum := "7173a73bd0dac0abe7a17b709c9863e61027b1e08d282d49dc85dcd75536b676", checked := Try.checked }
namespace Rows
def none {H : Type} : Left H := { results := [], args := [] }

/-- 'cotillionlaw05.DiceSeeds': WHATEVER THE INPUT: true; the input reads as it did. -/
def diceSeedsSpec : ChangeSpec := { name := "diceSeeds", fn := fun _ => fun
  | [d] => { results := [.lit (.bool true)], args := [d] }
  | _ => none }
def diceSeedsRow : OpenClaim := { program := "ytpggjeeoknjnjaa", sum := "7173a73bd0dac0abe7a17b709c9863e61027b1e08d282d49dc85dcd75536b676", func := "cotillion/cotillionlaw05.DiceSeeds", spec := "diceSeeds", apart := false }
def DiceSeedsSaid : Prop := diceSeedsRow.holds Try.pinned (OpenSpec.ofChange diceSeedsSpec)

/-- ITS FALSE NEIGHBOUR: 'it returns false'. Refute it at one input. -/
def diceSeedsWrong : ChangeSpec := { name := "diceSeeds", fn := fun _ => fun
  | [d] => { results := [.lit (.bool false)], args := [d] }
  | _ => none }
def DiceSeedsWrongFalsely : Prop := diceSeedsRow.holds Try.pinned (OpenSpec.ofChange diceSeedsWrong)

/-- 'cotillionlaw01.SumsOf': WHATEVER THE INPUT: true; the input reads as it did. -/
def sumsOfSpec : ChangeSpec := { name := "sumsOf", fn := fun _ => fun
  | [d] => { results := [.lit (.bool true)], args := [d] }
  | _ => none }
def sumsOfRow : OpenClaim := { program := "ytpggjeeoknjnjaa", sum := "7173a73bd0dac0abe7a17b709c9863e61027b1e08d282d49dc85dcd75536b676", func := "cotillion/cotillionlaw01.SumsOf", spec := "sumsOf", apart := false }
def SumsOfSaid : Prop := sumsOfRow.holds Try.pinned (OpenSpec.ofChange sumsOfSpec)

/-- ITS FALSE NEIGHBOUR: 'it returns false'. Refute it at one input. -/
def sumsOfWrong : ChangeSpec := { name := "sumsOf", fn := fun _ => fun
  | [d] => { results := [.lit (.bool false)], args := [d] }
  | _ => none }
def SumsOfWrongFalsely : Prop := sumsOfRow.holds Try.pinned (OpenSpec.ofChange sumsOfWrong)

/-- 'cotillionlaw01.SumsParts': WHATEVER THE INPUT: true; the input reads as it did. -/
def sumsPartsSpec : ChangeSpec := { name := "sumsParts", fn := fun _ => fun
  | [d] => { results := [.lit (.bool true)], args := [d] }
  | _ => none }
def sumsPartsRow : OpenClaim := { program := "ytpggjeeoknjnjaa", sum := "7173a73bd0dac0abe7a17b709c9863e61027b1e08d282d49dc85dcd75536b676", func := "cotillion/cotillionlaw01.SumsParts", spec := "sumsParts", apart := false }
def SumsPartsSaid : Prop := sumsPartsRow.holds Try.pinned (OpenSpec.ofChange sumsPartsSpec)

/-- ITS FALSE NEIGHBOUR: 'it returns false'. Refute it at one input. -/
def sumsPartsWrong : ChangeSpec := { name := "sumsParts", fn := fun _ => fun
  | [d] => { results := [.lit (.bool false)], args := [d] }
  | _ => none }
def SumsPartsWrongFalsely : Prop := sumsPartsRow.holds Try.pinned (OpenSpec.ofChange sumsPartsWrong)

/-- 'cotillionlaw01.SumsTell': WHATEVER THE INPUT: true; the input reads as it did. -/
def sumsTellSpec : ChangeSpec := { name := "sumsTell", fn := fun _ => fun
  | [d1, d2, d3] => { results := [.lit (.bool true)], args := [d1, d2, d3] }
  | _ => none }
def sumsTellRow : OpenClaim := { program := "ytpggjeeoknjnjaa", sum := "7173a73bd0dac0abe7a17b709c9863e61027b1e08d282d49dc85dcd75536b676", func := "cotillion/cotillionlaw01.SumsTell", spec := "sumsTell", apart := false }
def SumsTellSaid : Prop := sumsTellRow.holds Try.pinned (OpenSpec.ofChange sumsTellSpec)

/-- ITS FALSE NEIGHBOUR: 'it returns false'. Refute it at one input. -/
def sumsTellWrong : ChangeSpec := { name := "sumsTell", fn := fun _ => fun
  | [d1, d2, d3] => { results := [.lit (.bool false)], args := [d1, d2, d3] }
  | _ => none }
def SumsTellWrongFalsely : Prop := sumsTellRow.holds Try.pinned (OpenSpec.ofChange sumsTellWrong)

/-- 'cotillionlaw01.SumsNone': WHATEVER THE INPUT: true; the input reads as it did. -/
def sumsNoneSpec : ChangeSpec := { name := "sumsNone", fn := fun _ => fun
  | [d1, d2] => { results := [.lit (.bool true)], args := [d1, d2] }
  | _ => none }
def sumsNoneRow : OpenClaim := { program := "ytpggjeeoknjnjaa", sum := "7173a73bd0dac0abe7a17b709c9863e61027b1e08d282d49dc85dcd75536b676", func := "cotillion/cotillionlaw01.SumsNone", spec := "sumsNone", apart := false }
def SumsNoneSaid : Prop := sumsNoneRow.holds Try.pinned (OpenSpec.ofChange sumsNoneSpec)

/-- ITS FALSE NEIGHBOUR: 'it returns false'. Refute it at one input. -/
def sumsNoneWrong : ChangeSpec := { name := "sumsNone", fn := fun _ => fun
  | [d1, d2] => { results := [.lit (.bool false)], args := [d1, d2] }
  | _ => none }
def SumsNoneWrongFalsely : Prop := sumsNoneRow.holds Try.pinned (OpenSpec.ofChange sumsNoneWrong)

/-- 'cotillionlaw05.DiceAgain': WHATEVER THE INPUT: true; the input reads as it did. -/
def diceAgainSpec : ChangeSpec := { name := "diceAgain", fn := fun _ => fun
  | [d1, d2, d3] => { results := [.lit (.bool true)], args := [d1, d2, d3] }
  | _ => none }
def diceAgainRow : OpenClaim := { program := "ytpggjeeoknjnjaa", sum := "7173a73bd0dac0abe7a17b709c9863e61027b1e08d282d49dc85dcd75536b676", func := "cotillion/cotillionlaw05.DiceAgain", spec := "diceAgain", apart := false }
def DiceAgainSaid : Prop := diceAgainRow.holds Try.pinned (OpenSpec.ofChange diceAgainSpec)

/-- ITS FALSE NEIGHBOUR: 'it returns false'. Refute it at one input. -/
def diceAgainWrong : ChangeSpec := { name := "diceAgain", fn := fun _ => fun
  | [d1, d2, d3] => { results := [.lit (.bool false)], args := [d1, d2, d3] }
  | _ => none }
def DiceAgainWrongFalsely : Prop := diceAgainRow.holds Try.pinned (OpenSpec.ofChange diceAgainWrong)

/-- 'cotillionlaw05.DiceTwo': WHATEVER THE INPUT: true; the input reads as it did. -/
def diceTwoSpec : ChangeSpec := { name := "diceTwo", fn := fun _ => fun
  | [d1, d2, d3] => { results := [.lit (.bool true)], args := [d1, d2, d3] }
  | _ => none }
def diceTwoRow : OpenClaim := { program := "ytpggjeeoknjnjaa", sum := "7173a73bd0dac0abe7a17b709c9863e61027b1e08d282d49dc85dcd75536b676", func := "cotillion/cotillionlaw05.DiceTwo", spec := "diceTwo", apart := false }
def DiceTwoSaid : Prop := diceTwoRow.holds Try.pinned (OpenSpec.ofChange diceTwoSpec)

/-- ITS FALSE NEIGHBOUR: 'it returns false'. Refute it at one input. -/
def diceTwoWrong : ChangeSpec := { name := "diceTwo", fn := fun _ => fun
  | [d1, d2, d3] => { results := [.lit (.bool false)], args := [d1, d2, d3] }
  | _ => none }
def DiceTwoWrongFalsely : Prop := diceTwoRow.holds Try.pinned (OpenSpec.ofChange diceTwoWrong)

/-- 'cotillionlaw05.DiceNumbers': WHATEVER THE INPUT: true; the input reads as it did. -/
def diceNumbersSpec : ChangeSpec := { name := "diceNumbers", fn := fun _ => fun
  | [d1, d2] => { results := [.lit (.bool true)], args := [d1, d2] }
  | _ => none }
def diceNumbersRow : OpenClaim := { program := "ytpggjeeoknjnjaa", sum := "7173a73bd0dac0abe7a17b709c9863e61027b1e08d282d49dc85dcd75536b676", func := "cotillion/cotillionlaw05.DiceNumbers", spec := "diceNumbers", apart := false }
def DiceNumbersSaid : Prop := diceNumbersRow.holds Try.pinned (OpenSpec.ofChange diceNumbersSpec)

/-- ITS FALSE NEIGHBOUR: 'it returns false'. Refute it at one input. -/
def diceNumbersWrong : ChangeSpec := { name := "diceNumbers", fn := fun _ => fun
  | [d1, d2] => { results := [.lit (.bool false)], args := [d1, d2] }
  | _ => none }
def DiceNumbersWrongFalsely : Prop := diceNumbersRow.holds Try.pinned (OpenSpec.ofChange diceNumbersWrong)

/- THE SECOND FORM. 'bulk': how many values and letters a reading holds, each counted each time it is reached (what is shared counts as often as it is met; a slice's spare places count too). A statement '..UptoSaid' is the law's where the arguments, and the package variables that the reading takes, are together of bulk at most 1048576: NARROWER than '..Said'. Prove '..Said' where nothing that the law and all that it calls make is longer than what came in: it says more and counts as full. Else prove '..UptoSaid'. A law counts once. -/
mutual
def uptoBulk {H : Type} : DataW H → Nat
  | .lit (.string bytes) => bytes.length + 1
  | .lit _ => 1
  | .nil => 1
  | .ptr d => uptoBulk d + 1
  | .slice elems spare => uptoBulkAll elems + uptoBulkAll spare + 1
  | .agg parts => uptoBulkAll parts + 1
  | .iface _ d => uptoBulk d + 1
  | .map entries => uptoBulkEntries entries + 1
  | .held _ => 1
def uptoBulkAll {H : Type} : List (DataW H) → Nat
  | [] => 0
  | d :: r => uptoBulk d + uptoBulkAll r
def uptoBulkEntries {H : Type} : List (Lit × DataW H) → Nat
  | [] => 0
  | x :: r => uptoBulkEntry x + uptoBulkEntries r
def uptoBulkEntry {H : Type} : Lit × DataW H → Nat
  | (.string bytes, d) => bytes.length + uptoBulk d + 1
  | (_, d) => uptoBulk d + 1
 end
def uptoSmall : (H : Type) → List (DataW H) → Bool := fun _ ds => decide (uptoBulkAll ds ≤ 1048576)
def OpenSpec.upto (s : _root_.Go.ChangeSpec) : _root_.Go.OpenSpec := { _root_.Go.OpenSpec.ofChange s with cond := some uptoSmall }

/-- 'cotillionlaw05.DiceSeeds', WHERE WHAT IT READS IS OF BULK AT MOST 1048576: true; the input reads as it did. -/
def diceSeedsUptoRow : OpenClaim := { program := "ytpggjeeoknjnjaa", sum := "7173a73bd0dac0abe7a17b709c9863e61027b1e08d282d49dc85dcd75536b676", func := "cotillion/cotillionlaw05.DiceSeeds", spec := "diceSeeds", apart := false, narrowed := true }
def DiceSeedsUptoSaid : Prop := diceSeedsUptoRow.holds Try.pinned (OpenSpec.upto diceSeedsSpec)

/-- 'cotillionlaw01.SumsOf', WHERE WHAT IT READS IS OF BULK AT MOST 1048576: true; the input reads as it did. -/
def sumsOfUptoRow : OpenClaim := { program := "ytpggjeeoknjnjaa", sum := "7173a73bd0dac0abe7a17b709c9863e61027b1e08d282d49dc85dcd75536b676", func := "cotillion/cotillionlaw01.SumsOf", spec := "sumsOf", apart := false, narrowed := true }
def SumsOfUptoSaid : Prop := sumsOfUptoRow.holds Try.pinned (OpenSpec.upto sumsOfSpec)

/-- 'cotillionlaw01.SumsParts', WHERE WHAT IT READS IS OF BULK AT MOST 1048576: true; the input reads as it did. -/
def sumsPartsUptoRow : OpenClaim := { program := "ytpggjeeoknjnjaa", sum := "7173a73bd0dac0abe7a17b709c9863e61027b1e08d282d49dc85dcd75536b676", func := "cotillion/cotillionlaw01.SumsParts", spec := "sumsParts", apart := false, narrowed := true }
def SumsPartsUptoSaid : Prop := sumsPartsUptoRow.holds Try.pinned (OpenSpec.upto sumsPartsSpec)

/-- 'cotillionlaw01.SumsTell', WHERE WHAT IT READS IS OF BULK AT MOST 1048576: true; the input reads as it did. -/
def sumsTellUptoRow : OpenClaim := { program := "ytpggjeeoknjnjaa", sum := "7173a73bd0dac0abe7a17b709c9863e61027b1e08d282d49dc85dcd75536b676", func := "cotillion/cotillionlaw01.SumsTell", spec := "sumsTell", apart := false, narrowed := true }
def SumsTellUptoSaid : Prop := sumsTellUptoRow.holds Try.pinned (OpenSpec.upto sumsTellSpec)

/-- 'cotillionlaw01.SumsNone', WHERE WHAT IT READS IS OF BULK AT MOST 1048576: true; the input reads as it did. -/
def sumsNoneUptoRow : OpenClaim := { program := "ytpggjeeoknjnjaa", sum := "7173a73bd0dac0abe7a17b709c9863e61027b1e08d282d49dc85dcd75536b676", func := "cotillion/cotillionlaw01.SumsNone", spec := "sumsNone", apart := false, narrowed := true }
def SumsNoneUptoSaid : Prop := sumsNoneUptoRow.holds Try.pinned (OpenSpec.upto sumsNoneSpec)

/-- 'cotillionlaw05.DiceAgain', WHERE WHAT IT READS IS OF BULK AT MOST 1048576: true; the input reads as it did. -/
def diceAgainUptoRow : OpenClaim := { program := "ytpggjeeoknjnjaa", sum := "7173a73bd0dac0abe7a17b709c9863e61027b1e08d282d49dc85dcd75536b676", func := "cotillion/cotillionlaw05.DiceAgain", spec := "diceAgain", apart := false, narrowed := true }
def DiceAgainUptoSaid : Prop := diceAgainUptoRow.holds Try.pinned (OpenSpec.upto diceAgainSpec)

/-- 'cotillionlaw05.DiceTwo', WHERE WHAT IT READS IS OF BULK AT MOST 1048576: true; the input reads as it did. -/
def diceTwoUptoRow : OpenClaim := { program := "ytpggjeeoknjnjaa", sum := "7173a73bd0dac0abe7a17b709c9863e61027b1e08d282d49dc85dcd75536b676", func := "cotillion/cotillionlaw05.DiceTwo", spec := "diceTwo", apart := false, narrowed := true }
def DiceTwoUptoSaid : Prop := diceTwoUptoRow.holds Try.pinned (OpenSpec.upto diceTwoSpec)

/-- 'cotillionlaw05.DiceNumbers', WHERE WHAT IT READS IS OF BULK AT MOST 1048576: true; the input reads as it did. -/
def diceNumbersUptoRow : OpenClaim := { program := "ytpggjeeoknjnjaa", sum := "7173a73bd0dac0abe7a17b709c9863e61027b1e08d282d49dc85dcd75536b676", func := "cotillion/cotillionlaw05.DiceNumbers", spec := "diceNumbers", apart := false, narrowed := true }
def DiceNumbersUptoSaid : Prop := diceNumbersUptoRow.holds Try.pinned (OpenSpec.upto diceNumbersSpec)

end Rows
end Go.Proofs.Ytpggjeeoknjnjaa
