/-
  No cell of these rows narrows 'for every input' (looked for: loops, veiled, ifaces, maps, wideKeys, modest, calm, conditions, laid).
  DERIVED. THE GIVEN ROWS OF THIS SEAT. 10 by the template 'for every input the law returns true; each argument reads behind the call as it read before'; 0 by the template 'total and deterministic' (their statements: YtbbokkienmicmaaTotals.lean).
  GIVEN WITH THE SEED: the statements are not yours to turn. If you find one false, say at which input.
  Laid BY PROGRAM, IN A SANDBOX (cutbox-rows.mjs): the forced cells as the released guide's own fill.sh prints them over the translation 4ad7857593874edc… (all of the seat's roots in one cut). By AI agents, Wed Nov 11 2026. No macro, syntax, notation, axiom, sorry.
-/
import Derived.Test.YtbbokkienmicmaaChecked
import GoSem.Claim
import GoSem.ClaimJoined
import GoSem.ClaimMapViews
import Derived.JoinedTies
import Derived.KernelRfl
namespace Go.Proofs.Ytbbokkienmicmaa
/- THE CELL 'sum', in the pinned program and in every row, IS THE sha256 OF THE DUMP (.gsa) THAT YtbbokkienmicmaaProg.lean LOADS. Nothing in Lean hashes anything: it is a label: what it is worth is what the hold of that sum in a sandbox is worth. -/
noncomputable def Try.pinned : Pinned := { name := "ytbbokkienmicmaa", sum := "4ad7857593874edcb4bf3ff21cfd3c33846e5bda875994794811209d9bba6634", checked := Try.checked }
namespace Rows
def none {H : Type} : Left H := { results := [], args := [] }

/-- 'cotillionlaw12.FragPlays': WHATEVER THE INPUT: true; the input reads as it did. -/
def fragPlaysSpec : ChangeSpec := { name := "fragPlays", fn := fun _ => fun
  | [d] => { results := [.lit (.bool true)], args := [d] }
  | _ => none }
def fragPlaysRow : OpenClaim := { program := "ytbbokkienmicmaa", sum := "4ad7857593874edcb4bf3ff21cfd3c33846e5bda875994794811209d9bba6634", func := "cotillion/cotillionlaw12.FragPlays", spec := "fragPlays", apart := false }
def FragPlaysSaid : Prop := fragPlaysRow.holds Try.pinned (OpenSpec.ofChange fragPlaysSpec)

/-- ITS FALSE NEIGHBOUR: 'it returns false'. Refute it at one input. -/
def fragPlaysWrong : ChangeSpec := { name := "fragPlays", fn := fun _ => fun
  | [d] => { results := [.lit (.bool false)], args := [d] }
  | _ => none }
def FragPlaysWrongFalsely : Prop := fragPlaysRow.holds Try.pinned (OpenSpec.ofChange fragPlaysWrong)

/-- 'cotillionlaw12.FragFull': WHATEVER THE INPUT: true; the input reads as it did. -/
def fragFullSpec : ChangeSpec := { name := "fragFull", fn := fun _ => fun
  | [d1, d2] => { results := [.lit (.bool true)], args := [d1, d2] }
  | _ => none }
def fragFullRow : OpenClaim := { program := "ytbbokkienmicmaa", sum := "4ad7857593874edcb4bf3ff21cfd3c33846e5bda875994794811209d9bba6634", func := "cotillion/cotillionlaw12.FragFull", spec := "fragFull", apart := false }
def FragFullSaid : Prop := fragFullRow.holds Try.pinned (OpenSpec.ofChange fragFullSpec)

/-- ITS FALSE NEIGHBOUR: 'it returns false'. Refute it at one input. -/
def fragFullWrong : ChangeSpec := { name := "fragFull", fn := fun _ => fun
  | [d1, d2] => { results := [.lit (.bool false)], args := [d1, d2] }
  | _ => none }
def FragFullWrongFalsely : Prop := fragFullRow.holds Try.pinned (OpenSpec.ofChange fragFullWrong)

/-- 'cotillionlaw12.FragParses': WHATEVER THE INPUT: true; the input reads as it did. -/
def fragParsesSpec : ChangeSpec := { name := "fragParses", fn := fun _ => fun
  | [d] => { results := [.lit (.bool true)], args := [d] }
  | _ => none }
def fragParsesRow : OpenClaim := { program := "ytbbokkienmicmaa", sum := "4ad7857593874edcb4bf3ff21cfd3c33846e5bda875994794811209d9bba6634", func := "cotillion/cotillionlaw12.FragParses", spec := "fragParses", apart := false }
def FragParsesSaid : Prop := fragParsesRow.holds Try.pinned (OpenSpec.ofChange fragParsesSpec)

/-- ITS FALSE NEIGHBOUR: 'it returns false'. Refute it at one input. -/
def fragParsesWrong : ChangeSpec := { name := "fragParses", fn := fun _ => fun
  | [d] => { results := [.lit (.bool false)], args := [d] }
  | _ => none }
def FragParsesWrongFalsely : Prop := fragParsesRow.holds Try.pinned (OpenSpec.ofChange fragParsesWrong)

/-- 'cotillionlaw12.FragCuts': WHATEVER THE INPUT: true; the input reads as it did. -/
def fragCutsSpec : ChangeSpec := { name := "fragCuts", fn := fun _ => fun
  | [d] => { results := [.lit (.bool true)], args := [d] }
  | _ => none }
def fragCutsRow : OpenClaim := { program := "ytbbokkienmicmaa", sum := "4ad7857593874edcb4bf3ff21cfd3c33846e5bda875994794811209d9bba6634", func := "cotillion/cotillionlaw12.FragCuts", spec := "fragCuts", apart := false }
def FragCutsSaid : Prop := fragCutsRow.holds Try.pinned (OpenSpec.ofChange fragCutsSpec)

/-- ITS FALSE NEIGHBOUR: 'it returns false'. Refute it at one input. -/
def fragCutsWrong : ChangeSpec := { name := "fragCuts", fn := fun _ => fun
  | [d] => { results := [.lit (.bool false)], args := [d] }
  | _ => none }
def FragCutsWrongFalsely : Prop := fragCutsRow.holds Try.pinned (OpenSpec.ofChange fragCutsWrong)

/-- 'cotillionlaw12.FragAll': WHATEVER THE INPUT: true; the input reads as it did. -/
def fragAllSpec : ChangeSpec := { name := "fragAll", fn := fun _ => fun
  | [d] => { results := [.lit (.bool true)], args := [d] }
  | _ => none }
def fragAllRow : OpenClaim := { program := "ytbbokkienmicmaa", sum := "4ad7857593874edcb4bf3ff21cfd3c33846e5bda875994794811209d9bba6634", func := "cotillion/cotillionlaw12.FragAll", spec := "fragAll", apart := false }
def FragAllSaid : Prop := fragAllRow.holds Try.pinned (OpenSpec.ofChange fragAllSpec)

/-- ITS FALSE NEIGHBOUR: 'it returns false'. Refute it at one input. -/
def fragAllWrong : ChangeSpec := { name := "fragAll", fn := fun _ => fun
  | [d] => { results := [.lit (.bool false)], args := [d] }
  | _ => none }
def FragAllWrongFalsely : Prop := fragAllRow.holds Try.pinned (OpenSpec.ofChange fragAllWrong)

/-- 'cotillionlaw13.WindowHas': WHATEVER THE INPUT: true; the input reads as it did. -/
def windowHasSpec : ChangeSpec := { name := "windowHas", fn := fun _ => fun
  | [d1, d2, d3] => { results := [.lit (.bool true)], args := [d1, d2, d3] }
  | _ => none }
def windowHasRow : OpenClaim := { program := "ytbbokkienmicmaa", sum := "4ad7857593874edcb4bf3ff21cfd3c33846e5bda875994794811209d9bba6634", func := "cotillion/cotillionlaw13.WindowHas", spec := "windowHas", apart := false }
def WindowHasSaid : Prop := windowHasRow.holds Try.pinned (OpenSpec.ofChange windowHasSpec)

/-- ITS FALSE NEIGHBOUR: 'it returns false'. Refute it at one input. -/
def windowHasWrong : ChangeSpec := { name := "windowHas", fn := fun _ => fun
  | [d1, d2, d3] => { results := [.lit (.bool false)], args := [d1, d2, d3] }
  | _ => none }
def WindowHasWrongFalsely : Prop := windowHasRow.holds Try.pinned (OpenSpec.ofChange windowHasWrong)

/-- 'cotillionlaw13.WindowIn': WHATEVER THE INPUT: true; the input reads as it did. -/
def windowInSpec : ChangeSpec := { name := "windowIn", fn := fun _ => fun
  | [d1, d2] => { results := [.lit (.bool true)], args := [d1, d2] }
  | _ => none }
def windowInRow : OpenClaim := { program := "ytbbokkienmicmaa", sum := "4ad7857593874edcb4bf3ff21cfd3c33846e5bda875994794811209d9bba6634", func := "cotillion/cotillionlaw13.WindowIn", spec := "windowIn", apart := false }
def WindowInSaid : Prop := windowInRow.holds Try.pinned (OpenSpec.ofChange windowInSpec)

/-- ITS FALSE NEIGHBOUR: 'it returns false'. Refute it at one input. -/
def windowInWrong : ChangeSpec := { name := "windowIn", fn := fun _ => fun
  | [d1, d2] => { results := [.lit (.bool false)], args := [d1, d2] }
  | _ => none }
def WindowInWrongFalsely : Prop := windowInRow.holds Try.pinned (OpenSpec.ofChange windowInWrong)

/-- 'cotillionlaw13.WindowAcks': WHATEVER THE INPUT: true; the input reads as it did. -/
def windowAcksSpec : ChangeSpec := { name := "windowAcks", fn := fun _ => fun
  | [d1, d2] => { results := [.lit (.bool true)], args := [d1, d2] }
  | _ => none }
def windowAcksRow : OpenClaim := { program := "ytbbokkienmicmaa", sum := "4ad7857593874edcb4bf3ff21cfd3c33846e5bda875994794811209d9bba6634", func := "cotillion/cotillionlaw13.WindowAcks", spec := "windowAcks", unfollowed := true, recurses := true, apart := false }
def WindowAcksSaid : Prop := windowAcksRow.holds Try.pinned (OpenSpec.ofChange windowAcksSpec)

/-- ITS FALSE NEIGHBOUR: 'it returns false'. Refute it at one input. -/
def windowAcksWrong : ChangeSpec := { name := "windowAcks", fn := fun _ => fun
  | [d1, d2] => { results := [.lit (.bool false)], args := [d1, d2] }
  | _ => none }
def WindowAcksWrongFalsely : Prop := windowAcksRow.holds Try.pinned (OpenSpec.ofChange windowAcksWrong)

/-- 'cotillionlaw13.WindowOut': WHATEVER THE INPUT: true; the input reads as it did. -/
def windowOutSpec : ChangeSpec := { name := "windowOut", fn := fun _ => fun
  | [d1, d2] => { results := [.lit (.bool true)], args := [d1, d2] }
  | _ => none }
def windowOutRow : OpenClaim := { program := "ytbbokkienmicmaa", sum := "4ad7857593874edcb4bf3ff21cfd3c33846e5bda875994794811209d9bba6634", func := "cotillion/cotillionlaw13.WindowOut", spec := "windowOut", unfollowed := true, recurses := true, apart := false }
def WindowOutSaid : Prop := windowOutRow.holds Try.pinned (OpenSpec.ofChange windowOutSpec)

/-- ITS FALSE NEIGHBOUR: 'it returns false'. Refute it at one input. -/
def windowOutWrong : ChangeSpec := { name := "windowOut", fn := fun _ => fun
  | [d1, d2] => { results := [.lit (.bool false)], args := [d1, d2] }
  | _ => none }
def WindowOutWrongFalsely : Prop := windowOutRow.holds Try.pinned (OpenSpec.ofChange windowOutWrong)

/-- 'cotillionlaw13.WindowCarries': WHATEVER THE INPUT: true; the input reads as it did. -/
def windowCarriesSpec : ChangeSpec := { name := "windowCarries", fn := fun _ => fun
  | [d1, d2, d3] => { results := [.lit (.bool true)], args := [d1, d2, d3] }
  | _ => none }
def windowCarriesRow : OpenClaim := { program := "ytbbokkienmicmaa", sum := "4ad7857593874edcb4bf3ff21cfd3c33846e5bda875994794811209d9bba6634", func := "cotillion/cotillionlaw13.WindowCarries", spec := "windowCarries", unfollowed := true, recurses := true, apart := false }
def WindowCarriesSaid : Prop := windowCarriesRow.holds Try.pinned (OpenSpec.ofChange windowCarriesSpec)

/-- ITS FALSE NEIGHBOUR: 'it returns false'. Refute it at one input. -/
def windowCarriesWrong : ChangeSpec := { name := "windowCarries", fn := fun _ => fun
  | [d1, d2, d3] => { results := [.lit (.bool false)], args := [d1, d2, d3] }
  | _ => none }
def WindowCarriesWrongFalsely : Prop := windowCarriesRow.holds Try.pinned (OpenSpec.ofChange windowCarriesWrong)

/- THE SECOND FORM. 'bulk': how many values and letters a reading holds, each counted each time it is reached (what is shared counts as often as it is met; a slice's spare places count too). A statement '..UptoSaid' is the law's where the arguments, and the package variables that the reading takes, are together of bulk at most 1048576: NARROWER than '..Said'. Prove '..Said' where nothing that the law and all that it calls make is longer than what came in: it says more and counts as full. Else prove '..UptoSaid'. A law counts once. -/
mutual
def uptoBulk {H : Type} : DataW H → Nat
  | .lit (.string bytes) => bytes.length + 1
  | .lit _ => 1
  | .nil => 1
  | .ptr d => uptoBulk d + 1
  | .slice elems spare => uptoBulkAll elems + uptoBulkAll spare + 1
  | .agg parts => uptoBulkAll parts + 1
  | .iface _ d => uptoBulk d + 1
  | .map entries => uptoBulkEntries entries + 1
  | .held _ => 1
def uptoBulkAll {H : Type} : List (DataW H) → Nat
  | [] => 0
  | d :: r => uptoBulk d + uptoBulkAll r
def uptoBulkEntries {H : Type} : List (Lit × DataW H) → Nat
  | [] => 0
  | x :: r => uptoBulkEntry x + uptoBulkEntries r
def uptoBulkEntry {H : Type} : Lit × DataW H → Nat
  | (.string bytes, d) => bytes.length + uptoBulk d + 1
  | (_, d) => uptoBulk d + 1
 end
def uptoSmall : (H : Type) → List (DataW H) → Bool := fun _ ds => decide (uptoBulkAll ds ≤ 1048576)
def OpenSpec.upto (s : _root_.Go.ChangeSpec) : _root_.Go.OpenSpec := { _root_.Go.OpenSpec.ofChange s with cond := some uptoSmall }

/-- 'cotillionlaw12.FragPlays', WHERE WHAT IT READS IS OF BULK AT MOST 1048576: true; the input reads as it did. -/
def fragPlaysUptoRow : OpenClaim := { program := "ytbbokkienmicmaa", sum := "4ad7857593874edcb4bf3ff21cfd3c33846e5bda875994794811209d9bba6634", func := "cotillion/cotillionlaw12.FragPlays", spec := "fragPlays", apart := false, narrowed := true }
def FragPlaysUptoSaid : Prop := fragPlaysUptoRow.holds Try.pinned (OpenSpec.upto fragPlaysSpec)

/-- 'cotillionlaw12.FragFull', WHERE WHAT IT READS IS OF BULK AT MOST 1048576: true; the input reads as it did. -/
def fragFullUptoRow : OpenClaim := { program := "ytbbokkienmicmaa", sum := "4ad7857593874edcb4bf3ff21cfd3c33846e5bda875994794811209d9bba6634", func := "cotillion/cotillionlaw12.FragFull", spec := "fragFull", apart := false, narrowed := true }
def FragFullUptoSaid : Prop := fragFullUptoRow.holds Try.pinned (OpenSpec.upto fragFullSpec)

/-- 'cotillionlaw12.FragParses', WHERE WHAT IT READS IS OF BULK AT MOST 1048576: true; the input reads as it did. -/
def fragParsesUptoRow : OpenClaim := { program := "ytbbokkienmicmaa", sum := "4ad7857593874edcb4bf3ff21cfd3c33846e5bda875994794811209d9bba6634", func := "cotillion/cotillionlaw12.FragParses", spec := "fragParses", apart := false, narrowed := true }
def FragParsesUptoSaid : Prop := fragParsesUptoRow.holds Try.pinned (OpenSpec.upto fragParsesSpec)

/-- 'cotillionlaw12.FragCuts', WHERE WHAT IT READS IS OF BULK AT MOST 1048576: true; the input reads as it did. -/
def fragCutsUptoRow : OpenClaim := { program := "ytbbokkienmicmaa", sum := "4ad7857593874edcb4bf3ff21cfd3c33846e5bda875994794811209d9bba6634", func := "cotillion/cotillionlaw12.FragCuts", spec := "fragCuts", apart := false, narrowed := true }
def FragCutsUptoSaid : Prop := fragCutsUptoRow.holds Try.pinned (OpenSpec.upto fragCutsSpec)

/-- 'cotillionlaw12.FragAll', WHERE WHAT IT READS IS OF BULK AT MOST 1048576: true; the input reads as it did. -/
def fragAllUptoRow : OpenClaim := { program := "ytbbokkienmicmaa", sum := "4ad7857593874edcb4bf3ff21cfd3c33846e5bda875994794811209d9bba6634", func := "cotillion/cotillionlaw12.FragAll", spec := "fragAll", apart := false, narrowed := true }
def FragAllUptoSaid : Prop := fragAllUptoRow.holds Try.pinned (OpenSpec.upto fragAllSpec)

/-- 'cotillionlaw13.WindowHas', WHERE WHAT IT READS IS OF BULK AT MOST 1048576: true; the input reads as it did. -/
def windowHasUptoRow : OpenClaim := { program := "ytbbokkienmicmaa", sum := "4ad7857593874edcb4bf3ff21cfd3c33846e5bda875994794811209d9bba6634", func := "cotillion/cotillionlaw13.WindowHas", spec := "windowHas", apart := false, narrowed := true }
def WindowHasUptoSaid : Prop := windowHasUptoRow.holds Try.pinned (OpenSpec.upto windowHasSpec)

/-- 'cotillionlaw13.WindowIn', WHERE WHAT IT READS IS OF BULK AT MOST 1048576: true; the input reads as it did. -/
def windowInUptoRow : OpenClaim := { program := "ytbbokkienmicmaa", sum := "4ad7857593874edcb4bf3ff21cfd3c33846e5bda875994794811209d9bba6634", func := "cotillion/cotillionlaw13.WindowIn", spec := "windowIn", apart := false, narrowed := true }
def WindowInUptoSaid : Prop := windowInUptoRow.holds Try.pinned (OpenSpec.upto windowInSpec)

/-- 'cotillionlaw13.WindowAcks', WHERE WHAT IT READS IS OF BULK AT MOST 1048576: true; the input reads as it did. -/
def windowAcksUptoRow : OpenClaim := { program := "ytbbokkienmicmaa", sum := "4ad7857593874edcb4bf3ff21cfd3c33846e5bda875994794811209d9bba6634", func := "cotillion/cotillionlaw13.WindowAcks", spec := "windowAcks", unfollowed := true, recurses := true, apart := false, narrowed := true }
def WindowAcksUptoSaid : Prop := windowAcksUptoRow.holds Try.pinned (OpenSpec.upto windowAcksSpec)

/-- 'cotillionlaw13.WindowOut', WHERE WHAT IT READS IS OF BULK AT MOST 1048576: true; the input reads as it did. -/
def windowOutUptoRow : OpenClaim := { program := "ytbbokkienmicmaa", sum := "4ad7857593874edcb4bf3ff21cfd3c33846e5bda875994794811209d9bba6634", func := "cotillion/cotillionlaw13.WindowOut", spec := "windowOut", unfollowed := true, recurses := true, apart := false, narrowed := true }
def WindowOutUptoSaid : Prop := windowOutUptoRow.holds Try.pinned (OpenSpec.upto windowOutSpec)

/-- 'cotillionlaw13.WindowCarries', WHERE WHAT IT READS IS OF BULK AT MOST 1048576: true; the input reads as it did. -/
def windowCarriesUptoRow : OpenClaim := { program := "ytbbokkienmicmaa", sum := "4ad7857593874edcb4bf3ff21cfd3c33846e5bda875994794811209d9bba6634", func := "cotillion/cotillionlaw13.WindowCarries", spec := "windowCarries", unfollowed := true, recurses := true, apart := false, narrowed := true }
def WindowCarriesUptoSaid : Prop := windowCarriesUptoRow.holds Try.pinned (OpenSpec.upto windowCarriesSpec)

end Rows
end Go.Proofs.Ytbbokkienmicmaa
