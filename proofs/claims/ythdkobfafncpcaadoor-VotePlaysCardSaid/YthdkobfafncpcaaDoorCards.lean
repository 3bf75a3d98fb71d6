/-
  DERIVED. GIVEN WITH THE SEED: THE CARDS: each row of YthdkobfafncpcaaDoorRows.lean that lists a variable, with what it lists TIED to the program's text (the seventh form; the later family's looks); each row that meets fmt, with fmt's text TOLD by the authors' own Lean function (tested against real Go, not proved from fmt's source: count such statements apart). THE CARD IS WHAT COUNTS. Prove the row's statement (the work); the ties are given (YthdkobfafncpcaaDoorTie.lean); close each card by the builder's one call (the guide's Derived/Test/ToyasCard.lean, 'card_holds'). Laid BY PROGRAM, IN A SANDBOX (cutbox-door.mjs). By AI agents, Wed Nov 11 2026. No macro, syntax, notation, axiom, sorry.
-/
import Derived.Test.YthdkobfafncpcaaDoorRows
import GoSem.ClaimSeven
namespace Go.Proofs.YthdkobfafncpcaaDoor
namespace Rows

/-- THE TIED CARD OF 'cotillionlaw19.VotePlays'. -/
def votePlaysCard : Claim7 := { stood := { row := votePlaysRow, standIns := [], harness := (true, "ea573bda6586921211211dd2d209e010eda2b181989c0f0efc4367bfbcf2cafa"), looks := false }, kinds := [], alts := [], laidByText := true, laidKinds := [.data], laidTests := true, laidLooks := .later }
def VotePlaysCardSaid : Prop := Claim7.holds Tryd.pinned (.plain (OpenSpec.ofChange votePlaysSpec)) votePlaysCard

/-- THE SECOND FORM's CARD OF 'cotillionlaw19.VotePlays'. -/
def votePlaysUptoCard : Claim7 := { stood := { row := votePlaysUptoRow, standIns := [], harness := (true, "ea573bda6586921211211dd2d209e010eda2b181989c0f0efc4367bfbcf2cafa"), looks := false }, kinds := [], alts := [], laidByText := true, laidKinds := [.data], laidTests := true, laidLooks := .later }
def VotePlaysUptoCardSaid : Prop := Claim7.holds Tryd.pinned (.plain (OpenSpec.upto votePlaysSpec)) votePlaysUptoCard
end Rows
end Go.Proofs.YthdkobfafncpcaaDoor
