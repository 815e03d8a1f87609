/-
  DERIVED. GIVEN WITH THE SEED: THE CARDS: each row of YtnomdgcpklbcfaaDoorRows.lean that lists a variable, with what it lists TIED to the program's text (the seventh form; the later family's looks); each row that meets fmt, with fmt's text TOLD by the authors' own Lean function (tested against real Go, not proved from fmt's source: count such statements apart). THE CARD IS WHAT COUNTS. Prove the row's statement (the work); the ties are given (YtnomdgcpklbcfaaDoorTie.lean); close each card by the builder's one call (the guide's Derived/Test/ToyasCard.lean, 'card_holds'). Laid BY PROGRAM, IN A SANDBOX (cutbox-door.mjs). By AI agents, Wed Nov 11 2026. No macro, syntax, notation, axiom, sorry.
-/
import Derived.Test.YtnomdgcpklbcfaaDoorRows
import GoSem.ClaimSeven
namespace Go.Proofs.YtnomdgcpklbcfaaDoor
namespace Rows

/-- THE TIED CARD OF 'abacuslaw09.RuleTurned'. -/
def ruleTurnedCard : Claim7 := { stood := { row := ruleTurnedRow, standIns := [], harness := (true, "06e2568c02107b42cd29e3475091ce05989882c1b341572bdb9a0e2d67202994"), looks := false }, kinds := [], alts := [], laidByText := true, laidKinds := [.data], laidTests := true, laidLooks := .later }
def RuleTurnedCardSaid : Prop := Claim7.holds Tryd.pinned (.plain (OpenSpec.ofChange ruleTurnedSpec)) ruleTurnedCard

/-- THE SECOND FORM's CARD OF 'abacuslaw09.RuleTurned'. -/
def ruleTurnedUptoCard : Claim7 := { stood := { row := ruleTurnedUptoRow, standIns := [], harness := (true, "06e2568c02107b42cd29e3475091ce05989882c1b341572bdb9a0e2d67202994"), looks := false }, kinds := [], alts := [], laidByText := true, laidKinds := [.data], laidTests := true, laidLooks := .later }
def RuleTurnedUptoCardSaid : Prop := Claim7.holds Tryd.pinned (.plain (OpenSpec.upto ruleTurnedSpec)) ruleTurnedUptoCard
end Rows
end Go.Proofs.YtnomdgcpklbcfaaDoor
