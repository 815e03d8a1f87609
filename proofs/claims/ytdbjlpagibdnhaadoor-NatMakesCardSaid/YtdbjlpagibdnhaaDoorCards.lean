/-
  DERIVED. GIVEN WITH THE SEED: THE CARDS: each row of YtdbjlpagibdnhaaDoorRows.lean that lists a variable, with what it lists TIED to the program's text (the seventh form; the later family's looks); each row that meets fmt, with fmt's text TOLD by the authors' own Lean function (tested against real Go, not proved from fmt's source: count such statements apart). THE CARD IS WHAT COUNTS. Prove the row's statement (the work); the ties are given (YtdbjlpagibdnhaaDoorTie.lean); close each card by the builder's one call (the guide's Derived/Test/ToyasCard.lean, 'card_holds'). Laid BY PROGRAM, IN A SANDBOX (cutbox-door.mjs). By AI agents, Wed Nov 11 2026. No macro, syntax, notation, axiom, sorry.
-/
import Derived.Test.YtdbjlpagibdnhaaDoorRows
import GoSem.ClaimSeven
namespace Go.Proofs.YtdbjlpagibdnhaaDoor
namespace Rows

/-- THE TIED CARD OF 'abacuslaw05.NatMakes'. -/
def natMakesCard : Claim7 := { stood := { row := natMakesRow, standIns := [], harness := (true, "1c40fc8a40beec006741a384c406dfd0696f97ebb4397ce5d67425d787dc191f"), looks := false }, kinds := [], alts := [], laidByText := true, laidKinds := [.data], laidTests := true, laidLooks := .later }
def NatMakesCardSaid : Prop := Claim7.holds Tryd.pinned (.plain (OpenSpec.ofChange natMakesSpec)) natMakesCard

/-- THE TIED CARD OF 'abacuslaw05.NatShifts'. -/
def natShiftsCard : Claim7 := { stood := { row := natShiftsRow, standIns := [], harness := (true, "1c40fc8a40beec006741a384c406dfd0696f97ebb4397ce5d67425d787dc191f"), looks := false }, kinds := [], alts := [], laidByText := true, laidKinds := [.data], laidTests := true, laidLooks := .later }
def NatShiftsCardSaid : Prop := Claim7.holds Tryd.pinned (.plain (OpenSpec.ofChange natShiftsSpec)) natShiftsCard

/-- THE SECOND FORM's CARD OF 'abacuslaw05.NatMakes'. -/
def natMakesUptoCard : Claim7 := { stood := { row := natMakesUptoRow, standIns := [], harness := (true, "1c40fc8a40beec006741a384c406dfd0696f97ebb4397ce5d67425d787dc191f"), looks := false }, kinds := [], alts := [], laidByText := true, laidKinds := [.data], laidTests := true, laidLooks := .later }
def NatMakesUptoCardSaid : Prop := Claim7.holds Tryd.pinned (.plain (OpenSpec.upto natMakesSpec)) natMakesUptoCard

/-- THE SECOND FORM's CARD OF 'abacuslaw05.NatShifts'. -/
def natShiftsUptoCard : Claim7 := { stood := { row := natShiftsUptoRow, standIns := [], harness := (true, "1c40fc8a40beec006741a384c406dfd0696f97ebb4397ce5d67425d787dc191f"), looks := false }, kinds := [], alts := [], laidByText := true, laidKinds := [.data], laidTests := true, laidLooks := .later }
def NatShiftsUptoCardSaid : Prop := Claim7.holds Tryd.pinned (.plain (OpenSpec.upto natShiftsSpec)) natShiftsUptoCard
end Rows
end Go.Proofs.YtdbjlpagibdnhaaDoor
