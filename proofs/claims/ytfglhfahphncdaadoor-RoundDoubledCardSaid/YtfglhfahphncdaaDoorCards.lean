/-
  DERIVED. GIVEN WITH THE SEED: THE CARDS: each row of YtfglhfahphncdaaDoorRows.lean that lists a variable, with what it lists TIED to the program's text (the seventh form; the later family's looks); each row that meets fmt, with fmt's text TOLD by the authors' own Lean function (tested against real Go, not proved from fmt's source: count such statements apart). THE CARD IS WHAT COUNTS. Prove the row's statement (the work); the ties are given (YtfglhfahphncdaaDoorTie.lean); close each card by the builder's one call (the guide's Derived/Test/ToyasCard.lean, 'card_holds'). Laid BY PROGRAM, IN A SANDBOX (cutbox-door.mjs). By AI agents, Wed Nov 11 2026. No macro, syntax, notation, axiom, sorry.
-/
import Derived.Test.YtfglhfahphncdaaDoorRows
import GoSem.ClaimSeven
namespace Go.Proofs.YtfglhfahphncdaaDoor
namespace Rows

/-- THE TIED CARD OF 'abacuslaw08.KindSigns'. -/
def kindSignsCard : Claim7 := { stood := { row := kindSignsRow, standIns := [], harness := (true, "b9c737ac1b2b996cc7531ab3ef360bdd7b97333036e2b00686ccb230e301c4ed"), looks := false }, kinds := [], alts := [], laidByText := true, laidKinds := [.data], laidTests := true, laidLooks := .later }
def KindSignsCardSaid : Prop := Claim7.holds Tryd.pinned (.plain (OpenSpec.ofChange kindSignsSpec)) kindSignsCard

/-- THE TIED CARD OF 'abacuslaw08.KindParts'. -/
def kindPartsCard : Claim7 := { stood := { row := kindPartsRow, standIns := [], harness := (true, "b9c737ac1b2b996cc7531ab3ef360bdd7b97333036e2b00686ccb230e301c4ed"), looks := false }, kinds := [], alts := [], laidByText := true, laidKinds := [.data], laidTests := true, laidLooks := .later }
def KindPartsCardSaid : Prop := Claim7.holds Tryd.pinned (.plain (OpenSpec.ofChange kindPartsSpec)) kindPartsCard

/-- THE TIED CARD OF 'abacuslaw10.RoundOver'. -/
def roundOverCard : Claim7 := { stood := { row := roundOverRow, standIns := [], harness := (true, "b9c737ac1b2b996cc7531ab3ef360bdd7b97333036e2b00686ccb230e301c4ed"), looks := false }, kinds := [], alts := [], laidByText := true, laidKinds := [.data], laidTests := true, laidLooks := .later }
def RoundOverCardSaid : Prop := Claim7.holds Tryd.pinned (.plain (OpenSpec.ofChange roundOverSpec)) roundOverCard

/-- THE TIED CARD OF 'abacuslaw10.RoundDoubled'. -/
def roundDoubledCard : Claim7 := { stood := { row := roundDoubledRow, standIns := [], harness := (true, "b9c737ac1b2b996cc7531ab3ef360bdd7b97333036e2b00686ccb230e301c4ed"), looks := false }, kinds := [], alts := [], laidByText := true, laidKinds := [.data], laidTests := true, laidLooks := .later }
def RoundDoubledCardSaid : Prop := Claim7.holds Tryd.pinned (.plain (OpenSpec.ofChange roundDoubledSpec)) roundDoubledCard

/-- THE TIED CARD OF 'abacuslaw08.KindNext'. -/
def kindNextCard : Claim7 := { stood := { row := kindNextRow, standIns := [], harness := (true, "b9c737ac1b2b996cc7531ab3ef360bdd7b97333036e2b00686ccb230e301c4ed"), looks := false }, kinds := [], alts := [], laidByText := true, laidKinds := [.data], laidTests := true, laidLooks := .later }
def KindNextCardSaid : Prop := Claim7.holds Tryd.pinned (.plain (OpenSpec.ofChange kindNextSpec)) kindNextCard

/-- THE SECOND FORM's CARD OF 'abacuslaw08.KindSigns'. -/
def kindSignsUptoCard : Claim7 := { stood := { row := kindSignsUptoRow, standIns := [], harness := (true, "b9c737ac1b2b996cc7531ab3ef360bdd7b97333036e2b00686ccb230e301c4ed"), looks := false }, kinds := [], alts := [], laidByText := true, laidKinds := [.data], laidTests := true, laidLooks := .later }
def KindSignsUptoCardSaid : Prop := Claim7.holds Tryd.pinned (.plain (OpenSpec.upto kindSignsSpec)) kindSignsUptoCard

/-- THE SECOND FORM's CARD OF 'abacuslaw08.KindParts'. -/
def kindPartsUptoCard : Claim7 := { stood := { row := kindPartsUptoRow, standIns := [], harness := (true, "b9c737ac1b2b996cc7531ab3ef360bdd7b97333036e2b00686ccb230e301c4ed"), looks := false }, kinds := [], alts := [], laidByText := true, laidKinds := [.data], laidTests := true, laidLooks := .later }
def KindPartsUptoCardSaid : Prop := Claim7.holds Tryd.pinned (.plain (OpenSpec.upto kindPartsSpec)) kindPartsUptoCard

/-- THE SECOND FORM's CARD OF 'abacuslaw10.RoundOver'. -/
def roundOverUptoCard : Claim7 := { stood := { row := roundOverUptoRow, standIns := [], harness := (true, "b9c737ac1b2b996cc7531ab3ef360bdd7b97333036e2b00686ccb230e301c4ed"), looks := false }, kinds := [], alts := [], laidByText := true, laidKinds := [.data], laidTests := true, laidLooks := .later }
def RoundOverUptoCardSaid : Prop := Claim7.holds Tryd.pinned (.plain (OpenSpec.upto roundOverSpec)) roundOverUptoCard

/-- THE SECOND FORM's CARD OF 'abacuslaw10.RoundDoubled'. -/
def roundDoubledUptoCard : Claim7 := { stood := { row := roundDoubledUptoRow, standIns := [], harness := (true, "b9c737ac1b2b996cc7531ab3ef360bdd7b97333036e2b00686ccb230e301c4ed"), looks := false }, kinds := [], alts := [], laidByText := true, laidKinds := [.data], laidTests := true, laidLooks := .later }
def RoundDoubledUptoCardSaid : Prop := Claim7.holds Tryd.pinned (.plain (OpenSpec.upto roundDoubledSpec)) roundDoubledUptoCard

/-- THE SECOND FORM's CARD OF 'abacuslaw08.KindNext'. -/
def kindNextUptoCard : Claim7 := { stood := { row := kindNextUptoRow, standIns := [], harness := (true, "b9c737ac1b2b996cc7531ab3ef360bdd7b97333036e2b00686ccb230e301c4ed"), looks := false }, kinds := [], alts := [], laidByText := true, laidKinds := [.data], laidTests := true, laidLooks := .later }
def KindNextUptoCardSaid : Prop := Claim7.holds Tryd.pinned (.plain (OpenSpec.upto kindNextSpec)) kindNextUptoCard
end Rows
end Go.Proofs.YtfglhfahphncdaaDoor
