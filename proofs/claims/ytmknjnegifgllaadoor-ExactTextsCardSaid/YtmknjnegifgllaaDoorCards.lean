/-
  DERIVED. GIVEN WITH THE SEED: THE CARDS: each row of YtmknjnegifgllaaDoorRows.lean that lists a variable, with what it lists TIED to the program's text (the seventh form; the later family's looks); each row that meets fmt, with fmt's text TOLD by the authors' own Lean function (tested against real Go, not proved from fmt's source: count such statements apart). THE CARD IS WHAT COUNTS. Prove the row's statement (the work); the ties are given (YtmknjnegifgllaaDoorTie.lean); close each card by the builder's one call (the guide's Derived/Test/ToyasCard.lean, 'card_holds'). Laid BY PROGRAM, IN A SANDBOX (cutbox-door.mjs). By AI agents, Wed Nov 11 2026. No macro, syntax, notation, axiom, sorry.
-/
import Derived.Test.YtmknjnegifgllaaDoorRows
import GoSem.ClaimSeven
namespace Go.Proofs.YtmknjnegifgllaaDoor
namespace Rows

/-- THE TIED CARD OF 'abacuslaw06.ExactMakes'. -/
def exactMakesCard : Claim7 := { stood := { row := exactMakesRow, standIns := [], harness := (true, "e9e44d9e58b6dd70122f31e8de16c808339aa66678381a177132db04c87ec9a3"), looks := false }, kinds := [], alts := [], laidByText := true, laidKinds := [.data], laidTests := true, laidLooks := .later }
def ExactMakesCardSaid : Prop := Claim7.holds Tryd.pinned (.plain (OpenSpec.ofChange exactMakesSpec)) exactMakesCard

/-- THE TIED CARD OF 'abacuslaw06.ExactSigns'. -/
def exactSignsCard : Claim7 := { stood := { row := exactSignsRow, standIns := [], harness := (true, "e9e44d9e58b6dd70122f31e8de16c808339aa66678381a177132db04c87ec9a3"), looks := false }, kinds := [], alts := [], laidByText := true, laidKinds := [.data], laidTests := true, laidLooks := .later }
def ExactSignsCardSaid : Prop := Claim7.holds Tryd.pinned (.plain (OpenSpec.ofChange exactSignsSpec)) exactSignsCard

/-- THE TIED CARD OF 'abacuslaw06.ExactProducts'. -/
def exactProductsCard : Claim7 := { stood := { row := exactProductsRow, standIns := [], harness := (true, "e9e44d9e58b6dd70122f31e8de16c808339aa66678381a177132db04c87ec9a3"), looks := false }, kinds := [], alts := [], laidByText := true, laidKinds := [.data], laidTests := true, laidLooks := .later }
def ExactProductsCardSaid : Prop := Claim7.holds Tryd.pinned (.plain (OpenSpec.ofChange exactProductsSpec)) exactProductsCard

/-- THE TIED CARD OF 'abacuslaw06.ExactPlaces'. -/
def exactPlacesCard : Claim7 := { stood := { row := exactPlacesRow, standIns := [], harness := (true, "e9e44d9e58b6dd70122f31e8de16c808339aa66678381a177132db04c87ec9a3"), looks := false }, kinds := [], alts := [], laidByText := true, laidKinds := [.data], laidTests := true, laidLooks := .later }
def ExactPlacesCardSaid : Prop := Claim7.holds Tryd.pinned (.plain (OpenSpec.ofChange exactPlacesSpec)) exactPlacesCard

/-- THE TIED CARD OF 'abacuslaw06.ExactBetween'. -/
def exactBetweenCard : Claim7 := { stood := { row := exactBetweenRow, standIns := [], harness := (true, "e9e44d9e58b6dd70122f31e8de16c808339aa66678381a177132db04c87ec9a3"), looks := false }, kinds := [], alts := [], laidByText := true, laidKinds := [.data], laidTests := true, laidLooks := .later }
def ExactBetweenCardSaid : Prop := Claim7.holds Tryd.pinned (.plain (OpenSpec.ofChange exactBetweenSpec)) exactBetweenCard

/-- THE TIED CARD OF 'abacuslaw06.ExactSums'. -/
def exactSumsCard : Claim7 := { stood := { row := exactSumsRow, standIns := [], harness := (true, "e9e44d9e58b6dd70122f31e8de16c808339aa66678381a177132db04c87ec9a3"), looks := false }, kinds := [], alts := [], laidByText := true, laidKinds := [.data], laidTests := true, laidLooks := .later }
def ExactSumsCardSaid : Prop := Claim7.holds Tryd.pinned (.plain (OpenSpec.ofChange exactSumsSpec)) exactSumsCard

/-- THE TIED CARD OF 'abacuslaw06.ExactTexts'. -/
def exactTextsCard : Claim7 := { stood := { row := exactTextsRow, standIns := [], harness := (true, "e9e44d9e58b6dd70122f31e8de16c808339aa66678381a177132db04c87ec9a3"), looks := false }, kinds := [], alts := [], laidByText := true, laidKinds := [.data, .data, .data], laidTests := true, laidLooks := .later }
def ExactTextsCardSaid : Prop := Claim7.holds Tryd.pinned (.plain (OpenSpec.ofChange exactTextsSpec)) exactTextsCard

/-- THE TIED CARD OF 'abacuslaw06.ExactField'. -/
def exactFieldCard : Claim7 := { stood := { row := exactFieldRow, standIns := [], harness := (true, "e9e44d9e58b6dd70122f31e8de16c808339aa66678381a177132db04c87ec9a3"), looks := false }, kinds := [], alts := [], laidByText := true, laidKinds := [.data], laidTests := true, laidLooks := .later }
def ExactFieldCardSaid : Prop := Claim7.holds Tryd.pinned (.plain (OpenSpec.ofChange exactFieldSpec)) exactFieldCard

/-- THE SECOND FORM's CARD OF 'abacuslaw06.ExactMakes'. -/
def exactMakesUptoCard : Claim7 := { stood := { row := exactMakesUptoRow, standIns := [], harness := (true, "e9e44d9e58b6dd70122f31e8de16c808339aa66678381a177132db04c87ec9a3"), looks := false }, kinds := [], alts := [], laidByText := true, laidKinds := [.data], laidTests := true, laidLooks := .later }
def ExactMakesUptoCardSaid : Prop := Claim7.holds Tryd.pinned (.plain (OpenSpec.upto exactMakesSpec)) exactMakesUptoCard

/-- THE SECOND FORM's CARD OF 'abacuslaw06.ExactSigns'. -/
def exactSignsUptoCard : Claim7 := { stood := { row := exactSignsUptoRow, standIns := [], harness := (true, "e9e44d9e58b6dd70122f31e8de16c808339aa66678381a177132db04c87ec9a3"), looks := false }, kinds := [], alts := [], laidByText := true, laidKinds := [.data], laidTests := true, laidLooks := .later }
def ExactSignsUptoCardSaid : Prop := Claim7.holds Tryd.pinned (.plain (OpenSpec.upto exactSignsSpec)) exactSignsUptoCard

/-- THE SECOND FORM's CARD OF 'abacuslaw06.ExactProducts'. -/
def exactProductsUptoCard : Claim7 := { stood := { row := exactProductsUptoRow, standIns := [], harness := (true, "e9e44d9e58b6dd70122f31e8de16c808339aa66678381a177132db04c87ec9a3"), looks := false }, kinds := [], alts := [], laidByText := true, laidKinds := [.data], laidTests := true, laidLooks := .later }
def ExactProductsUptoCardSaid : Prop := Claim7.holds Tryd.pinned (.plain (OpenSpec.upto exactProductsSpec)) exactProductsUptoCard

/-- THE SECOND FORM's CARD OF 'abacuslaw06.ExactPlaces'. -/
def exactPlacesUptoCard : Claim7 := { stood := { row := exactPlacesUptoRow, standIns := [], harness := (true, "e9e44d9e58b6dd70122f31e8de16c808339aa66678381a177132db04c87ec9a3"), looks := false }, kinds := [], alts := [], laidByText := true, laidKinds := [.data], laidTests := true, laidLooks := .later }
def ExactPlacesUptoCardSaid : Prop := Claim7.holds Tryd.pinned (.plain (OpenSpec.upto exactPlacesSpec)) exactPlacesUptoCard

/-- THE SECOND FORM's CARD OF 'abacuslaw06.ExactBetween'. -/
def exactBetweenUptoCard : Claim7 := { stood := { row := exactBetweenUptoRow, standIns := [], harness := (true, "e9e44d9e58b6dd70122f31e8de16c808339aa66678381a177132db04c87ec9a3"), looks := false }, kinds := [], alts := [], laidByText := true, laidKinds := [.data], laidTests := true, laidLooks := .later }
def ExactBetweenUptoCardSaid : Prop := Claim7.holds Tryd.pinned (.plain (OpenSpec.upto exactBetweenSpec)) exactBetweenUptoCard

/-- THE SECOND FORM's CARD OF 'abacuslaw06.ExactSums'. -/
def exactSumsUptoCard : Claim7 := { stood := { row := exactSumsUptoRow, standIns := [], harness := (true, "e9e44d9e58b6dd70122f31e8de16c808339aa66678381a177132db04c87ec9a3"), looks := false }, kinds := [], alts := [], laidByText := true, laidKinds := [.data], laidTests := true, laidLooks := .later }
def ExactSumsUptoCardSaid : Prop := Claim7.holds Tryd.pinned (.plain (OpenSpec.upto exactSumsSpec)) exactSumsUptoCard

/-- THE SECOND FORM's CARD OF 'abacuslaw06.ExactTexts'. -/
def exactTextsUptoCard : Claim7 := { stood := { row := exactTextsUptoRow, standIns := [], harness := (true, "e9e44d9e58b6dd70122f31e8de16c808339aa66678381a177132db04c87ec9a3"), looks := false }, kinds := [], alts := [], laidByText := true, laidKinds := [.data, .data, .data], laidTests := true, laidLooks := .later }
def ExactTextsUptoCardSaid : Prop := Claim7.holds Tryd.pinned (.plain (OpenSpec.upto exactTextsSpec)) exactTextsUptoCard

/-- THE SECOND FORM's CARD OF 'abacuslaw06.ExactField'. -/
def exactFieldUptoCard : Claim7 := { stood := { row := exactFieldUptoRow, standIns := [], harness := (true, "e9e44d9e58b6dd70122f31e8de16c808339aa66678381a177132db04c87ec9a3"), looks := false }, kinds := [], alts := [], laidByText := true, laidKinds := [.data], laidTests := true, laidLooks := .later }
def ExactFieldUptoCardSaid : Prop := Claim7.holds Tryd.pinned (.plain (OpenSpec.upto exactFieldSpec)) exactFieldUptoCard
end Rows
end Go.Proofs.YtmknjnegifgllaaDoor
