/-
  DERIVED. GIVEN WITH THE SEED: THE CARDS: each row of YtfglhfahphncdaaGreatDoorRows.lean that lists a variable, with what it lists TIED to the program's text (the seventh form; the later family's looks); each row that meets fmt, with fmt's text TOLD by the authors' own Lean function (tested against real Go, not proved from fmt's source: count such statements apart). THE CARD IS WHAT COUNTS. Prove the row's statement (the work); the ties are given (YtfglhfahphncdaaGreatDoorTie.lean); close each card by the builder's one call (the guide's Derived/Test/ToyasCard.lean, 'card_holds'). Laid BY PROGRAM, IN A SANDBOX (cutbox-door.mjs). By AI agents, Wed Nov 11 2026. No macro, syntax, notation, axiom, sorry.
-/
import Derived.Test.YtfglhfahphncdaaGreatDoorRows
import GoSem.ClaimSeven
namespace Go.Proofs.YtfglhfahphncdaaGreatDoor
namespace Rows

/-- THE TIED CARD OF 'abacuslaw10.RoundPacks'. -/
def roundPacksCard : Claim7 := { stood := { row := roundPacksRow, standIns := [], harness := (true, "6ed099e302ae48ebfdf160fa2bd7cee2dd92e406ffa7ff67261ebb1ab64ecd36"), looks := true }, kinds := [], alts := [], laidByText := true, laidKinds := [.data], laidTests := true, laidLooks := .later }
def RoundPacksCardSaid : Prop := Claim7.holds Tryz.pinned (.plain (OpenSpec.ofChange roundPacksSpec)) roundPacksCard

/-- THE TIED CARD OF 'abacuslaw08.KindValues'. -/
def kindValuesCard : Claim7 := { stood := { row := kindValuesRow, standIns := [], harness := (true, "6ed099e302ae48ebfdf160fa2bd7cee2dd92e406ffa7ff67261ebb1ab64ecd36"), looks := true }, kinds := [], alts := [], laidByText := true, laidKinds := [.data], laidTests := true, laidLooks := .later }
def KindValuesCardSaid : Prop := Claim7.holds Tryz.pinned (.plain (OpenSpec.ofChange kindValuesSpec)) kindValuesCard

/-- THE TIED CARD OF 'abacuslaw10.RoundRule'. -/
def roundRuleCard : Claim7 := { stood := { row := roundRuleRow, standIns := [], harness := (true, "6ed099e302ae48ebfdf160fa2bd7cee2dd92e406ffa7ff67261ebb1ab64ecd36"), looks := true }, kinds := [], alts := [], laidByText := true, laidKinds := [.data], laidTests := true, laidLooks := .later }
def RoundRuleCardSaid : Prop := Claim7.holds Tryz.pinned (.plain (OpenSpec.ofChange roundRuleSpec)) roundRuleCard

/-- THE TIED CARD OF 'abacuslaw08.KindTexts'. -/
def kindTextsCard : Claim7 := { stood := { row := kindTextsRow, standIns := [], harness := (true, "6ed099e302ae48ebfdf160fa2bd7cee2dd92e406ffa7ff67261ebb1ab64ecd36"), looks := true }, kinds := [], alts := [], laidByText := true, laidKinds := [.data, .data, .data, .sentinel, .sentinel], laidTests := true, laidLooks := .later }
def KindTextsCardSaid : Prop := Claim7.holds Tryz.pinned (.plain (OpenSpec.ofChange kindTextsSpec)) kindTextsCard

/-- THE TIED CARD OF 'abacuslaw08.KindBack'. -/
def kindBackCard : Claim7 := { stood := { row := kindBackRow, standIns := [], harness := (true, "6ed099e302ae48ebfdf160fa2bd7cee2dd92e406ffa7ff67261ebb1ab64ecd36"), looks := true }, kinds := [], alts := [], laidByText := true, laidKinds := [.data, .data, .data, .sentinel, .sentinel], laidTests := true, laidLooks := .later }
def KindBackCardSaid : Prop := Claim7.holds Tryz.pinned (.plain (OpenSpec.ofChange kindBackSpec)) kindBackCard

/-- THE SECOND FORM's CARD OF 'abacuslaw10.RoundPacks'. -/
def roundPacksUptoCard : Claim7 := { stood := { row := roundPacksUptoRow, standIns := [], harness := (true, "6ed099e302ae48ebfdf160fa2bd7cee2dd92e406ffa7ff67261ebb1ab64ecd36"), looks := true }, kinds := [], alts := [], laidByText := true, laidKinds := [.data], laidTests := true, laidLooks := .later }
def RoundPacksUptoCardSaid : Prop := Claim7.holds Tryz.pinned (.plain (OpenSpec.upto roundPacksSpec)) roundPacksUptoCard

/-- THE SECOND FORM's CARD OF 'abacuslaw08.KindValues'. -/
def kindValuesUptoCard : Claim7 := { stood := { row := kindValuesUptoRow, standIns := [], harness := (true, "6ed099e302ae48ebfdf160fa2bd7cee2dd92e406ffa7ff67261ebb1ab64ecd36"), looks := true }, kinds := [], alts := [], laidByText := true, laidKinds := [.data], laidTests := true, laidLooks := .later }
def KindValuesUptoCardSaid : Prop := Claim7.holds Tryz.pinned (.plain (OpenSpec.upto kindValuesSpec)) kindValuesUptoCard

/-- THE SECOND FORM's CARD OF 'abacuslaw10.RoundRule'. -/
def roundRuleUptoCard : Claim7 := { stood := { row := roundRuleUptoRow, standIns := [], harness := (true, "6ed099e302ae48ebfdf160fa2bd7cee2dd92e406ffa7ff67261ebb1ab64ecd36"), looks := true }, kinds := [], alts := [], laidByText := true, laidKinds := [.data], laidTests := true, laidLooks := .later }
def RoundRuleUptoCardSaid : Prop := Claim7.holds Tryz.pinned (.plain (OpenSpec.upto roundRuleSpec)) roundRuleUptoCard

/-- THE SECOND FORM's CARD OF 'abacuslaw08.KindTexts'. -/
def kindTextsUptoCard : Claim7 := { stood := { row := kindTextsUptoRow, standIns := [], harness := (true, "6ed099e302ae48ebfdf160fa2bd7cee2dd92e406ffa7ff67261ebb1ab64ecd36"), looks := true }, kinds := [], alts := [], laidByText := true, laidKinds := [.data, .data, .data, .sentinel, .sentinel], laidTests := true, laidLooks := .later }
def KindTextsUptoCardSaid : Prop := Claim7.holds Tryz.pinned (.plain (OpenSpec.upto kindTextsSpec)) kindTextsUptoCard

/-- THE SECOND FORM's CARD OF 'abacuslaw08.KindBack'. -/
def kindBackUptoCard : Claim7 := { stood := { row := kindBackUptoRow, standIns := [], harness := (true, "6ed099e302ae48ebfdf160fa2bd7cee2dd92e406ffa7ff67261ebb1ab64ecd36"), looks := true }, kinds := [], alts := [], laidByText := true, laidKinds := [.data, .data, .data, .sentinel, .sentinel], laidTests := true, laidLooks := .later }
def KindBackUptoCardSaid : Prop := Claim7.holds Tryz.pinned (.plain (OpenSpec.upto kindBackSpec)) kindBackUptoCard
end Rows
end Go.Proofs.YtfglhfahphncdaaGreatDoor
