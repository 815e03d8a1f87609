/-
  DERIVED. GIVEN WITH THE SEED: THE CARDS: each row of YtnomdgcpklbcfaaGreatDoorRows.lean that lists a variable, with what it lists TIED to the program's text (the seventh form; the later family's looks); each row that meets fmt, with fmt's text TOLD by the authors' own Lean function (tested against real Go, not proved from fmt's source: count such statements apart). THE CARD IS WHAT COUNTS. Prove the row's statement (the work); the ties are given (YtnomdgcpklbcfaaGreatDoorTie.lean); close each card by the builder's one call (the guide's Derived/Test/ToyasCard.lean, 'card_holds'). Laid BY PROGRAM, IN A SANDBOX (cutbox-door.mjs). By AI agents, Wed Nov 11 2026. No macro, syntax, notation, axiom, sorry.
-/
import Derived.Test.YtnomdgcpklbcfaaGreatDoorRows
import GoSem.ClaimSeven
namespace Go.Proofs.YtnomdgcpklbcfaaGreatDoor
namespace Rows

/-- THE TIED CARD OF 'abacuslaw09.RuleRounds'. -/
def ruleRoundsCard : Claim7 := { stood := { row := ruleRoundsRow, standIns := [], harness := (true, "a665881d2d0d39d8a16104d982a99bf99a8a9754fb9cd85166834f8382acec59"), looks := false }, kinds := [], alts := [], laidByText := true, laidKinds := [.data], laidTests := true, laidLooks := .later }
def RuleRoundsCardSaid : Prop := Claim7.holds Tryz.pinned (.plain (OpenSpec.ofChange ruleRoundsSpec)) ruleRoundsCard

/-- THE TIED CARD OF 'abacuslaw09.RuleRoots'. -/
def ruleRootsCard : Claim7 := { stood := { row := ruleRootsRow, standIns := [], harness := (true, "a665881d2d0d39d8a16104d982a99bf99a8a9754fb9cd85166834f8382acec59"), looks := false }, kinds := [], alts := [], laidByText := true, laidKinds := [.data], laidTests := true, laidLooks := .later }
def RuleRootsCardSaid : Prop := Claim7.holds Tryz.pinned (.plain (OpenSpec.ofChange ruleRootsSpec)) ruleRootsCard

/-- THE TIED CARD OF 'abacuslaw09.RuleLong'. -/
def ruleLongCard : Claim7 := { stood := { row := ruleLongRow, standIns := [], harness := (true, "a665881d2d0d39d8a16104d982a99bf99a8a9754fb9cd85166834f8382acec59"), looks := false }, kinds := [], alts := [], laidByText := true, laidKinds := [.data], laidTests := true, laidLooks := .later }
def RuleLongCardSaid : Prop := Claim7.holds Tryz.pinned (.plain (OpenSpec.ofChange ruleLongSpec)) ruleLongCard

/-- THE TIED CARD OF 'abacuslaw09.RuleNears'. -/
def ruleNearsCard : Claim7 := { stood := { row := ruleNearsRow, standIns := [], harness := (true, "a665881d2d0d39d8a16104d982a99bf99a8a9754fb9cd85166834f8382acec59"), looks := false }, kinds := [], alts := [], laidByText := true, laidKinds := [.data], laidTests := true, laidLooks := .later }
def RuleNearsCardSaid : Prop := Claim7.holds Tryz.pinned (.plain (OpenSpec.ofChange ruleNearsSpec)) ruleNearsCard

/-- THE TIED CARD OF 'abacuslaw09.RuleExact'. -/
def ruleExactCard : Claim7 := { stood := { row := ruleExactRow, standIns := [], harness := (true, "a665881d2d0d39d8a16104d982a99bf99a8a9754fb9cd85166834f8382acec59"), looks := false }, kinds := [], alts := [], laidByText := true, laidKinds := [.data], laidTests := true, laidLooks := .later }
def RuleExactCardSaid : Prop := Claim7.holds Tryz.pinned (.plain (OpenSpec.ofChange ruleExactSpec)) ruleExactCard

/-- THE TIED CARD OF 'abacuslaw09.RuleNearest'. -/
def ruleNearestCard : Claim7 := { stood := { row := ruleNearestRow, standIns := [], harness := (true, "a665881d2d0d39d8a16104d982a99bf99a8a9754fb9cd85166834f8382acec59"), looks := false }, kinds := [], alts := [], laidByText := true, laidKinds := [.data], laidTests := true, laidLooks := .later }
def RuleNearestCardSaid : Prop := Claim7.holds Tryz.pinned (.plain (OpenSpec.ofChange ruleNearestSpec)) ruleNearestCard

/-- THE SECOND FORM's CARD OF 'abacuslaw09.RuleRounds'. -/
def ruleRoundsUptoCard : Claim7 := { stood := { row := ruleRoundsUptoRow, standIns := [], harness := (true, "a665881d2d0d39d8a16104d982a99bf99a8a9754fb9cd85166834f8382acec59"), looks := false }, kinds := [], alts := [], laidByText := true, laidKinds := [.data], laidTests := true, laidLooks := .later }
def RuleRoundsUptoCardSaid : Prop := Claim7.holds Tryz.pinned (.plain (OpenSpec.upto ruleRoundsSpec)) ruleRoundsUptoCard

/-- THE SECOND FORM's CARD OF 'abacuslaw09.RuleRoots'. -/
def ruleRootsUptoCard : Claim7 := { stood := { row := ruleRootsUptoRow, standIns := [], harness := (true, "a665881d2d0d39d8a16104d982a99bf99a8a9754fb9cd85166834f8382acec59"), looks := false }, kinds := [], alts := [], laidByText := true, laidKinds := [.data], laidTests := true, laidLooks := .later }
def RuleRootsUptoCardSaid : Prop := Claim7.holds Tryz.pinned (.plain (OpenSpec.upto ruleRootsSpec)) ruleRootsUptoCard

/-- THE SECOND FORM's CARD OF 'abacuslaw09.RuleLong'. -/
def ruleLongUptoCard : Claim7 := { stood := { row := ruleLongUptoRow, standIns := [], harness := (true, "a665881d2d0d39d8a16104d982a99bf99a8a9754fb9cd85166834f8382acec59"), looks := false }, kinds := [], alts := [], laidByText := true, laidKinds := [.data], laidTests := true, laidLooks := .later }
def RuleLongUptoCardSaid : Prop := Claim7.holds Tryz.pinned (.plain (OpenSpec.upto ruleLongSpec)) ruleLongUptoCard

/-- THE SECOND FORM's CARD OF 'abacuslaw09.RuleNears'. -/
def ruleNearsUptoCard : Claim7 := { stood := { row := ruleNearsUptoRow, standIns := [], harness := (true, "a665881d2d0d39d8a16104d982a99bf99a8a9754fb9cd85166834f8382acec59"), looks := false }, kinds := [], alts := [], laidByText := true, laidKinds := [.data], laidTests := true, laidLooks := .later }
def RuleNearsUptoCardSaid : Prop := Claim7.holds Tryz.pinned (.plain (OpenSpec.upto ruleNearsSpec)) ruleNearsUptoCard

/-- THE SECOND FORM's CARD OF 'abacuslaw09.RuleExact'. -/
def ruleExactUptoCard : Claim7 := { stood := { row := ruleExactUptoRow, standIns := [], harness := (true, "a665881d2d0d39d8a16104d982a99bf99a8a9754fb9cd85166834f8382acec59"), looks := false }, kinds := [], alts := [], laidByText := true, laidKinds := [.data], laidTests := true, laidLooks := .later }
def RuleExactUptoCardSaid : Prop := Claim7.holds Tryz.pinned (.plain (OpenSpec.upto ruleExactSpec)) ruleExactUptoCard

/-- THE SECOND FORM's CARD OF 'abacuslaw09.RuleNearest'. -/
def ruleNearestUptoCard : Claim7 := { stood := { row := ruleNearestUptoRow, standIns := [], harness := (true, "a665881d2d0d39d8a16104d982a99bf99a8a9754fb9cd85166834f8382acec59"), looks := false }, kinds := [], alts := [], laidByText := true, laidKinds := [.data], laidTests := true, laidLooks := .later }
def RuleNearestUptoCardSaid : Prop := Claim7.holds Tryz.pinned (.plain (OpenSpec.upto ruleNearestSpec)) ruleNearestUptoCard
end Rows
end Go.Proofs.YtnomdgcpklbcfaaGreatDoor
