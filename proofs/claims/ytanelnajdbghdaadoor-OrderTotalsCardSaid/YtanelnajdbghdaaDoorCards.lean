/-
  DERIVED. GIVEN WITH THE SEED: THE CARDS: each row of YtanelnajdbghdaaDoorRows.lean that lists a variable, with what it lists TIED to the program's text (the seventh form; the later family's looks); each row that meets fmt, with fmt's text TOLD by the authors' own Lean function (tested against real Go, not proved from fmt's source: count such statements apart). THE CARD IS WHAT COUNTS. Prove the row's statement (the work); the ties are given (YtanelnajdbghdaaDoorTie.lean); close each card by the builder's one call (the guide's Derived/Test/ToyasCard.lean, 'card_holds'). Laid BY PROGRAM, IN A SANDBOX (cutbox-door.mjs). By AI agents, Wed Nov 11 2026. No macro, syntax, notation, axiom, sorry.
-/
import Derived.Test.YtanelnajdbghdaaDoorRows
import GoSem.ClaimSeven
namespace Go.Proofs.YtanelnajdbghdaaDoor
namespace Rows

/-- THE TIED CARD OF 'abacuslaw17.SignInjects'. -/
def signInjectsCard : Claim7 := { stood := { row := signInjectsRow, standIns := [], harness := (true, "7354a1402e7b7df40ff346bd67899f2e05f46dcb23f69bb4e468b3b83a9766c8"), looks := false }, kinds := [], alts := [], laidByText := true, laidKinds := [.data], laidTests := true, laidLooks := .later }
def SignInjectsCardSaid : Prop := Claim7.holds Tryd.pinned (.plain (OpenSpec.ofChange signInjectsSpec)) signInjectsCard

/-- THE TIED CARD OF 'abacuslaw17.SignWords'. -/
def signWordsCard : Claim7 := { stood := { row := signWordsRow, standIns := [], harness := (true, "7354a1402e7b7df40ff346bd67899f2e05f46dcb23f69bb4e468b3b83a9766c8"), looks := false }, kinds := [], alts := [], laidByText := true, laidKinds := [.data], laidTests := true, laidLooks := .later }
def SignWordsCardSaid : Prop := Claim7.holds Tryd.pinned (.plain (OpenSpec.ofChange signWordsSpec)) signWordsCard

/-- THE TIED CARD OF 'abacuslaw17.SignBack'. -/
def signBackCard : Claim7 := { stood := { row := signBackRow, standIns := [], harness := (true, "7354a1402e7b7df40ff346bd67899f2e05f46dcb23f69bb4e468b3b83a9766c8"), looks := false }, kinds := [], alts := [], laidByText := true, laidKinds := [.data], laidTests := true, laidLooks := .later }
def SignBackCardSaid : Prop := Claim7.holds Tryd.pinned (.plain (OpenSpec.ofChange signBackSpec)) signBackCard

/-- THE TIED CARD OF 'abacuslaw16.OrderTotal'. -/
def orderTotalCard : Claim7 := { stood := { row := orderTotalRow, standIns := [], harness := (true, "7354a1402e7b7df40ff346bd67899f2e05f46dcb23f69bb4e468b3b83a9766c8"), looks := false }, kinds := [], alts := [], laidByText := true, laidKinds := [.data], laidTests := true, laidLooks := .later }
def OrderTotalCardSaid : Prop := Claim7.holds Tryd.pinned (.plain (OpenSpec.ofChange orderTotalSpec)) orderTotalCard

/-- THE TIED CARD OF 'abacuslaw16.OrderCompares'. -/
def orderComparesCard : Claim7 := { stood := { row := orderComparesRow, standIns := [], harness := (true, "7354a1402e7b7df40ff346bd67899f2e05f46dcb23f69bb4e468b3b83a9766c8"), looks := false }, kinds := [], alts := [], laidByText := true, laidKinds := [.data], laidTests := true, laidLooks := .later }
def OrderComparesCardSaid : Prop := Claim7.holds Tryd.pinned (.plain (OpenSpec.ofChange orderComparesSpec)) orderComparesCard

/-- THE TIED CARD OF 'abacuslaw16.OrderExtremes'. -/
def orderExtremesCard : Claim7 := { stood := { row := orderExtremesRow, standIns := [], harness := (true, "7354a1402e7b7df40ff346bd67899f2e05f46dcb23f69bb4e468b3b83a9766c8"), looks := false }, kinds := [], alts := [], laidByText := true, laidKinds := [.data], laidTests := true, laidLooks := .later }
def OrderExtremesCardSaid : Prop := Claim7.holds Tryd.pinned (.plain (OpenSpec.ofChange orderExtremesSpec)) orderExtremesCard

/-- THE TIED CARD OF 'abacuslaw16.OrderOne'. -/
def orderOneCard : Claim7 := { stood := { row := orderOneRow, standIns := [], harness := (true, "7354a1402e7b7df40ff346bd67899f2e05f46dcb23f69bb4e468b3b83a9766c8"), looks := false }, kinds := [], alts := [], laidByText := true, laidKinds := [.data], laidTests := true, laidLooks := .later }
def OrderOneCardSaid : Prop := Claim7.holds Tryd.pinned (.plain (OpenSpec.ofChange orderOneSpec)) orderOneCard

/-- THE TIED CARD OF 'abacuslaw16.OrderTotals'. -/
def orderTotalsCard : Claim7 := { stood := { row := orderTotalsRow, standIns := [], harness := (true, "7354a1402e7b7df40ff346bd67899f2e05f46dcb23f69bb4e468b3b83a9766c8"), looks := false }, kinds := [], alts := [], laidByText := true, laidKinds := [.data], laidTests := true, laidLooks := .later }
def OrderTotalsCardSaid : Prop := Claim7.holds Tryd.pinned (.plain (OpenSpec.ofChange orderTotalsSpec)) orderTotalsCard

/-- THE SECOND FORM's CARD OF 'abacuslaw17.SignInjects'. -/
def signInjectsUptoCard : Claim7 := { stood := { row := signInjectsUptoRow, standIns := [], harness := (true, "7354a1402e7b7df40ff346bd67899f2e05f46dcb23f69bb4e468b3b83a9766c8"), looks := false }, kinds := [], alts := [], laidByText := true, laidKinds := [.data], laidTests := true, laidLooks := .later }
def SignInjectsUptoCardSaid : Prop := Claim7.holds Tryd.pinned (.plain (OpenSpec.upto signInjectsSpec)) signInjectsUptoCard

/-- THE SECOND FORM's CARD OF 'abacuslaw17.SignWords'. -/
def signWordsUptoCard : Claim7 := { stood := { row := signWordsUptoRow, standIns := [], harness := (true, "7354a1402e7b7df40ff346bd67899f2e05f46dcb23f69bb4e468b3b83a9766c8"), looks := false }, kinds := [], alts := [], laidByText := true, laidKinds := [.data], laidTests := true, laidLooks := .later }
def SignWordsUptoCardSaid : Prop := Claim7.holds Tryd.pinned (.plain (OpenSpec.upto signWordsSpec)) signWordsUptoCard

/-- THE SECOND FORM's CARD OF 'abacuslaw17.SignBack'. -/
def signBackUptoCard : Claim7 := { stood := { row := signBackUptoRow, standIns := [], harness := (true, "7354a1402e7b7df40ff346bd67899f2e05f46dcb23f69bb4e468b3b83a9766c8"), looks := false }, kinds := [], alts := [], laidByText := true, laidKinds := [.data], laidTests := true, laidLooks := .later }
def SignBackUptoCardSaid : Prop := Claim7.holds Tryd.pinned (.plain (OpenSpec.upto signBackSpec)) signBackUptoCard

/-- THE SECOND FORM's CARD OF 'abacuslaw16.OrderTotal'. -/
def orderTotalUptoCard : Claim7 := { stood := { row := orderTotalUptoRow, standIns := [], harness := (true, "7354a1402e7b7df40ff346bd67899f2e05f46dcb23f69bb4e468b3b83a9766c8"), looks := false }, kinds := [], alts := [], laidByText := true, laidKinds := [.data], laidTests := true, laidLooks := .later }
def OrderTotalUptoCardSaid : Prop := Claim7.holds Tryd.pinned (.plain (OpenSpec.upto orderTotalSpec)) orderTotalUptoCard

/-- THE SECOND FORM's CARD OF 'abacuslaw16.OrderCompares'. -/
def orderComparesUptoCard : Claim7 := { stood := { row := orderComparesUptoRow, standIns := [], harness := (true, "7354a1402e7b7df40ff346bd67899f2e05f46dcb23f69bb4e468b3b83a9766c8"), looks := false }, kinds := [], alts := [], laidByText := true, laidKinds := [.data], laidTests := true, laidLooks := .later }
def OrderComparesUptoCardSaid : Prop := Claim7.holds Tryd.pinned (.plain (OpenSpec.upto orderComparesSpec)) orderComparesUptoCard

/-- THE SECOND FORM's CARD OF 'abacuslaw16.OrderExtremes'. -/
def orderExtremesUptoCard : Claim7 := { stood := { row := orderExtremesUptoRow, standIns := [], harness := (true, "7354a1402e7b7df40ff346bd67899f2e05f46dcb23f69bb4e468b3b83a9766c8"), looks := false }, kinds := [], alts := [], laidByText := true, laidKinds := [.data], laidTests := true, laidLooks := .later }
def OrderExtremesUptoCardSaid : Prop := Claim7.holds Tryd.pinned (.plain (OpenSpec.upto orderExtremesSpec)) orderExtremesUptoCard

/-- THE SECOND FORM's CARD OF 'abacuslaw16.OrderOne'. -/
def orderOneUptoCard : Claim7 := { stood := { row := orderOneUptoRow, standIns := [], harness := (true, "7354a1402e7b7df40ff346bd67899f2e05f46dcb23f69bb4e468b3b83a9766c8"), looks := false }, kinds := [], alts := [], laidByText := true, laidKinds := [.data], laidTests := true, laidLooks := .later }
def OrderOneUptoCardSaid : Prop := Claim7.holds Tryd.pinned (.plain (OpenSpec.upto orderOneSpec)) orderOneUptoCard

/-- THE SECOND FORM's CARD OF 'abacuslaw16.OrderTotals'. -/
def orderTotalsUptoCard : Claim7 := { stood := { row := orderTotalsUptoRow, standIns := [], harness := (true, "7354a1402e7b7df40ff346bd67899f2e05f46dcb23f69bb4e468b3b83a9766c8"), looks := false }, kinds := [], alts := [], laidByText := true, laidKinds := [.data], laidTests := true, laidLooks := .later }
def OrderTotalsUptoCardSaid : Prop := Claim7.holds Tryd.pinned (.plain (OpenSpec.upto orderTotalsSpec)) orderTotalsUptoCard
end Rows
end Go.Proofs.YtanelnajdbghdaaDoor
