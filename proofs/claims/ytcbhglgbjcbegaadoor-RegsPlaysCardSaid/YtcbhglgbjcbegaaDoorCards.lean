/-
  DERIVED. GIVEN WITH THE SEED: THE CARDS: each row of YtcbhglgbjcbegaaDoorRows.lean that lists a variable, with what it lists TIED to the program's text (the seventh form; the later family's looks); each row that meets fmt, with fmt's text TOLD by the authors' own Lean function (tested against real Go, not proved from fmt's source: count such statements apart). THE CARD IS WHAT COUNTS. Prove the row's statement (the work); the ties are given (YtcbhglgbjcbegaaDoorTie.lean); close each card by the builder's one call (the guide's Derived/Test/ToyasCard.lean, 'card_holds'). Laid BY PROGRAM, IN A SANDBOX (cutbox-door.mjs). By AI agents, Wed Nov 11 2026. No macro, syntax, notation, axiom, sorry.
-/
import Derived.Test.YtcbhglgbjcbegaaDoorRows
import GoSem.ClaimSeven
namespace Go.Proofs.YtcbhglgbjcbegaaDoor
namespace Rows

/-- THE TIED CARD OF 'abacuslaw23.RegsNames'. -/
def regsNamesCard : Claim7 := { stood := { row := regsNamesRow, standIns := [], harness := (true, "75329a1290ff22155fdbe725ed99b756b9aabdb7ee03908fed7bc69530faf712"), looks := true }, kinds := [], alts := [], laidByText := true, laidKinds := [.data, .data, .data, .sentinel, .sentinel], laidTests := true, laidLooks := .later }
def RegsNamesCardSaid : Prop := Claim7.holds Tryd.pinned (.plain (OpenSpec.ofChange regsNamesSpec)) regsNamesCard

/-- THE TIED CARD OF 'abacuslaw23.RegsNone'. -/
def regsNoneCard : Claim7 := { stood := { row := regsNoneRow, standIns := [], harness := (true, "75329a1290ff22155fdbe725ed99b756b9aabdb7ee03908fed7bc69530faf712"), looks := true }, kinds := [], alts := [], laidByText := true, laidKinds := [.data, .data, .data, .sentinel, .sentinel], laidTests := true, laidLooks := .later }
def RegsNoneCardSaid : Prop := Claim7.holds Tryd.pinned (.plain (OpenSpec.ofChange regsNoneSpec)) regsNoneCard

/-- THE TIED CARD OF 'abacuslaw23.RegsPlays'. -/
def regsPlaysCard : Claim7 := { stood := { row := regsPlaysRow, standIns := [], harness := (true, "75329a1290ff22155fdbe725ed99b756b9aabdb7ee03908fed7bc69530faf712"), looks := true }, kinds := [], alts := [], laidByText := true, laidKinds := [.data, .data, .data, .sentinel, .sentinel], laidTests := true, laidLooks := .later }
def RegsPlaysCardSaid : Prop := Claim7.holds Tryd.pinned (.plain (OpenSpec.ofChange regsPlaysSpec)) regsPlaysCard

/-- THE TIED CARD OF 'abacuslaw23.RegsBack'. -/
def regsBackCard : Claim7 := { stood := { row := regsBackRow, standIns := [], harness := (true, "75329a1290ff22155fdbe725ed99b756b9aabdb7ee03908fed7bc69530faf712"), looks := true }, kinds := [], alts := [], laidByText := true, laidKinds := [.data, .data, .data, .sentinel, .sentinel], laidTests := true, laidLooks := .later }
def RegsBackCardSaid : Prop := Claim7.holds Tryd.pinned (.plain (OpenSpec.ofChange regsBackSpec)) regsBackCard

/-- THE SECOND FORM's CARD OF 'abacuslaw23.RegsNames'. -/
def regsNamesUptoCard : Claim7 := { stood := { row := regsNamesUptoRow, standIns := [], harness := (true, "75329a1290ff22155fdbe725ed99b756b9aabdb7ee03908fed7bc69530faf712"), looks := true }, kinds := [], alts := [], laidByText := true, laidKinds := [.data, .data, .data, .sentinel, .sentinel], laidTests := true, laidLooks := .later }
def RegsNamesUptoCardSaid : Prop := Claim7.holds Tryd.pinned (.plain (OpenSpec.upto regsNamesSpec)) regsNamesUptoCard

/-- THE SECOND FORM's CARD OF 'abacuslaw23.RegsNone'. -/
def regsNoneUptoCard : Claim7 := { stood := { row := regsNoneUptoRow, standIns := [], harness := (true, "75329a1290ff22155fdbe725ed99b756b9aabdb7ee03908fed7bc69530faf712"), looks := true }, kinds := [], alts := [], laidByText := true, laidKinds := [.data, .data, .data, .sentinel, .sentinel], laidTests := true, laidLooks := .later }
def RegsNoneUptoCardSaid : Prop := Claim7.holds Tryd.pinned (.plain (OpenSpec.upto regsNoneSpec)) regsNoneUptoCard

/-- THE SECOND FORM's CARD OF 'abacuslaw23.RegsPlays'. -/
def regsPlaysUptoCard : Claim7 := { stood := { row := regsPlaysUptoRow, standIns := [], harness := (true, "75329a1290ff22155fdbe725ed99b756b9aabdb7ee03908fed7bc69530faf712"), looks := true }, kinds := [], alts := [], laidByText := true, laidKinds := [.data, .data, .data, .sentinel, .sentinel], laidTests := true, laidLooks := .later }
def RegsPlaysUptoCardSaid : Prop := Claim7.holds Tryd.pinned (.plain (OpenSpec.upto regsPlaysSpec)) regsPlaysUptoCard

/-- THE SECOND FORM's CARD OF 'abacuslaw23.RegsBack'. -/
def regsBackUptoCard : Claim7 := { stood := { row := regsBackUptoRow, standIns := [], harness := (true, "75329a1290ff22155fdbe725ed99b756b9aabdb7ee03908fed7bc69530faf712"), looks := true }, kinds := [], alts := [], laidByText := true, laidKinds := [.data, .data, .data, .sentinel, .sentinel], laidTests := true, laidLooks := .later }
def RegsBackUptoCardSaid : Prop := Claim7.holds Tryd.pinned (.plain (OpenSpec.upto regsBackSpec)) regsBackUptoCard
end Rows
end Go.Proofs.YtcbhglgbjcbegaaDoor
