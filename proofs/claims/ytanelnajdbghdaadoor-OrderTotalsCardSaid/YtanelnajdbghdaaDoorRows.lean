/-
  NARROWER THAN 'FOR EVERY INPUT', by the rows' own cells (each row's printed sentence says how): SignInjects: laid · SignWords: laid · SignBack: laid · OrderTotal: laid · OrderCompares: laid · OrderExtremes: laid · OrderOne: laid · OrderTotals: laid.
  DERIVED. THE GIVEN ROWS OF THIS SEAT. 8 by the template 'for every input the law returns true; each argument reads behind the call as it read before'; 0 by the template 'total and deterministic' (their statements: YtanelnajdbghdaaDoorTotals.lean).
  GIVEN WITH THE SEED: the statements are not yours to turn. If you find one false, say at which input.
  Laid BY PROGRAM, IN A SANDBOX (cutbox-rows.mjs): the forced cells as the released guide's own fill.sh prints them over the translation 737272899685e52d… (all of the seat's roots in one cut). By AI agents, Wed Nov 11 2026. No macro, syntax, notation, axiom, sorry.
-/
import Derived.Test.YtanelnajdbghdaaDoorChecked
import GoSem.Claim
import GoSem.ClaimJoined
import GoSem.ClaimMapViews
import Derived.JoinedTies
import Derived.KernelRfl
namespace Go.Proofs.YtanelnajdbghdaaDoor
/- THE CELL 'sum', in the pinned program and in every row, IS THE sha256 OF THE DUMP (.gsa) THAT YtanelnajdbghdaaDoorProg.lean LOADS. Nothing in Lean hashes anything: it is a label: what it is worth is what the hold of that sum in a sandbox is worth. -/
noncomputable def Tryd.pinned : Pinned := { name := "ytanelnajdbghdaadoor", sum := "737272899685e52dd8df4f53e01d3829de1020d95c2a2fae7063da91b5835f04", checked := Tryd.checked }
namespace Rows
def none {H : Type} : Left H := { results := [], args := [] }

/- WHAT THE LISTED PACKAGE-LEVEL VARIABLES READ AS WHEN THE CALL BEGINS. Each datum BY PROGRAM (the guide's laid-datum.mjs) off the statement by which the dump's own 'gosem.cut.vars' lays the variable. In a bare row this is a premise. The card (YtanelnajdbghdaaDoorCards.lean) ties it to the program's text. -/
def laid_math_bits_deBruijn64tab {H : Type} : DataW H := .agg [.lit (.int .u8 0), .lit (.int .u8 1), .lit (.int .u8 56), .lit (.int .u8 2), .lit (.int .u8 57), .lit (.int .u8 49), .lit (.int .u8 28), .lit (.int .u8 3), .lit (.int .u8 61), .lit (.int .u8 58), .lit (.int .u8 42), .lit (.int .u8 50), .lit (.int .u8 38), .lit (.int .u8 29), .lit (.int .u8 17), .lit (.int .u8 4), .lit (.int .u8 62), .lit (.int .u8 47), .lit (.int .u8 59), .lit (.int .u8 36), .lit (.int .u8 45), .lit (.int .u8 43), .lit (.int .u8 51), .lit (.int .u8 22), .lit (.int .u8 53), .lit (.int .u8 39), .lit (.int .u8 33), .lit (.int .u8 30), .lit (.int .u8 24), .lit (.int .u8 18), .lit (.int .u8 12), .lit (.int .u8 5), .lit (.int .u8 63), .lit (.int .u8 55), .lit (.int .u8 48), .lit (.int .u8 27), .lit (.int .u8 60), .lit (.int .u8 41), .lit (.int .u8 37), .lit (.int .u8 16), .lit (.int .u8 46), .lit (.int .u8 35), .lit (.int .u8 44), .lit (.int .u8 21), .lit (.int .u8 52), .lit (.int .u8 32), .lit (.int .u8 23), .lit (.int .u8 11), .lit (.int .u8 54), .lit (.int .u8 26), .lit (.int .u8 40), .lit (.int .u8 15), .lit (.int .u8 34), .lit (.int .u8 20), .lit (.int .u8 31), .lit (.int .u8 10), .lit (.int .u8 25), .lit (.int .u8 14), .lit (.int .u8 19), .lit (.int .u8 9), .lit (.int .u8 13), .lit (.int .u8 8), .lit (.int .u8 7), .lit (.int .u8 6)]

/-- 'abacuslaw17.SignInjects': WHATEVER THE INPUT: true; the input reads as it did. -/
def signInjectsSpec : ChangeSpec := { name := "signInjects", fn := fun _ => fun
  | [d1, d2, d3] => { results := [.lit (.bool true)], args := [d1, d2, d3] }
  | _ => none }
def signInjectsRow : OpenClaim := { program := "ytanelnajdbghdaadoor", sum := "737272899685e52dd8df4f53e01d3829de1020d95c2a2fae7063da91b5835f04", func := "abacus/abacuslaw17.SignInjects", spec := "signInjects", unfollowed := true, recurses := true, named := ["math/bits.deBruijn64tab"], apart := false, laid := [("math/bits.deBruijn64tab", laid_math_bits_deBruijn64tab)] }
def SignInjectsSaid : Prop := signInjectsRow.holds Tryd.pinned (OpenSpec.ofChange signInjectsSpec)

/-- ITS FALSE NEIGHBOUR: 'it returns false'. Refute it at one input. -/
def signInjectsWrong : ChangeSpec := { name := "signInjects", fn := fun _ => fun
  | [d1, d2, d3] => { results := [.lit (.bool false)], args := [d1, d2, d3] }
  | _ => none }
def SignInjectsWrongFalsely : Prop := signInjectsRow.holds Tryd.pinned (OpenSpec.ofChange signInjectsWrong)

/-- 'abacuslaw17.SignWords': WHATEVER THE INPUT: true; the input reads as it did. -/
def signWordsSpec : ChangeSpec := { name := "signWords", fn := fun _ => fun
  | [d1, d2, d3] => { results := [.lit (.bool true)], args := [d1, d2, d3] }
  | _ => none }
def signWordsRow : OpenClaim := { program := "ytanelnajdbghdaadoor", sum := "737272899685e52dd8df4f53e01d3829de1020d95c2a2fae7063da91b5835f04", func := "abacus/abacuslaw17.SignWords", spec := "signWords", unfollowed := true, recurses := true, named := ["math/bits.deBruijn64tab"], apart := false, laid := [("math/bits.deBruijn64tab", laid_math_bits_deBruijn64tab)] }
def SignWordsSaid : Prop := signWordsRow.holds Tryd.pinned (OpenSpec.ofChange signWordsSpec)

/-- ITS FALSE NEIGHBOUR: 'it returns false'. Refute it at one input. -/
def signWordsWrong : ChangeSpec := { name := "signWords", fn := fun _ => fun
  | [d1, d2, d3] => { results := [.lit (.bool false)], args := [d1, d2, d3] }
  | _ => none }
def SignWordsWrongFalsely : Prop := signWordsRow.holds Tryd.pinned (OpenSpec.ofChange signWordsWrong)

/-- 'abacuslaw17.SignBack': WHATEVER THE INPUT: true; the input reads as it did. -/
def signBackSpec : ChangeSpec := { name := "signBack", fn := fun _ => fun
  | [d1, d2, d3] => { results := [.lit (.bool true)], args := [d1, d2, d3] }
  | _ => none }
def signBackRow : OpenClaim := { program := "ytanelnajdbghdaadoor", sum := "737272899685e52dd8df4f53e01d3829de1020d95c2a2fae7063da91b5835f04", func := "abacus/abacuslaw17.SignBack", spec := "signBack", unfollowed := true, recurses := true, named := ["math/bits.deBruijn64tab"], apart := false, laid := [("math/bits.deBruijn64tab", laid_math_bits_deBruijn64tab)] }
def SignBackSaid : Prop := signBackRow.holds Tryd.pinned (OpenSpec.ofChange signBackSpec)

/-- ITS FALSE NEIGHBOUR: 'it returns false'. Refute it at one input. -/
def signBackWrong : ChangeSpec := { name := "signBack", fn := fun _ => fun
  | [d1, d2, d3] => { results := [.lit (.bool false)], args := [d1, d2, d3] }
  | _ => none }
def SignBackWrongFalsely : Prop := signBackRow.holds Tryd.pinned (OpenSpec.ofChange signBackWrong)

/-- 'abacuslaw16.OrderTotal': WHATEVER THE INPUT: true; the input reads as it did. -/
def orderTotalSpec : ChangeSpec := { name := "orderTotal", fn := fun _ => fun
  | [d1, d2, d3, d4] => { results := [.lit (.bool true)], args := [d1, d2, d3, d4] }
  | _ => none }
def orderTotalRow : OpenClaim := { program := "ytanelnajdbghdaadoor", sum := "737272899685e52dd8df4f53e01d3829de1020d95c2a2fae7063da91b5835f04", func := "abacus/abacuslaw16.OrderTotal", spec := "orderTotal", named := ["math/bits.deBruijn64tab"], apart := false, laid := [("math/bits.deBruijn64tab", laid_math_bits_deBruijn64tab)] }
def OrderTotalSaid : Prop := orderTotalRow.holds Tryd.pinned (OpenSpec.ofChange orderTotalSpec)

/-- ITS FALSE NEIGHBOUR: 'it returns false'. Refute it at one input. -/
def orderTotalWrong : ChangeSpec := { name := "orderTotal", fn := fun _ => fun
  | [d1, d2, d3, d4] => { results := [.lit (.bool false)], args := [d1, d2, d3, d4] }
  | _ => none }
def OrderTotalWrongFalsely : Prop := orderTotalRow.holds Tryd.pinned (OpenSpec.ofChange orderTotalWrong)

/-- 'abacuslaw16.OrderCompares': WHATEVER THE INPUT: true; the input reads as it did. -/
def orderComparesSpec : ChangeSpec := { name := "orderCompares", fn := fun _ => fun
  | [d1, d2, d3] => { results := [.lit (.bool true)], args := [d1, d2, d3] }
  | _ => none }
def orderComparesRow : OpenClaim := { program := "ytanelnajdbghdaadoor", sum := "737272899685e52dd8df4f53e01d3829de1020d95c2a2fae7063da91b5835f04", func := "abacus/abacuslaw16.OrderCompares", spec := "orderCompares", named := ["math/bits.deBruijn64tab"], apart := false, laid := [("math/bits.deBruijn64tab", laid_math_bits_deBruijn64tab)] }
def OrderComparesSaid : Prop := orderComparesRow.holds Tryd.pinned (OpenSpec.ofChange orderComparesSpec)

/-- ITS FALSE NEIGHBOUR: 'it returns false'. Refute it at one input. -/
def orderComparesWrong : ChangeSpec := { name := "orderCompares", fn := fun _ => fun
  | [d1, d2, d3] => { results := [.lit (.bool false)], args := [d1, d2, d3] }
  | _ => none }
def OrderComparesWrongFalsely : Prop := orderComparesRow.holds Tryd.pinned (OpenSpec.ofChange orderComparesWrong)

/-- 'abacuslaw16.OrderExtremes': WHATEVER THE INPUT: true; the input reads as it did. -/
def orderExtremesSpec : ChangeSpec := { name := "orderExtremes", fn := fun _ => fun
  | [d1, d2, d3] => { results := [.lit (.bool true)], args := [d1, d2, d3] }
  | _ => none }
def orderExtremesRow : OpenClaim := { program := "ytanelnajdbghdaadoor", sum := "737272899685e52dd8df4f53e01d3829de1020d95c2a2fae7063da91b5835f04", func := "abacus/abacuslaw16.OrderExtremes", spec := "orderExtremes", named := ["math/bits.deBruijn64tab"], apart := false, laid := [("math/bits.deBruijn64tab", laid_math_bits_deBruijn64tab)] }
def OrderExtremesSaid : Prop := orderExtremesRow.holds Tryd.pinned (OpenSpec.ofChange orderExtremesSpec)

/-- ITS FALSE NEIGHBOUR: 'it returns false'. Refute it at one input. -/
def orderExtremesWrong : ChangeSpec := { name := "orderExtremes", fn := fun _ => fun
  | [d1, d2, d3] => { results := [.lit (.bool false)], args := [d1, d2, d3] }
  | _ => none }
def OrderExtremesWrongFalsely : Prop := orderExtremesRow.holds Tryd.pinned (OpenSpec.ofChange orderExtremesWrong)

/-- 'abacuslaw16.OrderOne': WHATEVER THE INPUT: true; the input reads as it did. -/
def orderOneSpec : ChangeSpec := { name := "orderOne", fn := fun _ => fun
  | [d1, d2, d3] => { results := [.lit (.bool true)], args := [d1, d2, d3] }
  | _ => none }
def orderOneRow : OpenClaim := { program := "ytanelnajdbghdaadoor", sum := "737272899685e52dd8df4f53e01d3829de1020d95c2a2fae7063da91b5835f04", func := "abacus/abacuslaw16.OrderOne", spec := "orderOne", named := ["math/bits.deBruijn64tab"], apart := false, laid := [("math/bits.deBruijn64tab", laid_math_bits_deBruijn64tab)] }
def OrderOneSaid : Prop := orderOneRow.holds Tryd.pinned (OpenSpec.ofChange orderOneSpec)

/-- ITS FALSE NEIGHBOUR: 'it returns false'. Refute it at one input. -/
def orderOneWrong : ChangeSpec := { name := "orderOne", fn := fun _ => fun
  | [d1, d2, d3] => { results := [.lit (.bool false)], args := [d1, d2, d3] }
  | _ => none }
def OrderOneWrongFalsely : Prop := orderOneRow.holds Tryd.pinned (OpenSpec.ofChange orderOneWrong)

/-- 'abacuslaw16.OrderTotals': WHATEVER THE INPUT: true; the input reads as it did. -/
def orderTotalsSpec : ChangeSpec := { name := "orderTotals", fn := fun _ => fun
  | [d1, d2] => { results := [.lit (.bool true)], args := [d1, d2] }
  | _ => none }
def orderTotalsRow : OpenClaim := { program := "ytanelnajdbghdaadoor", sum := "737272899685e52dd8df4f53e01d3829de1020d95c2a2fae7063da91b5835f04", func := "abacus/abacuslaw16.OrderTotals", spec := "orderTotals", unfollowed := true, recurses := true, named := ["math/bits.deBruijn64tab"], apart := false, laid := [("math/bits.deBruijn64tab", laid_math_bits_deBruijn64tab)] }
def OrderTotalsSaid : Prop := orderTotalsRow.holds Tryd.pinned (OpenSpec.ofChange orderTotalsSpec)

/-- ITS FALSE NEIGHBOUR: 'it returns false'. Refute it at one input. -/
def orderTotalsWrong : ChangeSpec := { name := "orderTotals", fn := fun _ => fun
  | [d1, d2] => { results := [.lit (.bool false)], args := [d1, d2] }
  | _ => none }
def OrderTotalsWrongFalsely : Prop := orderTotalsRow.holds Tryd.pinned (OpenSpec.ofChange orderTotalsWrong)

/- THE SECOND FORM. 'bulk': how many values and letters a reading holds, each counted each time it is reached (what is shared counts as often as it is met; a slice's spare places count too). A statement '..UptoSaid' is the law's where the arguments, and the package variables that the reading takes, are together of bulk at most 1048576: NARROWER than '..Said'. Prove '..Said' where nothing that the law and all that it calls make is longer than what came in: it says more and counts as full. Else prove '..UptoSaid'. A law counts once. -/
mutual
def uptoBulk {H : Type} : DataW H → Nat
  | .lit (.string bytes) => bytes.length + 1
  | .lit _ => 1
  | .nil => 1
  | .ptr d => uptoBulk d + 1
  | .slice elems spare => uptoBulkAll elems + uptoBulkAll spare + 1
  | .agg parts => uptoBulkAll parts + 1
  | .iface _ d => uptoBulk d + 1
  | .map entries => uptoBulkEntries entries + 1
  | .held _ => 1
def uptoBulkAll {H : Type} : List (DataW H) → Nat
  | [] => 0
  | d :: r => uptoBulk d + uptoBulkAll r
def uptoBulkEntries {H : Type} : List (Lit × DataW H) → Nat
  | [] => 0
  | x :: r => uptoBulkEntry x + uptoBulkEntries r
def uptoBulkEntry {H : Type} : Lit × DataW H → Nat
  | (.string bytes, d) => bytes.length + uptoBulk d + 1
  | (_, d) => uptoBulk d + 1
 end
def uptoSmall : (H : Type) → List (DataW H) → Bool := fun _ ds => decide (uptoBulkAll ds ≤ 1048576)
def OpenSpec.upto (s : _root_.Go.ChangeSpec) : _root_.Go.OpenSpec := { _root_.Go.OpenSpec.ofChange s with cond := some uptoSmall }

/-- 'abacuslaw17.SignInjects', WHERE WHAT IT READS IS OF BULK AT MOST 1048576: true; the input reads as it did. -/
def signInjectsUptoRow : OpenClaim := { program := "ytanelnajdbghdaadoor", sum := "737272899685e52dd8df4f53e01d3829de1020d95c2a2fae7063da91b5835f04", func := "abacus/abacuslaw17.SignInjects", spec := "signInjects", unfollowed := true, recurses := true, named := ["math/bits.deBruijn64tab"], apart := false, laid := [("math/bits.deBruijn64tab", laid_math_bits_deBruijn64tab)], narrowed := true }
def SignInjectsUptoSaid : Prop := signInjectsUptoRow.holds Tryd.pinned (OpenSpec.upto signInjectsSpec)

/-- 'abacuslaw17.SignWords', WHERE WHAT IT READS IS OF BULK AT MOST 1048576: true; the input reads as it did. -/
def signWordsUptoRow : OpenClaim := { program := "ytanelnajdbghdaadoor", sum := "737272899685e52dd8df4f53e01d3829de1020d95c2a2fae7063da91b5835f04", func := "abacus/abacuslaw17.SignWords", spec := "signWords", unfollowed := true, recurses := true, named := ["math/bits.deBruijn64tab"], apart := false, laid := [("math/bits.deBruijn64tab", laid_math_bits_deBruijn64tab)], narrowed := true }
def SignWordsUptoSaid : Prop := signWordsUptoRow.holds Tryd.pinned (OpenSpec.upto signWordsSpec)

/-- 'abacuslaw17.SignBack', WHERE WHAT IT READS IS OF BULK AT MOST 1048576: true; the input reads as it did. -/
def signBackUptoRow : OpenClaim := { program := "ytanelnajdbghdaadoor", sum := "737272899685e52dd8df4f53e01d3829de1020d95c2a2fae7063da91b5835f04", func := "abacus/abacuslaw17.SignBack", spec := "signBack", unfollowed := true, recurses := true, named := ["math/bits.deBruijn64tab"], apart := false, laid := [("math/bits.deBruijn64tab", laid_math_bits_deBruijn64tab)], narrowed := true }
def SignBackUptoSaid : Prop := signBackUptoRow.holds Tryd.pinned (OpenSpec.upto signBackSpec)

/-- 'abacuslaw16.OrderTotal', WHERE WHAT IT READS IS OF BULK AT MOST 1048576: true; the input reads as it did. -/
def orderTotalUptoRow : OpenClaim := { program := "ytanelnajdbghdaadoor", sum := "737272899685e52dd8df4f53e01d3829de1020d95c2a2fae7063da91b5835f04", func := "abacus/abacuslaw16.OrderTotal", spec := "orderTotal", named := ["math/bits.deBruijn64tab"], apart := false, laid := [("math/bits.deBruijn64tab", laid_math_bits_deBruijn64tab)], narrowed := true }
def OrderTotalUptoSaid : Prop := orderTotalUptoRow.holds Tryd.pinned (OpenSpec.upto orderTotalSpec)

/-- 'abacuslaw16.OrderCompares', WHERE WHAT IT READS IS OF BULK AT MOST 1048576: true; the input reads as it did. -/
def orderComparesUptoRow : OpenClaim := { program := "ytanelnajdbghdaadoor", sum := "737272899685e52dd8df4f53e01d3829de1020d95c2a2fae7063da91b5835f04", func := "abacus/abacuslaw16.OrderCompares", spec := "orderCompares", named := ["math/bits.deBruijn64tab"], apart := false, laid := [("math/bits.deBruijn64tab", laid_math_bits_deBruijn64tab)], narrowed := true }
def OrderComparesUptoSaid : Prop := orderComparesUptoRow.holds Tryd.pinned (OpenSpec.upto orderComparesSpec)

/-- 'abacuslaw16.OrderExtremes', WHERE WHAT IT READS IS OF BULK AT MOST 1048576: true; the input reads as it did. -/
def orderExtremesUptoRow : OpenClaim := { program := "ytanelnajdbghdaadoor", sum := "737272899685e52dd8df4f53e01d3829de1020d95c2a2fae7063da91b5835f04", func := "abacus/abacuslaw16.OrderExtremes", spec := "orderExtremes", named := ["math/bits.deBruijn64tab"], apart := false, laid := [("math/bits.deBruijn64tab", laid_math_bits_deBruijn64tab)], narrowed := true }
def OrderExtremesUptoSaid : Prop := orderExtremesUptoRow.holds Tryd.pinned (OpenSpec.upto orderExtremesSpec)

/-- 'abacuslaw16.OrderOne', WHERE WHAT IT READS IS OF BULK AT MOST 1048576: true; the input reads as it did. -/
def orderOneUptoRow : OpenClaim := { program := "ytanelnajdbghdaadoor", sum := "737272899685e52dd8df4f53e01d3829de1020d95c2a2fae7063da91b5835f04", func := "abacus/abacuslaw16.OrderOne", spec := "orderOne", named := ["math/bits.deBruijn64tab"], apart := false, laid := [("math/bits.deBruijn64tab", laid_math_bits_deBruijn64tab)], narrowed := true }
def OrderOneUptoSaid : Prop := orderOneUptoRow.holds Tryd.pinned (OpenSpec.upto orderOneSpec)

/-- 'abacuslaw16.OrderTotals', WHERE WHAT IT READS IS OF BULK AT MOST 1048576: true; the input reads as it did. -/
def orderTotalsUptoRow : OpenClaim := { program := "ytanelnajdbghdaadoor", sum := "737272899685e52dd8df4f53e01d3829de1020d95c2a2fae7063da91b5835f04", func := "abacus/abacuslaw16.OrderTotals", spec := "orderTotals", unfollowed := true, recurses := true, named := ["math/bits.deBruijn64tab"], apart := false, laid := [("math/bits.deBruijn64tab", laid_math_bits_deBruijn64tab)], narrowed := true }
def OrderTotalsUptoSaid : Prop := orderTotalsUptoRow.holds Tryd.pinned (OpenSpec.upto orderTotalsSpec)

end Rows
end Go.Proofs.YtanelnajdbghdaaDoor
