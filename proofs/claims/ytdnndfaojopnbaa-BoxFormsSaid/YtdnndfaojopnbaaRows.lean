/-
  No cell of these rows narrows 'for every input' (looked for: loops, veiled, ifaces, maps, wideKeys, modest, calm, conditions, laid).
  DERIVED. THE GIVEN ROWS OF THIS SEAT. 8 by the template 'for every input the law returns true; each argument reads behind the call as it read before'; 0 by the template 'total and deterministic' (their statements: YtdnndfaojopnbaaTotals.lean).
  GIVEN WITH THE SEED: the statements are not yours to turn. If you find one false, say at which input.
  Laid BY PROGRAM, IN A SANDBOX (cutbox-rows.mjs): the forced cells as the released guide's own fill.sh prints them over the translation e9214db5a1c9d127… (all of the seat's roots in one cut). By AI agents, Wed Nov 11 2026. No macro, syntax, notation, axiom, sorry.
-/
import Derived.Test.YtdnndfaojopnbaaChecked
import GoSem.Claim
import GoSem.ClaimJoined
import GoSem.ClaimMapViews
import Derived.JoinedTies
import Derived.KernelRfl
namespace Go.Proofs.Ytdnndfaojopnbaa
/- THE CELL 'sum', in the pinned program and in every row, IS THE sha256 OF THE DUMP (.gsa) THAT YtdnndfaojopnbaaProg.lean LOADS. Nothing in Lean hashes anything: it is a label: what it is worth is what the hold of that sum in a sandbox is worth. -/
noncomputable def Try.pinned : Pinned := { name := "ytdnndfaojopnbaa", sum := "e9214db5a1c9d127c7298c9db3d562e1e09f11f7ee5d7ceee787f5dc35db5e61", checked := Try.checked }
namespace Rows
def none {H : Type} : Left H := { results := [], args := [] }

/-- 'abacuslaw07.ShapeNumbers': WHATEVER THE INPUT: true; the input reads as it did. -/
def shapeNumbersSpec : ChangeSpec := { name := "shapeNumbers", fn := fun _ => fun
  | [d1, d2, d3] => { results := [.lit (.bool true)], args := [d1, d2, d3] }
  | _ => none }
def shapeNumbersRow : OpenClaim := { program := "ytdnndfaojopnbaa", sum := "e9214db5a1c9d127c7298c9db3d562e1e09f11f7ee5d7ceee787f5dc35db5e61", func := "abacus/abacuslaw07.ShapeNumbers", spec := "shapeNumbers", apart := false }
def ShapeNumbersSaid : Prop := shapeNumbersRow.holds Try.pinned (OpenSpec.ofChange shapeNumbersSpec)

/-- ITS FALSE NEIGHBOUR: 'it returns false'. Refute it at one input. -/
def shapeNumbersWrong : ChangeSpec := { name := "shapeNumbers", fn := fun _ => fun
  | [d1, d2, d3] => { results := [.lit (.bool false)], args := [d1, d2, d3] }
  | _ => none }
def ShapeNumbersWrongFalsely : Prop := shapeNumbersRow.holds Try.pinned (OpenSpec.ofChange shapeNumbersWrong)

/-- 'abacuslaw07.ShapeNames': WHATEVER THE INPUT: true; the input reads as it did. -/
def shapeNamesSpec : ChangeSpec := { name := "shapeNames", fn := fun _ => fun
  | [d1, d2, d3] => { results := [.lit (.bool true)], args := [d1, d2, d3] }
  | _ => none }
def shapeNamesRow : OpenClaim := { program := "ytdnndfaojopnbaa", sum := "e9214db5a1c9d127c7298c9db3d562e1e09f11f7ee5d7ceee787f5dc35db5e61", func := "abacus/abacuslaw07.ShapeNames", spec := "shapeNames", unfollowed := true, recurses := true, apart := false }
def ShapeNamesSaid : Prop := shapeNamesRow.holds Try.pinned (OpenSpec.ofChange shapeNamesSpec)

/-- ITS FALSE NEIGHBOUR: 'it returns false'. Refute it at one input. -/
def shapeNamesWrong : ChangeSpec := { name := "shapeNames", fn := fun _ => fun
  | [d1, d2, d3] => { results := [.lit (.bool false)], args := [d1, d2, d3] }
  | _ => none }
def ShapeNamesWrongFalsely : Prop := shapeNamesRow.holds Try.pinned (OpenSpec.ofChange shapeNamesWrong)

/-- 'abacuslaw07.ShapeMakes': WHATEVER THE INPUT: true; the input reads as it did. -/
def shapeMakesSpec : ChangeSpec := { name := "shapeMakes", fn := fun _ => fun
  | [d1, d2] => { results := [.lit (.bool true)], args := [d1, d2] }
  | _ => none }
def shapeMakesRow : OpenClaim := { program := "ytdnndfaojopnbaa", sum := "e9214db5a1c9d127c7298c9db3d562e1e09f11f7ee5d7ceee787f5dc35db5e61", func := "abacus/abacuslaw07.ShapeMakes", spec := "shapeMakes", apart := false }
def ShapeMakesSaid : Prop := shapeMakesRow.holds Try.pinned (OpenSpec.ofChange shapeMakesSpec)

/-- ITS FALSE NEIGHBOUR: 'it returns false'. Refute it at one input. -/
def shapeMakesWrong : ChangeSpec := { name := "shapeMakes", fn := fun _ => fun
  | [d1, d2] => { results := [.lit (.bool false)], args := [d1, d2] }
  | _ => none }
def ShapeMakesWrongFalsely : Prop := shapeMakesRow.holds Try.pinned (OpenSpec.ofChange shapeMakesWrong)

/-- 'abacuslaw22.BoxReads': WHATEVER THE INPUT: true; the input reads as it did. -/
def boxReadsSpec : ChangeSpec := { name := "boxReads", fn := fun _ => fun
  | [d1, d2] => { results := [.lit (.bool true)], args := [d1, d2] }
  | _ => none }
def boxReadsRow : OpenClaim := { program := "ytdnndfaojopnbaa", sum := "e9214db5a1c9d127c7298c9db3d562e1e09f11f7ee5d7ceee787f5dc35db5e61", func := "abacus/abacuslaw22.BoxReads", spec := "boxReads", apart := false }
def BoxReadsSaid : Prop := boxReadsRow.holds Try.pinned (OpenSpec.ofChange boxReadsSpec)

/-- ITS FALSE NEIGHBOUR: 'it returns false'. Refute it at one input. -/
def boxReadsWrong : ChangeSpec := { name := "boxReads", fn := fun _ => fun
  | [d1, d2] => { results := [.lit (.bool false)], args := [d1, d2] }
  | _ => none }
def BoxReadsWrongFalsely : Prop := boxReadsRow.holds Try.pinned (OpenSpec.ofChange boxReadsWrong)

/-- 'abacuslaw22.BoxBack': WHATEVER THE INPUT: true; the input reads as it did. -/
def boxBackSpec : ChangeSpec := { name := "boxBack", fn := fun _ => fun
  | [d1, d2, d3] => { results := [.lit (.bool true)], args := [d1, d2, d3] }
  | _ => none }
def boxBackRow : OpenClaim := { program := "ytdnndfaojopnbaa", sum := "e9214db5a1c9d127c7298c9db3d562e1e09f11f7ee5d7ceee787f5dc35db5e61", func := "abacus/abacuslaw22.BoxBack", spec := "boxBack", apart := false }
def BoxBackSaid : Prop := boxBackRow.holds Try.pinned (OpenSpec.ofChange boxBackSpec)

/-- ITS FALSE NEIGHBOUR: 'it returns false'. Refute it at one input. -/
def boxBackWrong : ChangeSpec := { name := "boxBack", fn := fun _ => fun
  | [d1, d2, d3] => { results := [.lit (.bool false)], args := [d1, d2, d3] }
  | _ => none }
def BoxBackWrongFalsely : Prop := boxBackRow.holds Try.pinned (OpenSpec.ofChange boxBackWrong)

/-- 'abacuslaw22.BoxWithin': WHATEVER THE INPUT: true; the input reads as it did. -/
def boxWithinSpec : ChangeSpec := { name := "boxWithin", fn := fun _ => fun
  | [d1, d2, d3] => { results := [.lit (.bool true)], args := [d1, d2, d3] }
  | _ => none }
def boxWithinRow : OpenClaim := { program := "ytdnndfaojopnbaa", sum := "e9214db5a1c9d127c7298c9db3d562e1e09f11f7ee5d7ceee787f5dc35db5e61", func := "abacus/abacuslaw22.BoxWithin", spec := "boxWithin", apart := false }
def BoxWithinSaid : Prop := boxWithinRow.holds Try.pinned (OpenSpec.ofChange boxWithinSpec)

/-- ITS FALSE NEIGHBOUR: 'it returns false'. Refute it at one input. -/
def boxWithinWrong : ChangeSpec := { name := "boxWithin", fn := fun _ => fun
  | [d1, d2, d3] => { results := [.lit (.bool false)], args := [d1, d2, d3] }
  | _ => none }
def BoxWithinWrongFalsely : Prop := boxWithinRow.holds Try.pinned (OpenSpec.ofChange boxWithinWrong)

/-- 'abacuslaw07.ShapeSigns': WHATEVER THE INPUT: true; the input reads as it did. -/
def shapeSignsSpec : ChangeSpec := { name := "shapeSigns", fn := fun _ => fun
  | [d] => { results := [.lit (.bool true)], args := [d] }
  | _ => none }
def shapeSignsRow : OpenClaim := { program := "ytdnndfaojopnbaa", sum := "e9214db5a1c9d127c7298c9db3d562e1e09f11f7ee5d7ceee787f5dc35db5e61", func := "abacus/abacuslaw07.ShapeSigns", spec := "shapeSigns", apart := false }
def ShapeSignsSaid : Prop := shapeSignsRow.holds Try.pinned (OpenSpec.ofChange shapeSignsSpec)

/-- ITS FALSE NEIGHBOUR: 'it returns false'. Refute it at one input. -/
def shapeSignsWrong : ChangeSpec := { name := "shapeSigns", fn := fun _ => fun
  | [d] => { results := [.lit (.bool false)], args := [d] }
  | _ => none }
def ShapeSignsWrongFalsely : Prop := shapeSignsRow.holds Try.pinned (OpenSpec.ofChange shapeSignsWrong)

/-- 'abacuslaw22.BoxForms': WHATEVER THE INPUT: true; the input reads as it did. -/
def boxFormsSpec : ChangeSpec := { name := "boxForms", fn := fun _ => fun
  | [d1, d2, d3] => { results := [.lit (.bool true)], args := [d1, d2, d3] }
  | _ => none }
def boxFormsRow : OpenClaim := { program := "ytdnndfaojopnbaa", sum := "e9214db5a1c9d127c7298c9db3d562e1e09f11f7ee5d7ceee787f5dc35db5e61", func := "abacus/abacuslaw22.BoxForms", spec := "boxForms", unfollowed := true, recurses := true, apart := false }
def BoxFormsSaid : Prop := boxFormsRow.holds Try.pinned (OpenSpec.ofChange boxFormsSpec)

/-- ITS FALSE NEIGHBOUR: 'it returns false'. Refute it at one input. -/
def boxFormsWrong : ChangeSpec := { name := "boxForms", fn := fun _ => fun
  | [d1, d2, d3] => { results := [.lit (.bool false)], args := [d1, d2, d3] }
  | _ => none }
def BoxFormsWrongFalsely : Prop := boxFormsRow.holds Try.pinned (OpenSpec.ofChange boxFormsWrong)

/- THE SECOND FORM. 'bulk': how many values and letters a reading holds, each counted each time it is reached (what is shared counts as often as it is met; a slice's spare places count too). A statement '..UptoSaid' is the law's where the arguments, and the package variables that the reading takes, are together of bulk at most 1048576: NARROWER than '..Said'. Prove '..Said' where nothing that the law and all that it calls make is longer than what came in: it says more and counts as full. Else prove '..UptoSaid'. A law counts once. -/
mutual
def uptoBulk {H : Type} : DataW H → Nat
  | .lit (.string bytes) => bytes.length + 1
  | .lit _ => 1
  | .nil => 1
  | .ptr d => uptoBulk d + 1
  | .slice elems spare => uptoBulkAll elems + uptoBulkAll spare + 1
  | .agg parts => uptoBulkAll parts + 1
  | .iface _ d => uptoBulk d + 1
  | .map entries => uptoBulkEntries entries + 1
  | .held _ => 1
def uptoBulkAll {H : Type} : List (DataW H) → Nat
  | [] => 0
  | d :: r => uptoBulk d + uptoBulkAll r
def uptoBulkEntries {H : Type} : List (Lit × DataW H) → Nat
  | [] => 0
  | x :: r => uptoBulkEntry x + uptoBulkEntries r
def uptoBulkEntry {H : Type} : Lit × DataW H → Nat
  | (.string bytes, d) => bytes.length + uptoBulk d + 1
  | (_, d) => uptoBulk d + 1
 end
def uptoSmall : (H : Type) → List (DataW H) → Bool := fun _ ds => decide (uptoBulkAll ds ≤ 1048576)
def OpenSpec.upto (s : _root_.Go.ChangeSpec) : _root_.Go.OpenSpec := { _root_.Go.OpenSpec.ofChange s with cond := some uptoSmall }

/-- 'abacuslaw07.ShapeNumbers', WHERE WHAT IT READS IS OF BULK AT MOST 1048576: true; the input reads as it did. -/
def shapeNumbersUptoRow : OpenClaim := { program := "ytdnndfaojopnbaa", sum := "e9214db5a1c9d127c7298c9db3d562e1e09f11f7ee5d7ceee787f5dc35db5e61", func := "abacus/abacuslaw07.ShapeNumbers", spec := "shapeNumbers", apart := false, narrowed := true }
def ShapeNumbersUptoSaid : Prop := shapeNumbersUptoRow.holds Try.pinned (OpenSpec.upto shapeNumbersSpec)

/-- 'abacuslaw07.ShapeNames', WHERE WHAT IT READS IS OF BULK AT MOST 1048576: true; the input reads as it did. -/
def shapeNamesUptoRow : OpenClaim := { program := "ytdnndfaojopnbaa", sum := "e9214db5a1c9d127c7298c9db3d562e1e09f11f7ee5d7ceee787f5dc35db5e61", func := "abacus/abacuslaw07.ShapeNames", spec := "shapeNames", unfollowed := true, recurses := true, apart := false, narrowed := true }
def ShapeNamesUptoSaid : Prop := shapeNamesUptoRow.holds Try.pinned (OpenSpec.upto shapeNamesSpec)

/-- 'abacuslaw07.ShapeMakes', WHERE WHAT IT READS IS OF BULK AT MOST 1048576: true; the input reads as it did. -/
def shapeMakesUptoRow : OpenClaim := { program := "ytdnndfaojopnbaa", sum := "e9214db5a1c9d127c7298c9db3d562e1e09f11f7ee5d7ceee787f5dc35db5e61", func := "abacus/abacuslaw07.ShapeMakes", spec := "shapeMakes", apart := false, narrowed := true }
def ShapeMakesUptoSaid : Prop := shapeMakesUptoRow.holds Try.pinned (OpenSpec.upto shapeMakesSpec)

/-- 'abacuslaw22.BoxReads', WHERE WHAT IT READS IS OF BULK AT MOST 1048576: true; the input reads as it did. -/
def boxReadsUptoRow : OpenClaim := { program := "ytdnndfaojopnbaa", sum := "e9214db5a1c9d127c7298c9db3d562e1e09f11f7ee5d7ceee787f5dc35db5e61", func := "abacus/abacuslaw22.BoxReads", spec := "boxReads", apart := false, narrowed := true }
def BoxReadsUptoSaid : Prop := boxReadsUptoRow.holds Try.pinned (OpenSpec.upto boxReadsSpec)

/-- 'abacuslaw22.BoxBack', WHERE WHAT IT READS IS OF BULK AT MOST 1048576: true; the input reads as it did. -/
def boxBackUptoRow : OpenClaim := { program := "ytdnndfaojopnbaa", sum := "e9214db5a1c9d127c7298c9db3d562e1e09f11f7ee5d7ceee787f5dc35db5e61", func := "abacus/abacuslaw22.BoxBack", spec := "boxBack", apart := false, narrowed := true }
def BoxBackUptoSaid : Prop := boxBackUptoRow.holds Try.pinned (OpenSpec.upto boxBackSpec)

/-- 'abacuslaw22.BoxWithin', WHERE WHAT IT READS IS OF BULK AT MOST 1048576: true; the input reads as it did. -/
def boxWithinUptoRow : OpenClaim := { program := "ytdnndfaojopnbaa", sum := "e9214db5a1c9d127c7298c9db3d562e1e09f11f7ee5d7ceee787f5dc35db5e61", func := "abacus/abacuslaw22.BoxWithin", spec := "boxWithin", apart := false, narrowed := true }
def BoxWithinUptoSaid : Prop := boxWithinUptoRow.holds Try.pinned (OpenSpec.upto boxWithinSpec)

/-- 'abacuslaw07.ShapeSigns', WHERE WHAT IT READS IS OF BULK AT MOST 1048576: true; the input reads as it did. -/
def shapeSignsUptoRow : OpenClaim := { program := "ytdnndfaojopnbaa", sum := "e9214db5a1c9d127c7298c9db3d562e1e09f11f7ee5d7ceee787f5dc35db5e61", func := "abacus/abacuslaw07.ShapeSigns", spec := "shapeSigns", apart := false, narrowed := true }
def ShapeSignsUptoSaid : Prop := shapeSignsUptoRow.holds Try.pinned (OpenSpec.upto shapeSignsSpec)

/-- 'abacuslaw22.BoxForms', WHERE WHAT IT READS IS OF BULK AT MOST 1048576: true; the input reads as it did. -/
def boxFormsUptoRow : OpenClaim := { program := "ytdnndfaojopnbaa", sum := "e9214db5a1c9d127c7298c9db3d562e1e09f11f7ee5d7ceee787f5dc35db5e61", func := "abacus/abacuslaw22.BoxForms", spec := "boxForms", unfollowed := true, recurses := true, apart := false, narrowed := true }
def BoxFormsUptoSaid : Prop := boxFormsUptoRow.holds Try.pinned (OpenSpec.upto boxFormsSpec)

end Rows
end Go.Proofs.Ytdnndfaojopnbaa
