/- The functions as the evaluator has them: what each comes to. -/
import Derived.Test.YtfglhfahphncdaaDoorEvNum
import Derived.Test.YtfglhfahphncdaaDoorDWide
set_option maxRecDepth 100000
set_option linter.unusedVariables false
set_option linter.unusedSimpArgs false
namespace Go.Ev.S
open Go Go.Ev
def jam_Cut.d (a0 : Nat → Int) (a1 : Int) (K : (Nat → Int) → Int → Bool → Prop) : Prop :=
  wide_Right a0 (minI (maxI a1 0) 385) fun y0 y1 => br (eqI (minI (maxI a1 0) 385) 0) (K y0 (-1) !y1) (br (eqI (minI (maxI a1 0) 385) 385) (K y0 (-1) !y1) (wide_Bit a0 (subI IntKind.i64 (minI (maxI a1 0) 385) 1) fun y0_1 => br (!y0_1) (K y0 (-1) !y1) (wide_Mask (subI IntKind.i64 (minI (maxI a1 0) 385) 1) fun y0_2 => wide_And a0 y0_2 fun y0_3 => br (!eqN 6 y0_3 fun x => 0) (K y0 1 !y1) (K y0 0 !y1))))
noncomputable def jam_Cut : (Nat → Int) → Int → ((Nat → Int) → Int → Bool → Prop) → Prop := Classical.choose (⟨jam_Cut.d, rfl⟩ : ∃ f, f = jam_Cut.d)
theorem jam_Cut.is : jam_Cut = jam_Cut.d := Classical.choose_spec (⟨jam_Cut.d, rfl⟩ : ∃ f, f = jam_Cut.d)
end Go.Ev.S
