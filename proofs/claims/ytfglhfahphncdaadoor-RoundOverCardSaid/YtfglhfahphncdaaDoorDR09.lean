/- The functions as the evaluator has them: what each comes to. -/
import Derived.Test.YtfglhfahphncdaaDoorEvNum
import Derived.Test.YtfglhfahphncdaaDoorDR07
set_option maxRecDepth 100000
set_option linter.unusedVariables false
set_option linter.unusedSimpArgs false
namespace Go.Ev.S
open Go Go.Ev
def r09_Over.d (a0 : Int) (a1 : Int) (a2 : Bool) (K : Int → Int → Prop) : Prop :=
  br (eqI a1 1) (r07_Greatest a0 a2 fun y0 y1 => K y0 y1) (br (eqI a1 2) (br (!a2) (r07_Greatest a0 a2 fun y0 y1 => K y0 y1) (br (eqI a1 3) (br a2 (r07_Greatest a0 a2 fun y0 y1 => K y0 y1) (r07_Inf a0 a2 fun y0 y1 => K y0 y1)) (r07_Inf a0 a2 fun y0 y1 => K y0 y1))) (br (eqI a1 3) (br a2 (r07_Greatest a0 a2 fun y0 y1 => K y0 y1) (r07_Inf a0 a2 fun y0 y1 => K y0 y1)) (r07_Inf a0 a2 fun y0 y1 => K y0 y1)))
noncomputable def r09_Over : Int → Int → Bool → (Int → Int → Prop) → Prop := Classical.choose (⟨r09_Over.d, rfl⟩ : ∃ f, f = r09_Over.d)
theorem r09_Over.is : r09_Over = r09_Over.d := Classical.choose_spec (⟨r09_Over.d, rfl⟩ : ∃ f, f = r09_Over.d)
end Go.Ev.S
