/- The functions as the evaluator has them: what each comes to. -/
import Derived.Test.YtfglhfahphncdaaDoorEvNum
import Derived.Test.YtfglhfahphncdaaDoorDR07
import Derived.Test.YtfglhfahphncdaaDoorDR09
set_option maxRecDepth 100000
set_option linter.unusedVariables false
set_option linter.unusedSimpArgs false
namespace Go.Ev.S
open Go Go.Ev
def r10_Over.d (a0 : Int) (a1 : Int) (a2 : Bool) (K : Int → Int → Int → Int → Prop) : Prop :=
  r07_Right a0 fun y0 => br (!y0) (K 0 0 0 2) (r07_RightMode a1 fun y0 => br (!y0) (K 0 0 0 2) (r09_Over a0 a1 a2 fun y0 y1 => K y0 y1 5 0))
noncomputable def r10_Over : Int → Int → Bool → (Int → Int → Int → Int → Prop) → Prop := Classical.choose (⟨r10_Over.d, rfl⟩ : ∃ f, f = r10_Over.d)
theorem r10_Over.is : r10_Over = r10_Over.d := Classical.choose_spec (⟨r10_Over.d, rfl⟩ : ∃ f, f = r10_Over.d)
def r10_Up.d (a0 : Int) (a1 : Bool) (a2 : Bool) (a3 : Int) (a4 : Bool) (K : Bool → Prop) : Prop :=
  br a4 (K false) (br (eqI a0 2) (K a1) (br (eqI a0 3) (K !a1) (br (eqI a0 0) (br (ltI 0 a3) (K true) (br (eqI a3 0) (K a2) (K false))) (br (eqI a0 4) (K (leI 0 a3)) (K false)))))
noncomputable def r10_Up : Int → Bool → Bool → Int → Bool → (Bool → Prop) → Prop := Classical.choose (⟨r10_Up.d, rfl⟩ : ∃ f, f = r10_Up.d)
theorem r10_Up.is : r10_Up = r10_Up.d := Classical.choose_spec (⟨r10_Up.d, rfl⟩ : ∃ f, f = r10_Up.d)
end Go.Ev.S
