/- The functions as the evaluator has them: what each comes to. -/
import Derived.Test.YtanelnajdbghdaaDoorEvNum
import Derived.Test.YtanelnajdbghdaaDoorDR01
import Derived.Test.YtanelnajdbghdaaDoorDR02
import Derived.Test.YtanelnajdbghdaaDoorDR07
import Derived.Test.YtanelnajdbghdaaDoorDR08
set_option maxRecDepth 100000
set_option linter.unusedVariables false
set_option linter.unusedSimpArgs false
namespace Go.Ev.S
open Go Go.Ev
def r17_Classify.d (a0 : Int) (a1_0 : Int) (a1_1 : Int) (K : Int → Prop) : Prop :=
  r08_Class a0 a1_0 a1_1 fun y0 => gd (!ltI (cvI IntKind.u64 y0) 0) (K (shlI IntKind.u64 1 (cvI IntKind.u64 y0)))
noncomputable def r17_Classify : Int → Int → Int → (Int → Prop) → Prop := Classical.choose (⟨r17_Classify.d, rfl⟩ : ∃ f, f = r17_Classify.d)
theorem r17_Classify.is : r17_Classify = r17_Classify.d := Classical.choose_spec (⟨r17_Classify.d, rfl⟩ : ∃ f, f = r17_Classify.d)
def r17_OfWord.d (a0 : Int) (a1 : Int) (K : Int → Int → Int → Prop) : Prop :=
  br (eqI a0 3) (K 0 0 2) (r07_Right a0 fun y0 => br (!y0) (K 0 0 2) (r02_Of a1 fun y0 => r07_Width a0 fun y0_1 => r02_Mask y0_1 fun y0_2 => r02_And y0 y0_2 fun y0 => r02_ToBits y0 fun y0 y1 y2 => K y0 y1 0))
noncomputable def r17_OfWord : Int → Int → (Int → Int → Int → Prop) → Prop := Classical.choose (⟨r17_OfWord.d, rfl⟩ : ∃ f, f = r17_OfWord.d)
theorem r17_OfWord.is : r17_OfWord = r17_OfWord.d := Classical.choose_spec (⟨r17_OfWord.d, rfl⟩ : ∃ f, f = r17_OfWord.d)
def r17_ToWord.d (a0 : Int) (a1_0 : Int) (a1_1 : Int) (K : Int → Int → Prop) : Prop :=
  br (eqI a0 3) (K 0 2) (r07_Fits a0 a1_0 a1_1 fun y0 => br (!y0) (K 0 2) (r07_Width a0 fun y0 => r01_Extend a1_1 y0 fun y0 => K y0 0))
noncomputable def r17_ToWord : Int → Int → Int → (Int → Int → Prop) → Prop := Classical.choose (⟨r17_ToWord.d, rfl⟩ : ∃ f, f = r17_ToWord.d)
theorem r17_ToWord.is : r17_ToWord = r17_ToWord.d := Classical.choose_spec (⟨r17_ToWord.d, rfl⟩ : ∃ f, f = r17_ToWord.d)
def r17_With.d (a0 : Int) (a1_0 : Int) (a1_1 : Int) (a2 : Bool) (K : Int → Int → Prop) : Prop :=
  r08_Sign a0 a1_0 a1_1 fun y0 => br (!beqB y0 a2) (r08_Flip a0 a1_0 a1_1 fun y0 y1 => K y0 y1) (K a1_0 a1_1)
noncomputable def r17_With : Int → Int → Int → Bool → (Int → Int → Prop) → Prop := Classical.choose (⟨r17_With.d, rfl⟩ : ∃ f, f = r17_With.d)
theorem r17_With.is : r17_With = r17_With.d := Classical.choose_spec (⟨r17_With.d, rfl⟩ : ∃ f, f = r17_With.d)
end Go.Ev.S
