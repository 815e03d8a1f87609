/- The functions as the evaluator has them: what each comes to. -/
import Derived.Test.YtanelnajdbghdaaDoorEvNum
import Derived.Test.YtanelnajdbghdaaDoorDR02
import Derived.Test.YtanelnajdbghdaaDoorDR07
set_option maxRecDepth 100000
set_option linter.unusedVariables false
set_option linter.unusedSimpArgs false
namespace Go.Ev.S
open Go Go.Ev
def r08_Class.d (a0 : Int) (a1_0 : Int) (a1_1 : Int) (K : Int → Prop) : Prop :=
  r07_Fields a0 a1_0 a1_1 fun y0 y1 y2 => r07_Ones a0 fun y0_1 => br (eqI y1 y0_1) (br (!eqN 6 y2 fun x => 0) (r07_Precision a0 fun y0 => r02_Bit y2 (subI IntKind.i64 y0 2) fun y0 => br y0 (K 9) (K 8)) (br y0 (K 0) (K 7))) (br (!eqI y1 0) (br y0 (K 1) (K 6)) (br (!eqN 6 y2 fun x => 0) (br y0 (K 2) (K 5)) (br y0 (K 3) (K 4))))
noncomputable def r08_Class : Int → Int → Int → (Int → Prop) → Prop := Classical.choose (⟨r08_Class.d, rfl⟩ : ∃ f, f = r08_Class.d)
theorem r08_Class.is : r08_Class = r08_Class.d := Classical.choose_spec (⟨r08_Class.d, rfl⟩ : ∃ f, f = r08_Class.d)
def r08_Flip.d (a0 : Int) (a1_0 : Int) (a1_1 : Int) (K : Int → Int → Prop) : Prop :=
  r07_Fits a0 a1_0 a1_1 fun y0 => br (!y0) (K 0 0) (r07_Fields a0 a1_0 a1_1 fun y0 y1 y2 => r07_Build a0 (!y0) y1 y2 fun y0 y1 => K y0 y1)
noncomputable def r08_Flip : Int → Int → Int → (Int → Int → Prop) → Prop := Classical.choose (⟨r08_Flip.d, rfl⟩ : ∃ f, f = r08_Flip.d)
theorem r08_Flip.is : r08_Flip = r08_Flip.d := Classical.choose_spec (⟨r08_Flip.d, rfl⟩ : ∃ f, f = r08_Flip.d)
def r08_IsNaN.d (a0 : Int) (a1_0 : Int) (a1_1 : Int) (K : Bool → Prop) : Prop :=
  r08_Class a0 a1_0 a1_1 fun y0 => K (leI 8 y0)
noncomputable def r08_IsNaN : Int → Int → Int → (Bool → Prop) → Prop := Classical.choose (⟨r08_IsNaN.d, rfl⟩ : ∃ f, f = r08_IsNaN.d)
theorem r08_IsNaN.is : r08_IsNaN = r08_IsNaN.d := Classical.choose_spec (⟨r08_IsNaN.d, rfl⟩ : ∃ f, f = r08_IsNaN.d)
def r08_IsSignaling.d (a0 : Int) (a1_0 : Int) (a1_1 : Int) (K : Bool → Prop) : Prop :=
  r08_Class a0 a1_0 a1_1 fun y0 => K (eqI y0 8)
noncomputable def r08_IsSignaling : Int → Int → Int → (Bool → Prop) → Prop := Classical.choose (⟨r08_IsSignaling.d, rfl⟩ : ∃ f, f = r08_IsSignaling.d)
theorem r08_IsSignaling.is : r08_IsSignaling = r08_IsSignaling.d := Classical.choose_spec (⟨r08_IsSignaling.d, rfl⟩ : ∃ f, f = r08_IsSignaling.d)
def r08_Sign.d (a0 : Int) (a1_0 : Int) (a1_1 : Int) (K : Bool → Prop) : Prop :=
  r07_Fits a0 a1_0 a1_1 fun y0 => br (!y0) (K false) (r07_Fields a0 a1_0 a1_1 fun y0 y1 y2 => K y0)
noncomputable def r08_Sign : Int → Int → Int → (Bool → Prop) → Prop := Classical.choose (⟨r08_Sign.d, rfl⟩ : ∃ f, f = r08_Sign.d)
theorem r08_Sign.is : r08_Sign = r08_Sign.d := Classical.choose_spec (⟨r08_Sign.d, rfl⟩ : ∃ f, f = r08_Sign.d)
end Go.Ev.S
