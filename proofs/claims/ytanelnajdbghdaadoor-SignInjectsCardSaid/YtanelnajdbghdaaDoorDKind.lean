/- The functions as the evaluator has them: what each comes to. -/
import Derived.Test.YtanelnajdbghdaaDoorEvNum
import Derived.Test.YtanelnajdbghdaaDoorDShape
import Derived.Test.YtanelnajdbghdaaDoorDWide
set_option maxRecDepth 100000
set_option linter.unusedVariables false
set_option linter.unusedSimpArgs false
namespace Go.Ev.S
open Go Go.Ev
def kind_fields.d (a0 : Int) (a1_0 : Int) (a1_1 : Int) (K : Bool → Int → (Nat → Int) → Prop) : Prop :=
  wide_OfBits a1_0 a1_1 fun y0 => shape_Precision a0 fun y0_1 => shape_Width a0 fun y0_2 => wide_Mask (subI IntKind.i64 y0_1 1) fun y0_3 => wide_And y0 y0_3 fun y0_4 => wide_Right y0 (subI IntKind.i64 y0_1 1) fun y0_5 y1 => wide_Bit y0 (subI IntKind.i64 y0_2 1) fun y0 => gd (!ltI (cvI IntKind.u64 (subI IntKind.i64 y0_2 y0_1)) 0) (K y0 (andI IntKind.i64 (cvI IntKind.i64 (y0_5 0)) (subI IntKind.i64 (shlI IntKind.i64 1 (cvI IntKind.u64 (subI IntKind.i64 y0_2 y0_1))) 1)) y0_4)
noncomputable def kind_fields : Int → Int → Int → (Bool → Int → (Nat → Int) → Prop) → Prop := Classical.choose (⟨kind_fields.d, rfl⟩ : ∃ f, f = kind_fields.d)
theorem kind_fields.is : kind_fields = kind_fields.d := Classical.choose_spec (⟨kind_fields.d, rfl⟩ : ∃ f, f = kind_fields.d)
def kind_class.d (a0 : Int) (a1_0 : Int) (a1_1 : Int) (K : Int → Prop) : Prop :=
  kind_fields a0 a1_0 a1_1 fun y0 y1 y2 => shape_Emax a0 fun y0_1 => br (eqI y1 (addI IntKind.i64 (mulI IntKind.i64 2 y0_1) 1)) (br (!eqN 6 y2 fun x => 0) (shape_Precision a0 fun y0 => wide_Bit y2 (subI IntKind.i64 y0 2) fun y0 => br y0 (K 9) (K 8)) (br (!eqI y1 0) (br (eqN 6 y2 fun x => 0) (shape_Emax a0 fun y0_2 => br (eqI y1 (addI IntKind.i64 (mulI IntKind.i64 2 y0_2) 1)) (br y0 (K 0) (K 7)) (br (!eqI y1 0) (br y0 (K 1) (K 6)) (br (!eqN 6 y2 fun x => 0) (br y0 (K 2) (K 5)) (br y0 (K 3) (K 4))))) (br (!eqI y1 0) (br y0 (K 1) (K 6)) (br (!eqN 6 y2 fun x => 0) (br y0 (K 2) (K 5)) (br y0 (K 3) (K 4))))) (br (!eqI y1 0) (br y0 (K 1) (K 6)) (br (!eqN 6 y2 fun x => 0) (br y0 (K 2) (K 5)) (br y0 (K 3) (K 4)))))) (br (!eqI y1 0) (br (eqN 6 y2 fun x => 0) (shape_Emax a0 fun y0_2 => br (eqI y1 (addI IntKind.i64 (mulI IntKind.i64 2 y0_2) 1)) (br y0 (K 0) (K 7)) (br (!eqI y1 0) (br y0 (K 1) (K 6)) (br (!eqN 6 y2 fun x => 0) (br y0 (K 2) (K 5)) (br y0 (K 3) (K 4))))) (br (!eqI y1 0) (br y0 (K 1) (K 6)) (br (!eqN 6 y2 fun x => 0) (br y0 (K 2) (K 5)) (br y0 (K 3) (K 4))))) (br (!eqI y1 0) (br y0 (K 1) (K 6)) (br (!eqN 6 y2 fun x => 0) (br y0 (K 2) (K 5)) (br y0 (K 3) (K 4)))))
noncomputable def kind_class : Int → Int → Int → (Int → Prop) → Prop := Classical.choose (⟨kind_class.d, rfl⟩ : ∃ f, f = kind_class.d)
theorem kind_class.is : kind_class = kind_class.d := Classical.choose_spec (⟨kind_class.d, rfl⟩ : ∃ f, f = kind_class.d)
def kind_Class.d (a0 : Int) (a1_0 : Int) (a1_1 : Int) (K : Int → Int → Prop) : Prop :=
  shape_Fits a0 a1_0 a1_1 fun y0 => br (!y0) (K 0 2) (kind_class a0 a1_0 a1_1 fun y0 => K y0 0)
noncomputable def kind_Class : Int → Int → Int → (Int → Int → Prop) → Prop := Classical.choose (⟨kind_Class.d, rfl⟩ : ∃ f, f = kind_Class.d)
theorem kind_Class.is : kind_Class = kind_Class.d := Classical.choose_spec (⟨kind_Class.d, rfl⟩ : ∃ f, f = kind_Class.d)
def kind_Flip.d (a0 : Int) (a1_0 : Int) (a1_1 : Int) (K : Int → Int → Prop) : Prop :=
  shape_Fits a0 a1_0 a1_1 fun y0 => br (!y0) (K 0 0) (shape_Zero a0 true fun y0 y1 => K (xorI IntKind.u64 a1_0 y0) (xorI IntKind.u64 a1_1 y1))
noncomputable def kind_Flip : Int → Int → Int → (Int → Int → Prop) → Prop := Classical.choose (⟨kind_Flip.d, rfl⟩ : ∃ f, f = kind_Flip.d)
theorem kind_Flip.is : kind_Flip = kind_Flip.d := Classical.choose_spec (⟨kind_Flip.d, rfl⟩ : ∃ f, f = kind_Flip.d)
def kind_Sign.d (a0 : Int) (a1_0 : Int) (a1_1 : Int) (K : Bool → Prop) : Prop :=
  shape_Fits a0 a1_0 a1_1 fun y0 => br y0 (wide_OfBits a1_0 a1_1 fun y0 => shape_Width a0 fun y0_1 => wide_Bit y0 (subI IntKind.i64 y0_1 1) fun y0 => K y0) (K false)
noncomputable def kind_Sign : Int → Int → Int → (Bool → Prop) → Prop := Classical.choose (⟨kind_Sign.d, rfl⟩ : ∃ f, f = kind_Sign.d)
theorem kind_Sign.is : kind_Sign = kind_Sign.d := Classical.choose_spec (⟨kind_Sign.d, rfl⟩ : ∃ f, f = kind_Sign.d)
end Go.Ev.S
