/- The functions as the evaluator has them: what each comes to. -/
import Derived.Test.YtanelnajdbghdaaDoorEvNum
import Derived.Test.YtanelnajdbghdaaDoorDKind
import Derived.Test.YtanelnajdbghdaaDoorDShape
import Derived.Test.YtanelnajdbghdaaDoorDWord
set_option maxRecDepth 100000
set_option linter.unusedVariables false
set_option linter.unusedSimpArgs false
namespace Go.Ev.S
open Go Go.Ev
def sign_Classify.d (a0 : Int) (a1_0 : Int) (a1_1 : Int) (K : Int → Int → Prop) : Prop :=
  kind_Class a0 a1_0 a1_1 fun y0 y1 => br (!eqI y1 0) (K 0 y1) (gd (!ltI y0 0) (K (shlI IntKind.u64 1 y0) 0))
noncomputable def sign_Classify : Int → Int → Int → (Int → Int → Prop) → Prop := Classical.choose (⟨sign_Classify.d, rfl⟩ : ∃ f, f = sign_Classify.d)
theorem sign_Classify.is : sign_Classify = sign_Classify.d := Classical.choose_spec (⟨sign_Classify.d, rfl⟩ : ∃ f, f = sign_Classify.d)
def sign_Copy_1.d (a0 : Bool) (a1 : Bool) (K : Bool → Prop) : Prop :=
  K a1
noncomputable def sign_Copy_1 : Bool → Bool → (Bool → Prop) → Prop := Classical.choose (⟨sign_Copy_1.d, rfl⟩ : ∃ f, f = sign_Copy_1.d)
theorem sign_Copy_1.is : sign_Copy_1 = sign_Copy_1.d := Classical.choose_spec (⟨sign_Copy_1.d, rfl⟩ : ∃ f, f = sign_Copy_1.d)
def sign_with_c.d (a0 : Int) (a1_0 : Int) (a1_1 : Int) (a2_0 : Int) (a2_1 : Int) (K : Int → Int → Int → Prop) : Prop :=
  shape_Fits a0 a1_0 a1_1 fun y0 => br (!y0) (K 0 0 2) (shape_Fits a0 a2_0 a2_1 fun y0 => br (!y0) (K 0 0 2) (kind_Sign a0 a1_0 a1_1 fun y0 => kind_Sign a0 a2_0 a2_1 fun y0_1 => sign_Copy_1 y0 y0_1 fun y0_2 => br (!beqB y0_2 y0) (kind_Flip a0 a1_0 a1_1 fun y0 y1 => K y0 y1 0) (K a1_0 a1_1 0)))
noncomputable def sign_with_c : Int → Int → Int → Int → Int → (Int → Int → Int → Prop) → Prop := Classical.choose (⟨sign_with_c.d, rfl⟩ : ∃ f, f = sign_with_c.d)
theorem sign_with_c.is : sign_with_c = sign_with_c.d := Classical.choose_spec (⟨sign_with_c.d, rfl⟩ : ∃ f, f = sign_with_c.d)
def sign_Copy.d (a0 : Int) (a1_0 : Int) (a1_1 : Int) (a2_0 : Int) (a2_1 : Int) (K : Int → Int → Int → Prop) : Prop :=
  sign_with_c a0 a1_0 a1_1 a2_0 a2_1 fun y0 y1 y2 => K y0 y1 y2
noncomputable def sign_Copy : Int → Int → Int → Int → Int → (Int → Int → Int → Prop) → Prop := Classical.choose (⟨sign_Copy.d, rfl⟩ : ∃ f, f = sign_Copy.d)
theorem sign_Copy.is : sign_Copy = sign_Copy.d := Classical.choose_spec (⟨sign_Copy.d, rfl⟩ : ∃ f, f = sign_Copy.d)
def sign_Not_1.d (a0 : Bool) (a1 : Bool) (K : Bool → Prop) : Prop :=
  K !a1
noncomputable def sign_Not_1 : Bool → Bool → (Bool → Prop) → Prop := Classical.choose (⟨sign_Not_1.d, rfl⟩ : ∃ f, f = sign_Not_1.d)
theorem sign_Not_1.is : sign_Not_1 = sign_Not_1.d := Classical.choose_spec (⟨sign_Not_1.d, rfl⟩ : ∃ f, f = sign_Not_1.d)
def sign_with_n.d (a0 : Int) (a1_0 : Int) (a1_1 : Int) (a2_0 : Int) (a2_1 : Int) (K : Int → Int → Int → Prop) : Prop :=
  shape_Fits a0 a1_0 a1_1 fun y0 => br (!y0) (K 0 0 2) (shape_Fits a0 a2_0 a2_1 fun y0 => br (!y0) (K 0 0 2) (kind_Sign a0 a1_0 a1_1 fun y0 => kind_Sign a0 a2_0 a2_1 fun y0_1 => sign_Not_1 y0 y0_1 fun y0_2 => br (!beqB y0_2 y0) (kind_Flip a0 a1_0 a1_1 fun y0 y1 => K y0 y1 0) (K a1_0 a1_1 0)))
noncomputable def sign_with_n : Int → Int → Int → Int → Int → (Int → Int → Int → Prop) → Prop := Classical.choose (⟨sign_with_n.d, rfl⟩ : ∃ f, f = sign_with_n.d)
theorem sign_with_n.is : sign_with_n = sign_with_n.d := Classical.choose_spec (⟨sign_with_n.d, rfl⟩ : ∃ f, f = sign_with_n.d)
def sign_Not.d (a0 : Int) (a1_0 : Int) (a1_1 : Int) (a2_0 : Int) (a2_1 : Int) (K : Int → Int → Int → Prop) : Prop :=
  sign_with_n a0 a1_0 a1_1 a2_0 a2_1 fun y0 y1 y2 => K y0 y1 y2
noncomputable def sign_Not : Int → Int → Int → Int → Int → (Int → Int → Int → Prop) → Prop := Classical.choose (⟨sign_Not.d, rfl⟩ : ∃ f, f = sign_Not.d)
theorem sign_Not.is : sign_Not = sign_Not.d := Classical.choose_spec (⟨sign_Not.d, rfl⟩ : ∃ f, f = sign_Not.d)
def sign_OfWord.d (a0 : Int) (a1 : Int) (K : Int → Int → Int → Prop) : Prop :=
  br (eqI a0 3) (K 0 0 2) (shape_Check a0 fun y0 => br (!eqI y0 0) (K 0 0 2) (shape_Width a0 fun y0 => word_Mask y0 fun y0 => K 0 (andI IntKind.u64 a1 y0) 0))
noncomputable def sign_OfWord : Int → Int → (Int → Int → Int → Prop) → Prop := Classical.choose (⟨sign_OfWord.d, rfl⟩ : ∃ f, f = sign_OfWord.d)
theorem sign_OfWord.is : sign_OfWord = sign_OfWord.d := Classical.choose_spec (⟨sign_OfWord.d, rfl⟩ : ∃ f, f = sign_OfWord.d)
def sign_ToWord.d (a0 : Int) (a1_0 : Int) (a1_1 : Int) (K : Int → Int → Prop) : Prop :=
  br (eqI a0 3) (K 0 2) (shape_Fits a0 a1_0 a1_1 fun y0 => br (!y0) (K 0 2) (shape_Width a0 fun y0 => word_Extend a1_1 y0 fun y0 => K y0 0))
noncomputable def sign_ToWord : Int → Int → Int → (Int → Int → Prop) → Prop := Classical.choose (⟨sign_ToWord.d, rfl⟩ : ∃ f, f = sign_ToWord.d)
theorem sign_ToWord.is : sign_ToWord = sign_ToWord.d := Classical.choose_spec (⟨sign_ToWord.d, rfl⟩ : ∃ f, f = sign_ToWord.d)
def sign_Xor_1.d (a0 : Bool) (a1 : Bool) (K : Bool → Prop) : Prop :=
  K !beqB a0 a1
noncomputable def sign_Xor_1 : Bool → Bool → (Bool → Prop) → Prop := Classical.choose (⟨sign_Xor_1.d, rfl⟩ : ∃ f, f = sign_Xor_1.d)
theorem sign_Xor_1.is : sign_Xor_1 = sign_Xor_1.d := Classical.choose_spec (⟨sign_Xor_1.d, rfl⟩ : ∃ f, f = sign_Xor_1.d)
def sign_with_x.d (a0 : Int) (a1_0 : Int) (a1_1 : Int) (a2_0 : Int) (a2_1 : Int) (K : Int → Int → Int → Prop) : Prop :=
  shape_Fits a0 a1_0 a1_1 fun y0 => br (!y0) (K 0 0 2) (shape_Fits a0 a2_0 a2_1 fun y0 => br (!y0) (K 0 0 2) (kind_Sign a0 a1_0 a1_1 fun y0 => kind_Sign a0 a2_0 a2_1 fun y0_1 => sign_Xor_1 y0 y0_1 fun y0_2 => br (!beqB y0_2 y0) (kind_Flip a0 a1_0 a1_1 fun y0 y1 => K y0 y1 0) (K a1_0 a1_1 0)))
noncomputable def sign_with_x : Int → Int → Int → Int → Int → (Int → Int → Int → Prop) → Prop := Classical.choose (⟨sign_with_x.d, rfl⟩ : ∃ f, f = sign_with_x.d)
theorem sign_with_x.is : sign_with_x = sign_with_x.d := Classical.choose_spec (⟨sign_with_x.d, rfl⟩ : ∃ f, f = sign_with_x.d)
def sign_Xor.d (a0 : Int) (a1_0 : Int) (a1_1 : Int) (a2_0 : Int) (a2_1 : Int) (K : Int → Int → Int → Prop) : Prop :=
  sign_with_x a0 a1_0 a1_1 a2_0 a2_1 fun y0 y1 y2 => K y0 y1 y2
noncomputable def sign_Xor : Int → Int → Int → Int → Int → (Int → Int → Int → Prop) → Prop := Classical.choose (⟨sign_Xor.d, rfl⟩ : ∃ f, f = sign_Xor.d)
theorem sign_Xor.is : sign_Xor = sign_Xor.d := Classical.choose_spec (⟨sign_Xor.d, rfl⟩ : ∃ f, f = sign_Xor.d)
end Go.Ev.S
