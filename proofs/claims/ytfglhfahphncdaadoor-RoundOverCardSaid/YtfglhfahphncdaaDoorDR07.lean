/- The functions as the evaluator has them: what each comes to. -/
import Derived.Test.YtfglhfahphncdaaDoorEvNum
import Derived.Test.YtfglhfahphncdaaDoorDR02
set_option maxRecDepth 100000
set_option linter.unusedVariables false
set_option linter.unusedSimpArgs false
namespace Go.Ev.S
open Go Go.Ev
def r07_Precision.d (a0 : Int) (K : Int → Prop) : Prop :=
  br (eqI a0 2) (K 11) (br (eqI a0 0) (K 24) (br (eqI a0 1) (K 53) (br (eqI a0 3) (K 113) (K 0))))
noncomputable def r07_Precision : Int → (Int → Prop) → Prop := Classical.choose (⟨r07_Precision.d, rfl⟩ : ∃ f, f = r07_Precision.d)
theorem r07_Precision.is : r07_Precision = r07_Precision.d := Classical.choose_spec (⟨r07_Precision.d, rfl⟩ : ∃ f, f = r07_Precision.d)
def r07_Right.d (a0 : Int) (K : Bool → Prop) : Prop :=
  K (leI a0 3)
noncomputable def r07_Right : Int → (Bool → Prop) → Prop := Classical.choose (⟨r07_Right.d, rfl⟩ : ∃ f, f = r07_Right.d)
theorem r07_Right.is : r07_Right = r07_Right.d := Classical.choose_spec (⟨r07_Right.d, rfl⟩ : ∃ f, f = r07_Right.d)
def r07_Width.d (a0 : Int) (K : Int → Prop) : Prop :=
  br (eqI a0 2) (K 16) (br (eqI a0 0) (K 32) (br (eqI a0 1) (K 64) (br (eqI a0 3) (K 128) (K 0))))
noncomputable def r07_Width : Int → (Int → Prop) → Prop := Classical.choose (⟨r07_Width.d, rfl⟩ : ∃ f, f = r07_Width.d)
theorem r07_Width.is : r07_Width = r07_Width.d := Classical.choose_spec (⟨r07_Width.d, rfl⟩ : ∃ f, f = r07_Width.d)
def r07_Build.d (a0 : Int) (a1 : Bool) (a2 : Int) (a3 : Nat → Int) (K : Int → Int → Prop) : Prop :=
  r07_Right a0 fun y0 => br (!y0) (K 0 0) (r02_Of (cvI IntKind.u64 a2) fun y0 => r07_Precision a0 fun y0_1 => r02_Left y0 (subI IntKind.i64 y0_1 1) fun y0 y1 => r02_Add y0 a3 fun y0 y1 => br a1 (r02_Of 1 fun y0_2 => r07_Width a0 fun y0_3 => r02_Left y0_2 (subI IntKind.i64 y0_3 1) fun y0_4 y1 => r02_Add y0 y0_4 fun y0 y1 => r02_ToBits y0 fun y0 y1 y2 => K y0 y1) (r02_ToBits y0 fun y0 y1 y2 => K y0 y1))
noncomputable def r07_Build : Int → Bool → Int → (Nat → Int) → (Int → Int → Prop) → Prop := Classical.choose (⟨r07_Build.d, rfl⟩ : ∃ f, f = r07_Build.d)
theorem r07_Build.is : r07_Build = r07_Build.d := Classical.choose_spec (⟨r07_Build.d, rfl⟩ : ∃ f, f = r07_Build.d)
def r07_Emax.d (a0 : Int) (K : Int → Prop) : Prop :=
  br (eqI a0 2) (K 15) (br (eqI a0 0) (K 127) (br (eqI a0 1) (K 1023) (br (eqI a0 3) (K 16383) (K 0))))
noncomputable def r07_Emax : Int → (Int → Prop) → Prop := Classical.choose (⟨r07_Emax.d, rfl⟩ : ∃ f, f = r07_Emax.d)
theorem r07_Emax.is : r07_Emax = r07_Emax.d := Classical.choose_spec (⟨r07_Emax.d, rfl⟩ : ∃ f, f = r07_Emax.d)
def r07_Emin.d (a0 : Int) (K : Int → Prop) : Prop :=
  r07_Right a0 fun y0 => br (!y0) (K 0) (r07_Emax a0 fun y0 => K (subI IntKind.i64 1 y0))
noncomputable def r07_Emin : Int → (Int → Prop) → Prop := Classical.choose (⟨r07_Emin.d, rfl⟩ : ∃ f, f = r07_Emin.d)
theorem r07_Emin.is : r07_Emin = r07_Emin.d := Classical.choose_spec (⟨r07_Emin.d, rfl⟩ : ∃ f, f = r07_Emin.d)
def r07_Ones.d (a0 : Int) (K : Int → Prop) : Prop :=
  r07_Emax a0 fun y0 => K (addI IntKind.i64 (mulI IntKind.i64 2 y0) 1)
noncomputable def r07_Ones : Int → (Int → Prop) → Prop := Classical.choose (⟨r07_Ones.d, rfl⟩ : ∃ f, f = r07_Ones.d)
theorem r07_Ones.is : r07_Ones = r07_Ones.d := Classical.choose_spec (⟨r07_Ones.d, rfl⟩ : ∃ f, f = r07_Ones.d)
def r07_Fields.d (a0 : Int) (a1_0 : Int) (a1_1 : Int) (K : Bool → Int → (Nat → Int) → Prop) : Prop :=
  r02_OfBits a1_0 a1_1 fun y0 => r07_Width a0 fun y0_1 => r02_Bit y0 (subI IntKind.i64 y0_1 1) fun y0_2 => r07_Precision a0 fun y0_3 => r02_Mask (subI IntKind.i64 y0_3 1) fun y0_4 => r02_And y0 y0_4 fun y0_5 => r07_Precision a0 fun y0_6 => r02_Right y0 (subI IntKind.i64 y0_6 1) fun y0 y1 => r07_Ones a0 fun y0_7 => K y0_2 (andI IntKind.i64 (cvI IntKind.i64 (y0 0)) y0_7) y0_5
noncomputable def r07_Fields : Int → Int → Int → (Bool → Int → (Nat → Int) → Prop) → Prop := Classical.choose (⟨r07_Fields.d, rfl⟩ : ∃ f, f = r07_Fields.d)
theorem r07_Fields.is : r07_Fields = r07_Fields.d := Classical.choose_spec (⟨r07_Fields.d, rfl⟩ : ∃ f, f = r07_Fields.d)
def r07_Fits.d (a0 : Int) (a1_0 : Int) (a1_1 : Int) (K : Bool → Prop) : Prop :=
  r07_Right a0 fun y0 => br y0 (r02_OfBits a1_0 a1_1 fun y0 => r02_Len y0 fun y0 => r07_Width a0 fun y0_1 => K (leI y0 y0_1)) (K false)
noncomputable def r07_Fits : Int → Int → Int → (Bool → Prop) → Prop := Classical.choose (⟨r07_Fits.d, rfl⟩ : ∃ f, f = r07_Fits.d)
theorem r07_Fits.is : r07_Fits = r07_Fits.d := Classical.choose_spec (⟨r07_Fits.d, rfl⟩ : ∃ f, f = r07_Fits.d)
def r07_Greatest.d (a0 : Int) (a1 : Bool) (K : Int → Int → Prop) : Prop :=
  r07_Ones a0 fun y0 => r07_Precision a0 fun y0_1 => r02_Mask (subI IntKind.i64 y0_1 1) fun y0_2 => r07_Build a0 a1 (subI IntKind.i64 y0 1) y0_2 fun y0 y1 => K y0 y1
noncomputable def r07_Greatest : Int → Bool → (Int → Int → Prop) → Prop := Classical.choose (⟨r07_Greatest.d, rfl⟩ : ∃ f, f = r07_Greatest.d)
theorem r07_Greatest.is : r07_Greatest = r07_Greatest.d := Classical.choose_spec (⟨r07_Greatest.d, rfl⟩ : ∃ f, f = r07_Greatest.d)
def r07_Inf.d (a0 : Int) (a1 : Bool) (K : Int → Int → Prop) : Prop :=
  r07_Ones a0 fun y0 => r07_Build a0 a1 y0 (fun x => 0) fun y0 y1 => K y0 y1
noncomputable def r07_Inf : Int → Bool → (Int → Int → Prop) → Prop := Classical.choose (⟨r07_Inf.d, rfl⟩ : ∃ f, f = r07_Inf.d)
theorem r07_Inf.is : r07_Inf = r07_Inf.d := Classical.choose_spec (⟨r07_Inf.d, rfl⟩ : ∃ f, f = r07_Inf.d)
def r07_Least.d (a0 : Int) (a1 : Bool) (K : Int → Int → Prop) : Prop :=
  r02_Of 1 fun y0 => r07_Build a0 a1 0 y0 fun y0 y1 => K y0 y1
noncomputable def r07_Least : Int → Bool → (Int → Int → Prop) → Prop := Classical.choose (⟨r07_Least.d, rfl⟩ : ∃ f, f = r07_Least.d)
theorem r07_Least.is : r07_Least = r07_Least.d := Classical.choose_spec (⟨r07_Least.d, rfl⟩ : ∃ f, f = r07_Least.d)
def r07_LeastNormal.d (a0 : Int) (a1 : Bool) (K : Int → Int → Prop) : Prop :=
  r07_Build a0 a1 1 (fun x => 0) fun y0 y1 => K y0 y1
noncomputable def r07_LeastNormal : Int → Bool → (Int → Int → Prop) → Prop := Classical.choose (⟨r07_LeastNormal.d, rfl⟩ : ∃ f, f = r07_LeastNormal.d)
theorem r07_LeastNormal.is : r07_LeastNormal = r07_LeastNormal.d := Classical.choose_spec (⟨r07_LeastNormal.d, rfl⟩ : ∃ f, f = r07_LeastNormal.d)
def r07_NaN.d (a0 : Int) (K : Int → Int → Prop) : Prop :=
  r02_Of 1 fun y0 => r07_Precision a0 fun y0_1 => r02_Left y0 (subI IntKind.i64 y0_1 2) fun y0 y1 => r07_Ones a0 fun y0_2 => r07_Build a0 false y0_2 y0 fun y0 y1 => K y0 y1
noncomputable def r07_NaN : Int → (Int → Int → Prop) → Prop := Classical.choose (⟨r07_NaN.d, rfl⟩ : ∃ f, f = r07_NaN.d)
theorem r07_NaN.is : r07_NaN = r07_NaN.d := Classical.choose_spec (⟨r07_NaN.d, rfl⟩ : ∃ f, f = r07_NaN.d)
def r07_One.d (a0 : Int) (a1 : Bool) (K : Int → Int → Prop) : Prop :=
  r07_Emax a0 fun y0 => r07_Build a0 a1 y0 (fun x => 0) fun y0 y1 => K y0 y1
noncomputable def r07_One : Int → Bool → (Int → Int → Prop) → Prop := Classical.choose (⟨r07_One.d, rfl⟩ : ∃ f, f = r07_One.d)
theorem r07_One.is : r07_One = r07_One.d := Classical.choose_spec (⟨r07_One.d, rfl⟩ : ∃ f, f = r07_One.d)
def r07_RightMode.d (a0 : Int) (K : Bool → Prop) : Prop :=
  K (leI a0 4)
noncomputable def r07_RightMode : Int → (Bool → Prop) → Prop := Classical.choose (⟨r07_RightMode.d, rfl⟩ : ∃ f, f = r07_RightMode.d)
theorem r07_RightMode.is : r07_RightMode = r07_RightMode.d := Classical.choose_spec (⟨r07_RightMode.d, rfl⟩ : ∃ f, f = r07_RightMode.d)
def r07_Zero.d (a0 : Int) (a1 : Bool) (K : Int → Int → Prop) : Prop :=
  r07_Build a0 a1 0 (fun x => 0) fun y0 y1 => K y0 y1
noncomputable def r07_Zero : Int → Bool → (Int → Int → Prop) → Prop := Classical.choose (⟨r07_Zero.d, rfl⟩ : ∃ f, f = r07_Zero.d)
theorem r07_Zero.is : r07_Zero = r07_Zero.d := Classical.choose_spec (⟨r07_Zero.d, rfl⟩ : ∃ f, f = r07_Zero.d)
end Go.Ev.S
