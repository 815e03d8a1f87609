/- The functions as the evaluator has them: what each comes to. -/
import Derived.Test.YtfglhfahphncdaaDoorEvNum
import Derived.Test.YtfglhfahphncdaaDoorDR02
import Derived.Test.YtfglhfahphncdaaDoorDR07
set_option maxRecDepth 100000
set_option linter.unusedVariables false
set_option linter.unusedSimpArgs false
namespace Go.Ev.S
open Go Go.Ev
def r08_Class.d (a0 : Int) (a1_0 : Int) (a1_1 : Int) (K : Int → Prop) : Prop :=
  r07_Fields a0 a1_0 a1_1 fun y0 y1 y2 => r07_Ones a0 fun y0_1 => br (eqI y1 y0_1) (br (!eqN 6 y2 fun x => 0) (r07_Precision a0 fun y0 => r02_Bit y2 (subI IntKind.i64 y0 2) fun y0 => br y0 (K 9) (K 8)) (br y0 (K 0) (K 7))) (br (!eqI y1 0) (br y0 (K 1) (K 6)) (br (!eqN 6 y2 fun x => 0) (br y0 (K 2) (K 5)) (br y0 (K 3) (K 4))))
noncomputable def r08_Class : Int → Int → Int → (Int → Prop) → Prop := Classical.choose (⟨r08_Class.d, rfl⟩ : ∃ f, f = r08_Class.d)
theorem r08_Class.is : r08_Class = r08_Class.d := Classical.choose_spec (⟨r08_Class.d, rfl⟩ : ∃ f, f = r08_Class.d)
def r08_Flip.d (a0 : Int) (a1_0 : Int) (a1_1 : Int) (K : Int → Int → Prop) : Prop :=
  r07_Fits a0 a1_0 a1_1 fun y0 => br (!y0) (K 0 0) (r07_Fields a0 a1_0 a1_1 fun y0 y1 y2 => r07_Build a0 (!y0) y1 y2 fun y0 y1 => K y0 y1)
noncomputable def r08_Flip : Int → Int → Int → (Int → Int → Prop) → Prop := Classical.choose (⟨r08_Flip.d, rfl⟩ : ∃ f, f = r08_Flip.d)
theorem r08_Flip.is : r08_Flip = r08_Flip.d := Classical.choose_spec (⟨r08_Flip.d, rfl⟩ : ∃ f, f = r08_Flip.d)
def r08_IsNaN.d (a0 : Int) (a1_0 : Int) (a1_1 : Int) (K : Bool → Prop) : Prop :=
  r08_Class a0 a1_0 a1_1 fun y0 => K (leI 8 y0)
noncomputable def r08_IsNaN : Int → Int → Int → (Bool → Prop) → Prop := Classical.choose (⟨r08_IsNaN.d, rfl⟩ : ∃ f, f = r08_IsNaN.d)
theorem r08_IsNaN.is : r08_IsNaN = r08_IsNaN.d := Classical.choose_spec (⟨r08_IsNaN.d, rfl⟩ : ∃ f, f = r08_IsNaN.d)
def r08_IsSignaling.d (a0 : Int) (a1_0 : Int) (a1_1 : Int) (K : Bool → Prop) : Prop :=
  r08_Class a0 a1_0 a1_1 fun y0 => K (eqI y0 8)
noncomputable def r08_IsSignaling : Int → Int → Int → (Bool → Prop) → Prop := Classical.choose (⟨r08_IsSignaling.d, rfl⟩ : ∃ f, f = r08_IsSignaling.d)
theorem r08_IsSignaling.is : r08_IsSignaling = r08_IsSignaling.d := Classical.choose_spec (⟨r08_IsSignaling.d, rfl⟩ : ∃ f, f = r08_IsSignaling.d)
def r08_Sign.d (a0 : Int) (a1_0 : Int) (a1_1 : Int) (K : Bool → Prop) : Prop :=
  r07_Fits a0 a1_0 a1_1 fun y0 => br (!y0) (K false) (r07_Fields a0 a1_0 a1_1 fun y0 y1 y2 => K y0)
noncomputable def r08_Sign : Int → Int → Int → (Bool → Prop) → Prop := Classical.choose (⟨r08_Sign.d, rfl⟩ : ∃ f, f = r08_Sign.d)
theorem r08_Sign.is : r08_Sign = r08_Sign.d := Classical.choose_spec (⟨r08_Sign.d, rfl⟩ : ∃ f, f = r08_Sign.d)
def r08_step.d (a0_0 : Int) (a0_1 : Int) (a1 : Bool) (K : Int → Int → Prop) : Prop :=
  r02_OfBits a0_0 a0_1 fun y0 => br a1 (r02_Of 1 fun y0_1 => r02_Add y0 y0_1 fun y0 y1 => r02_ToBits y0 fun y0 y1 y2 => K y0 y1) (r02_Of 1 fun y0_1 => r02_Sub y0 y0_1 fun y0 y1 => r02_ToBits y0 fun y0 y1 y2 => K y0 y1)
noncomputable def r08_step : Int → Int → Bool → (Int → Int → Prop) → Prop := Classical.choose (⟨r08_step.d, rfl⟩ : ∃ f, f = r08_step.d)
theorem r08_step.is : r08_step = r08_step.d := Classical.choose_spec (⟨r08_step.d, rfl⟩ : ∃ f, f = r08_step.d)
def r08_Next.d (a0 : Int) (a1_0 : Int) (a1_1 : Int) (K : Int → Int → Int → Prop) : Prop :=
  r08_Class a0 a1_0 a1_1 fun y0 => br (eqI y0 8) (br (eqI y0 8) (K 0 0 80) (br (eqI y0 3) (r07_Least a0 false fun y0 y1 => K y0 y1 0) (r08_Sign a0 a1_0 a1_1 fun y0 => r08_step a1_0 a1_1 (!y0) fun y0 y1 => K y0 y1 0))) (br (eqI y0 9) (br (eqI y0 9) (K 0 0 80) (br (eqI y0 3) (r07_Least a0 false fun y0 y1 => K y0 y1 0) (r08_Sign a0 a1_0 a1_1 fun y0 => r08_step a1_0 a1_1 (!y0) fun y0 y1 => K y0 y1 0))) (br (eqI y0 7) (K 0 0 80) (br (eqI y0 3) (r07_Least a0 false fun y0 y1 => K y0 y1 0) (r08_Sign a0 a1_0 a1_1 fun y0 => r08_step a1_0 a1_1 (!y0) fun y0 y1 => K y0 y1 0))))
noncomputable def r08_Next : Int → Int → Int → (Int → Int → Int → Prop) → Prop := Classical.choose (⟨r08_Next.d, rfl⟩ : ∃ f, f = r08_Next.d)
theorem r08_Next.is : r08_Next = r08_Next.d := Classical.choose_spec (⟨r08_Next.d, rfl⟩ : ∃ f, f = r08_Next.d)
def r08_Quiet.d (a0 : Int) (a1_0 : Int) (a1_1 : Int) (K : Int → Int → Prop) : Prop :=
  r07_Fits a0 a1_0 a1_1 fun y0 => br (!y0) (K 0 0) (r08_IsNaN a0 a1_0 a1_1 fun y0 => br (!y0) (K a1_0 a1_1) (r07_Fields a0 a1_0 a1_1 fun y0 y1 y2 => r02_Of 1 fun y0_1 => r07_Precision a0 fun y0_2 => r02_Left y0_1 (subI IntKind.i64 y0_2 2) fun y0_3 y1_1 => r02_Or y2 y0_3 fun y0_4 => r07_Build a0 y0 y1 y0_4 fun y0 y1 => K y0 y1))
noncomputable def r08_Quiet : Int → Int → Int → (Int → Int → Prop) → Prop := Classical.choose (⟨r08_Quiet.d, rfl⟩ : ∃ f, f = r08_Quiet.d)
theorem r08_Quiet.is : r08_Quiet = r08_Quiet.d := Classical.choose_spec (⟨r08_Quiet.d, rfl⟩ : ∃ f, f = r08_Quiet.d)
def r08_Unpack.d (a0 : Int) (a1_0 : Int) (a1_1 : Int) (K : Int → (Nat → Int) → Int → (Nat → Int) → Prop) : Prop :=
  r08_Class a0 a1_0 a1_1 fun y0 => r07_Fields a0 a1_0 a1_1 fun y0_1 y1 y2 => r07_Precision a0 fun y0_2 => br (eqI y0 8) (br (eqI y0 8) (K y0 (fun x => 0) 0 y2) (br (eqI y0 2) (br (eqI y0 2) (r07_Emin a0 fun y0_3 => K y0 y2 (addI IntKind.i64 (subI IntKind.i64 y0_3 y0_2) 1) fun x => 0) (br (eqI y0 1) (br (eqI y0 1) (r02_Of 1 fun y0_3 => r02_Left y0_3 (subI IntKind.i64 y0_2 1) fun y0_4 y1_1 => r02_Add y0_4 y2 fun y0_5 y1_2 => r07_Emax a0 fun y0_6 => K y0 y0_5 (addI IntKind.i64 (subI IntKind.i64 (subI IntKind.i64 y1 y0_6) y0_2) 1) fun x => 0) (K y0 (fun x => 0) 0 fun x => 0)) (br (eqI y0 6) (r02_Of 1 fun y0_3 => r02_Left y0_3 (subI IntKind.i64 y0_2 1) fun y0_4 y1_1 => r02_Add y0_4 y2 fun y0_5 y1_2 => r07_Emax a0 fun y0_6 => K y0 y0_5 (addI IntKind.i64 (subI IntKind.i64 (subI IntKind.i64 y1 y0_6) y0_2) 1) fun x => 0) (K y0 (fun x => 0) 0 fun x => 0)))) (br (eqI y0 5) (r07_Emin a0 fun y0_3 => K y0 y2 (addI IntKind.i64 (subI IntKind.i64 y0_3 y0_2) 1) fun x => 0) (br (eqI y0 1) (br (eqI y0 1) (r02_Of 1 fun y0_3 => r02_Left y0_3 (subI IntKind.i64 y0_2 1) fun y0_4 y1_1 => r02_Add y0_4 y2 fun y0_5 y1_2 => r07_Emax a0 fun y0_6 => K y0 y0_5 (addI IntKind.i64 (subI IntKind.i64 (subI IntKind.i64 y1 y0_6) y0_2) 1) fun x => 0) (K y0 (fun x => 0) 0 fun x => 0)) (br (eqI y0 6) (r02_Of 1 fun y0_3 => r02_Left y0_3 (subI IntKind.i64 y0_2 1) fun y0_4 y1_1 => r02_Add y0_4 y2 fun y0_5 y1_2 => r07_Emax a0 fun y0_6 => K y0 y0_5 (addI IntKind.i64 (subI IntKind.i64 (subI IntKind.i64 y1 y0_6) y0_2) 1) fun x => 0) (K y0 (fun x => 0) 0 fun x => 0)))))) (br (eqI y0 9) (K y0 (fun x => 0) 0 y2) (br (eqI y0 2) (br (eqI y0 2) (r07_Emin a0 fun y0_3 => K y0 y2 (addI IntKind.i64 (subI IntKind.i64 y0_3 y0_2) 1) fun x => 0) (br (eqI y0 1) (br (eqI y0 1) (r02_Of 1 fun y0_3 => r02_Left y0_3 (subI IntKind.i64 y0_2 1) fun y0_4 y1_1 => r02_Add y0_4 y2 fun y0_5 y1_2 => r07_Emax a0 fun y0_6 => K y0 y0_5 (addI IntKind.i64 (subI IntKind.i64 (subI IntKind.i64 y1 y0_6) y0_2) 1) fun x => 0) (K y0 (fun x => 0) 0 fun x => 0)) (br (eqI y0 6) (r02_Of 1 fun y0_3 => r02_Left y0_3 (subI IntKind.i64 y0_2 1) fun y0_4 y1_1 => r02_Add y0_4 y2 fun y0_5 y1_2 => r07_Emax a0 fun y0_6 => K y0 y0_5 (addI IntKind.i64 (subI IntKind.i64 (subI IntKind.i64 y1 y0_6) y0_2) 1) fun x => 0) (K y0 (fun x => 0) 0 fun x => 0)))) (br (eqI y0 5) (r07_Emin a0 fun y0_3 => K y0 y2 (addI IntKind.i64 (subI IntKind.i64 y0_3 y0_2) 1) fun x => 0) (br (eqI y0 1) (br (eqI y0 1) (r02_Of 1 fun y0_3 => r02_Left y0_3 (subI IntKind.i64 y0_2 1) fun y0_4 y1_1 => r02_Add y0_4 y2 fun y0_5 y1_2 => r07_Emax a0 fun y0_6 => K y0 y0_5 (addI IntKind.i64 (subI IntKind.i64 (subI IntKind.i64 y1 y0_6) y0_2) 1) fun x => 0) (K y0 (fun x => 0) 0 fun x => 0)) (br (eqI y0 6) (r02_Of 1 fun y0_3 => r02_Left y0_3 (subI IntKind.i64 y0_2 1) fun y0_4 y1_1 => r02_Add y0_4 y2 fun y0_5 y1_2 => r07_Emax a0 fun y0_6 => K y0 y0_5 (addI IntKind.i64 (subI IntKind.i64 (subI IntKind.i64 y1 y0_6) y0_2) 1) fun x => 0) (K y0 (fun x => 0) 0 fun x => 0))))))
noncomputable def r08_Unpack : Int → Int → Int → (Int → (Nat → Int) → Int → (Nat → Int) → Prop) → Prop := Classical.choose (⟨r08_Unpack.d, rfl⟩ : ∃ f, f = r08_Unpack.d)
theorem r08_Unpack.is : r08_Unpack = r08_Unpack.d := Classical.choose_spec (⟨r08_Unpack.d, rfl⟩ : ∃ f, f = r08_Unpack.d)
end Go.Ev.S
