/- Is a register boxed as a format (the bits above it all ones)? -/
import Derived.Test.YtdnndfaojopnbaaEvC
import Derived.Test.YtdnndfaojopnbaaEvD
namespace Go.Ev.S
open Go Go.Ev
def bxm (f : Int) : Int × Int := cond (eqI f 2) (18446744073709551615, 18446744073709486080) (cond (eqI f 0) (18446744073709551615, 18446744069414584320) (cond (eqI f 1) (18446744073709551615, 0) (0, 0)))
def isb (f hi lo : Int) : Bool := eqI (andI .u64 hi (bxm f).1) (bxm f).1 && eqI (andI .u64 lo (bxm f).2) (bxm f).2
end Go.Ev.S

/- The functions as the evaluator has them: what each comes to. -/
set_option maxRecDepth 100000
set_option linter.unusedVariables false
set_option linter.unusedSimpArgs false
namespace Go.Ev.S
open Go Go.Ev
def shape_Check.d (a0 : Int) (K : Int → Prop) : Prop :=
  br (ltI 3 a0) (K 2) (K 0)
noncomputable def shape_Check : Int → (Int → Prop) → Prop := Classical.choose (⟨shape_Check.d, rfl⟩ : ∃ f, f = shape_Check.d)
theorem shape_Check.is : shape_Check = shape_Check.d := Classical.choose_spec (⟨shape_Check.d, rfl⟩ : ∃ f, f = shape_Check.d)
def shape_CheckMode.d (a0 : Int) (K : Int → Prop) : Prop :=
  br (ltI 4 a0) (K 2) (K 0)
noncomputable def shape_CheckMode : Int → (Int → Prop) → Prop := Classical.choose (⟨shape_CheckMode.d, rfl⟩ : ∃ f, f = shape_CheckMode.d)
theorem shape_CheckMode.is : shape_CheckMode = shape_CheckMode.d := Classical.choose_spec (⟨shape_CheckMode.d, rfl⟩ : ∃ f, f = shape_CheckMode.d)
def shape_numbers.d (a0 : Int) (K : Int → Int → Int → List UInt8 → Prop) : Prop :=
  br (leI 4 (cvI IntKind.i64 a0)) (K 0 0 0 []) (br (eqI a0 0) (br (eqI a0 0) (br (eqI a0 0) (br (eqI a0 0) (K 32 24 127 [115]) (br (eqI a0 1) (K 32 24 127 [100]) (br (eqI a0 2) (K 32 24 127 [104]) (br (eqI a0 3) (K 32 24 127 [113]) False)))) (br (eqI a0 1) (br (eqI a0 0) (K 32 24 1023 [115]) (br (eqI a0 1) (K 32 24 1023 [100]) (br (eqI a0 2) (K 32 24 1023 [104]) (br (eqI a0 3) (K 32 24 1023 [113]) False)))) (br (eqI a0 2) (br (eqI a0 0) (K 32 24 15 [115]) (br (eqI a0 1) (K 32 24 15 [100]) (br (eqI a0 2) (K 32 24 15 [104]) (br (eqI a0 3) (K 32 24 15 [113]) False)))) (br (eqI a0 3) (br (eqI a0 0) (K 32 24 16383 [115]) (br (eqI a0 1) (K 32 24 16383 [100]) (br (eqI a0 2) (K 32 24 16383 [104]) (br (eqI a0 3) (K 32 24 16383 [113]) False)))) False)))) (br (eqI a0 1) (br (eqI a0 0) (br (eqI a0 0) (K 32 53 127 [115]) (br (eqI a0 1) (K 32 53 127 [100]) (br (eqI a0 2) (K 32 53 127 [104]) (br (eqI a0 3) (K 32 53 127 [113]) False)))) (br (eqI a0 1) (br (eqI a0 0) (K 32 53 1023 [115]) (br (eqI a0 1) (K 32 53 1023 [100]) (br (eqI a0 2) (K 32 53 1023 [104]) (br (eqI a0 3) (K 32 53 1023 [113]) False)))) (br (eqI a0 2) (br (eqI a0 0) (K 32 53 15 [115]) (br (eqI a0 1) (K 32 53 15 [100]) (br (eqI a0 2) (K 32 53 15 [104]) (br (eqI a0 3) (K 32 53 15 [113]) False)))) (br (eqI a0 3) (br (eqI a0 0) (K 32 53 16383 [115]) (br (eqI a0 1) (K 32 53 16383 [100]) (br (eqI a0 2) (K 32 53 16383 [104]) (br (eqI a0 3) (K 32 53 16383 [113]) False)))) False)))) (br (eqI a0 2) (br (eqI a0 0) (br (eqI a0 0) (K 32 11 127 [115]) (br (eqI a0 1) (K 32 11 127 [100]) (br (eqI a0 2) (K 32 11 127 [104]) (br (eqI a0 3) (K 32 11 127 [113]) False)))) (br (eqI a0 1) (br (eqI a0 0) (K 32 11 1023 [115]) (br (eqI a0 1) (K 32 11 1023 [100]) (br (eqI a0 2) (K 32 11 1023 [104]) (br (eqI a0 3) (K 32 11 1023 [113]) False)))) (br (eqI a0 2) (br (eqI a0 0) (K 32 11 15 [115]) (br (eqI a0 1) (K 32 11 15 [100]) (br (eqI a0 2) (K 32 11 15 [104]) (br (eqI a0 3) (K 32 11 15 [113]) False)))) (br (eqI a0 3) (br (eqI a0 0) (K 32 11 16383 [115]) (br (eqI a0 1) (K 32 11 16383 [100]) (br (eqI a0 2) (K 32 11 16383 [104]) (br (eqI a0 3) (K 32 11 16383 [113]) False)))) False)))) (br (eqI a0 3) (br (eqI a0 0) (br (eqI a0 0) (K 32 113 127 [115]) (br (eqI a0 1) (K 32 113 127 [100]) (br (eqI a0 2) (K 32 113 127 [104]) (br (eqI a0 3) (K 32 113 127 [113]) False)))) (br (eqI a0 1) (br (eqI a0 0) (K 32 113 1023 [115]) (br (eqI a0 1) (K 32 113 1023 [100]) (br (eqI a0 2) (K 32 113 1023 [104]) (br (eqI a0 3) (K 32 113 1023 [113]) False)))) (br (eqI a0 2) (br (eqI a0 0) (K 32 113 15 [115]) (br (eqI a0 1) (K 32 113 15 [100]) (br (eqI a0 2) (K 32 113 15 [104]) (br (eqI a0 3) (K 32 113 15 [113]) False)))) (br (eqI a0 3) (br (eqI a0 0) (K 32 113 16383 [115]) (br (eqI a0 1) (K 32 113 16383 [100]) (br (eqI a0 2) (K 32 113 16383 [104]) (br (eqI a0 3) (K 32 113 16383 [113]) False)))) False)))) False)))) (br (eqI a0 1) (br (eqI a0 0) (br (eqI a0 0) (br (eqI a0 0) (K 64 24 127 [115]) (br (eqI a0 1) (K 64 24 127 [100]) (br (eqI a0 2) (K 64 24 127 [104]) (br (eqI a0 3) (K 64 24 127 [113]) False)))) (br (eqI a0 1) (br (eqI a0 0) (K 64 24 1023 [115]) (br (eqI a0 1) (K 64 24 1023 [100]) (br (eqI a0 2) (K 64 24 1023 [104]) (br (eqI a0 3) (K 64 24 1023 [113]) False)))) (br (eqI a0 2) (br (eqI a0 0) (K 64 24 15 [115]) (br (eqI a0 1) (K 64 24 15 [100]) (br (eqI a0 2) (K 64 24 15 [104]) (br (eqI a0 3) (K 64 24 15 [113]) False)))) (br (eqI a0 3) (br (eqI a0 0) (K 64 24 16383 [115]) (br (eqI a0 1) (K 64 24 16383 [100]) (br (eqI a0 2) (K 64 24 16383 [104]) (br (eqI a0 3) (K 64 24 16383 [113]) False)))) False)))) (br (eqI a0 1) (br (eqI a0 0) (br (eqI a0 0) (K 64 53 127 [115]) (br (eqI a0 1) (K 64 53 127 [100]) (br (eqI a0 2) (K 64 53 127 [104]) (br (eqI a0 3) (K 64 53 127 [113]) False)))) (br (eqI a0 1) (br (eqI a0 0) (K 64 53 1023 [115]) (br (eqI a0 1) (K 64 53 1023 [100]) (br (eqI a0 2) (K 64 53 1023 [104]) (br (eqI a0 3) (K 64 53 1023 [113]) False)))) (br (eqI a0 2) (br (eqI a0 0) (K 64 53 15 [115]) (br (eqI a0 1) (K 64 53 15 [100]) (br (eqI a0 2) (K 64 53 15 [104]) (br (eqI a0 3) (K 64 53 15 [113]) False)))) (br (eqI a0 3) (br (eqI a0 0) (K 64 53 16383 [115]) (br (eqI a0 1) (K 64 53 16383 [100]) (br (eqI a0 2) (K 64 53 16383 [104]) (br (eqI a0 3) (K 64 53 16383 [113]) False)))) False)))) (br (eqI a0 2) (br (eqI a0 0) (br (eqI a0 0) (K 64 11 127 [115]) (br (eqI a0 1) (K 64 11 127 [100]) (br (eqI a0 2) (K 64 11 127 [104]) (br (eqI a0 3) (K 64 11 127 [113]) False)))) (br (eqI a0 1) (br (eqI a0 0) (K 64 11 1023 [115]) (br (eqI a0 1) (K 64 11 1023 [100]) (br (eqI a0 2) (K 64 11 1023 [104]) (br (eqI a0 3) (K 64 11 1023 [113]) False)))) (br (eqI a0 2) (br (eqI a0 0) (K 64 11 15 [115]) (br (eqI a0 1) (K 64 11 15 [100]) (br (eqI a0 2) (K 64 11 15 [104]) (br (eqI a0 3) (K 64 11 15 [113]) False)))) (br (eqI a0 3) (br (eqI a0 0) (K 64 11 16383 [115]) (br (eqI a0 1) (K 64 11 16383 [100]) (br (eqI a0 2) (K 64 11 16383 [104]) (br (eqI a0 3) (K 64 11 16383 [113]) False)))) False)))) (br (eqI a0 3) (br (eqI a0 0) (br (eqI a0 0) (K 64 113 127 [115]) (br (eqI a0 1) (K 64 113 127 [100]) (br (eqI a0 2) (K 64 113 127 [104]) (br (eqI a0 3) (K 64 113 127 [113]) False)))) (br (eqI a0 1) (br (eqI a0 0) (K 64 113 1023 [115]) (br (eqI a0 1) (K 64 113 1023 [100]) (br (eqI a0 2) (K 64 113 1023 [104]) (br (eqI a0 3) (K 64 113 1023 [113]) False)))) (br (eqI a0 2) (br (eqI a0 0) (K 64 113 15 [115]) (br (eqI a0 1) (K 64 113 15 [100]) (br (eqI a0 2) (K 64 113 15 [104]) (br (eqI a0 3) (K 64 113 15 [113]) False)))) (br (eqI a0 3) (br (eqI a0 0) (K 64 113 16383 [115]) (br (eqI a0 1) (K 64 113 16383 [100]) (br (eqI a0 2) (K 64 113 16383 [104]) (br (eqI a0 3) (K 64 113 16383 [113]) False)))) False)))) False)))) (br (eqI a0 2) (br (eqI a0 0) (br (eqI a0 0) (br (eqI a0 0) (K 16 24 127 [115]) (br (eqI a0 1) (K 16 24 127 [100]) (br (eqI a0 2) (K 16 24 127 [104]) (br (eqI a0 3) (K 16 24 127 [113]) False)))) (br (eqI a0 1) (br (eqI a0 0) (K 16 24 1023 [115]) (br (eqI a0 1) (K 16 24 1023 [100]) (br (eqI a0 2) (K 16 24 1023 [104]) (br (eqI a0 3) (K 16 24 1023 [113]) False)))) (br (eqI a0 2) (br (eqI a0 0) (K 16 24 15 [115]) (br (eqI a0 1) (K 16 24 15 [100]) (br (eqI a0 2) (K 16 24 15 [104]) (br (eqI a0 3) (K 16 24 15 [113]) False)))) (br (eqI a0 3) (br (eqI a0 0) (K 16 24 16383 [115]) (br (eqI a0 1) (K 16 24 16383 [100]) (br (eqI a0 2) (K 16 24 16383 [104]) (br (eqI a0 3) (K 16 24 16383 [113]) False)))) False)))) (br (eqI a0 1) (br (eqI a0 0) (br (eqI a0 0) (K 16 53 127 [115]) (br (eqI a0 1) (K 16 53 127 [100]) (br (eqI a0 2) (K 16 53 127 [104]) (br (eqI a0 3) (K 16 53 127 [113]) False)))) (br (eqI a0 1) (br (eqI a0 0) (K 16 53 1023 [115]) (br (eqI a0 1) (K 16 53 1023 [100]) (br (eqI a0 2) (K 16 53 1023 [104]) (br (eqI a0 3) (K 16 53 1023 [113]) False)))) (br (eqI a0 2) (br (eqI a0 0) (K 16 53 15 [115]) (br (eqI a0 1) (K 16 53 15 [100]) (br (eqI a0 2) (K 16 53 15 [104]) (br (eqI a0 3) (K 16 53 15 [113]) False)))) (br (eqI a0 3) (br (eqI a0 0) (K 16 53 16383 [115]) (br (eqI a0 1) (K 16 53 16383 [100]) (br (eqI a0 2) (K 16 53 16383 [104]) (br (eqI a0 3) (K 16 53 16383 [113]) False)))) False)))) (br (eqI a0 2) (br (eqI a0 0) (br (eqI a0 0) (K 16 11 127 [115]) (br (eqI a0 1) (K 16 11 127 [100]) (br (eqI a0 2) (K 16 11 127 [104]) (br (eqI a0 3) (K 16 11 127 [113]) False)))) (br (eqI a0 1) (br (eqI a0 0) (K 16 11 1023 [115]) (br (eqI a0 1) (K 16 11 1023 [100]) (br (eqI a0 2) (K 16 11 1023 [104]) (br (eqI a0 3) (K 16 11 1023 [113]) False)))) (br (eqI a0 2) (br (eqI a0 0) (K 16 11 15 [115]) (br (eqI a0 1) (K 16 11 15 [100]) (br (eqI a0 2) (K 16 11 15 [104]) (br (eqI a0 3) (K 16 11 15 [113]) False)))) (br (eqI a0 3) (br (eqI a0 0) (K 16 11 16383 [115]) (br (eqI a0 1) (K 16 11 16383 [100]) (br (eqI a0 2) (K 16 11 16383 [104]) (br (eqI a0 3) (K 16 11 16383 [113]) False)))) False)))) (br (eqI a0 3) (br (eqI a0 0) (br (eqI a0 0) (K 16 113 127 [115]) (br (eqI a0 1) (K 16 113 127 [100]) (br (eqI a0 2) (K 16 113 127 [104]) (br (eqI a0 3) (K 16 113 127 [113]) False)))) (br (eqI a0 1) (br (eqI a0 0) (K 16 113 1023 [115]) (br (eqI a0 1) (K 16 113 1023 [100]) (br (eqI a0 2) (K 16 113 1023 [104]) (br (eqI a0 3) (K 16 113 1023 [113]) False)))) (br (eqI a0 2) (br (eqI a0 0) (K 16 113 15 [115]) (br (eqI a0 1) (K 16 113 15 [100]) (br (eqI a0 2) (K 16 113 15 [104]) (br (eqI a0 3) (K 16 113 15 [113]) False)))) (br (eqI a0 3) (br (eqI a0 0) (K 16 113 16383 [115]) (br (eqI a0 1) (K 16 113 16383 [100]) (br (eqI a0 2) (K 16 113 16383 [104]) (br (eqI a0 3) (K 16 113 16383 [113]) False)))) False)))) False)))) (br (eqI a0 3) (br (eqI a0 0) (br (eqI a0 0) (br (eqI a0 0) (K 128 24 127 [115]) (br (eqI a0 1) (K 128 24 127 [100]) (br (eqI a0 2) (K 128 24 127 [104]) (br (eqI a0 3) (K 128 24 127 [113]) False)))) (br (eqI a0 1) (br (eqI a0 0) (K 128 24 1023 [115]) (br (eqI a0 1) (K 128 24 1023 [100]) (br (eqI a0 2) (K 128 24 1023 [104]) (br (eqI a0 3) (K 128 24 1023 [113]) False)))) (br (eqI a0 2) (br (eqI a0 0) (K 128 24 15 [115]) (br (eqI a0 1) (K 128 24 15 [100]) (br (eqI a0 2) (K 128 24 15 [104]) (br (eqI a0 3) (K 128 24 15 [113]) False)))) (br (eqI a0 3) (br (eqI a0 0) (K 128 24 16383 [115]) (br (eqI a0 1) (K 128 24 16383 [100]) (br (eqI a0 2) (K 128 24 16383 [104]) (br (eqI a0 3) (K 128 24 16383 [113]) False)))) False)))) (br (eqI a0 1) (br (eqI a0 0) (br (eqI a0 0) (K 128 53 127 [115]) (br (eqI a0 1) (K 128 53 127 [100]) (br (eqI a0 2) (K 128 53 127 [104]) (br (eqI a0 3) (K 128 53 127 [113]) False)))) (br (eqI a0 1) (br (eqI a0 0) (K 128 53 1023 [115]) (br (eqI a0 1) (K 128 53 1023 [100]) (br (eqI a0 2) (K 128 53 1023 [104]) (br (eqI a0 3) (K 128 53 1023 [113]) False)))) (br (eqI a0 2) (br (eqI a0 0) (K 128 53 15 [115]) (br (eqI a0 1) (K 128 53 15 [100]) (br (eqI a0 2) (K 128 53 15 [104]) (br (eqI a0 3) (K 128 53 15 [113]) False)))) (br (eqI a0 3) (br (eqI a0 0) (K 128 53 16383 [115]) (br (eqI a0 1) (K 128 53 16383 [100]) (br (eqI a0 2) (K 128 53 16383 [104]) (br (eqI a0 3) (K 128 53 16383 [113]) False)))) False)))) (br (eqI a0 2) (br (eqI a0 0) (br (eqI a0 0) (K 128 11 127 [115]) (br (eqI a0 1) (K 128 11 127 [100]) (br (eqI a0 2) (K 128 11 127 [104]) (br (eqI a0 3) (K 128 11 127 [113]) False)))) (br (eqI a0 1) (br (eqI a0 0) (K 128 11 1023 [115]) (br (eqI a0 1) (K 128 11 1023 [100]) (br (eqI a0 2) (K 128 11 1023 [104]) (br (eqI a0 3) (K 128 11 1023 [113]) False)))) (br (eqI a0 2) (br (eqI a0 0) (K 128 11 15 [115]) (br (eqI a0 1) (K 128 11 15 [100]) (br (eqI a0 2) (K 128 11 15 [104]) (br (eqI a0 3) (K 128 11 15 [113]) False)))) (br (eqI a0 3) (br (eqI a0 0) (K 128 11 16383 [115]) (br (eqI a0 1) (K 128 11 16383 [100]) (br (eqI a0 2) (K 128 11 16383 [104]) (br (eqI a0 3) (K 128 11 16383 [113]) False)))) False)))) (br (eqI a0 3) (br (eqI a0 0) (br (eqI a0 0) (K 128 113 127 [115]) (br (eqI a0 1) (K 128 113 127 [100]) (br (eqI a0 2) (K 128 113 127 [104]) (br (eqI a0 3) (K 128 113 127 [113]) False)))) (br (eqI a0 1) (br (eqI a0 0) (K 128 113 1023 [115]) (br (eqI a0 1) (K 128 113 1023 [100]) (br (eqI a0 2) (K 128 113 1023 [104]) (br (eqI a0 3) (K 128 113 1023 [113]) False)))) (br (eqI a0 2) (br (eqI a0 0) (K 128 113 15 [115]) (br (eqI a0 1) (K 128 113 15 [100]) (br (eqI a0 2) (K 128 113 15 [104]) (br (eqI a0 3) (K 128 113 15 [113]) False)))) (br (eqI a0 3) (br (eqI a0 0) (K 128 113 16383 [115]) (br (eqI a0 1) (K 128 113 16383 [100]) (br (eqI a0 2) (K 128 113 16383 [104]) (br (eqI a0 3) (K 128 113 16383 [113]) False)))) False)))) False)))) False))))
noncomputable def shape_numbers : Int → (Int → Int → Int → List UInt8 → Prop) → Prop := Classical.choose (⟨shape_numbers.d, rfl⟩ : ∃ f, f = shape_numbers.d)
theorem shape_numbers.is : shape_numbers = shape_numbers.d := Classical.choose_spec (⟨shape_numbers.d, rfl⟩ : ∃ f, f = shape_numbers.d)
def shape_Emax.d (a0 : Int) (K : Int → Prop) : Prop :=
  shape_numbers a0 fun y0 y1 y2 y3 => K y2
noncomputable def shape_Emax : Int → (Int → Prop) → Prop := Classical.choose (⟨shape_Emax.d, rfl⟩ : ∃ f, f = shape_Emax.d)
theorem shape_Emax.is : shape_Emax = shape_Emax.d := Classical.choose_spec (⟨shape_Emax.d, rfl⟩ : ∃ f, f = shape_Emax.d)
def shape_Width.d (a0 : Int) (K : Int → Prop) : Prop :=
  shape_numbers a0 fun y0 y1 y2 y3 => K y0
noncomputable def shape_Width : Int → (Int → Prop) → Prop := Classical.choose (⟨shape_Width.d, rfl⟩ : ∃ f, f = shape_Width.d)
theorem shape_Width.is : shape_Width = shape_Width.d := Classical.choose_spec (⟨shape_Width.d, rfl⟩ : ∃ f, f = shape_Width.d)
def shape_Precision.d (a0 : Int) (K : Int → Prop) : Prop :=
  shape_numbers a0 fun y0 y1 y2 y3 => K y1
noncomputable def shape_Precision : Int → (Int → Prop) → Prop := Classical.choose (⟨shape_Precision.d, rfl⟩ : ∃ f, f = shape_Precision.d)
theorem shape_Precision.is : shape_Precision = shape_Precision.d := Classical.choose_spec (⟨shape_Precision.d, rfl⟩ : ∃ f, f = shape_Precision.d)
def shape_at.d (a0 : Int) (a1 : Int) (K : Int → Int → Prop) : Prop :=
  br (leI 64 a1) (gd (!ltI (cvI IntKind.u64 (subI IntKind.i64 a1 64)) 0) (K (shlI IntKind.u64 a0 (cvI IntKind.u64 (subI IntKind.i64 a1 64))) 0)) (gd (!ltI (cvI IntKind.u64 a1) 0) (br (ltI 0 a1) (gd (!ltI (cvI IntKind.u64 (subI IntKind.i64 64 a1)) 0) (K (shrI IntKind.u64 a0 (cvI IntKind.u64 (subI IntKind.i64 64 a1))) (shlI IntKind.u64 a0 (cvI IntKind.u64 a1)))) (K 0 (shlI IntKind.u64 a0 (cvI IntKind.u64 a1)))))
noncomputable def shape_at : Int → Int → (Int → Int → Prop) → Prop := Classical.choose (⟨shape_at.d, rfl⟩ : ∃ f, f = shape_at.d)
theorem shape_at.is : shape_at = shape_at.d := Classical.choose_spec (⟨shape_at.d, rfl⟩ : ∃ f, f = shape_at.d)
def shape_NaN.d (a0 : Int) (K : Int → Int → Prop) : Prop :=
  shape_Check a0 fun y0 => br (!eqI y0 0) (K 0 0) (shape_Emax a0 fun y0 => shape_Precision a0 fun y0_1 => shape_at (cvI IntKind.u64 (addI IntKind.i64 (mulI IntKind.i64 4 y0) 3)) (subI IntKind.i64 y0_1 2) fun y0 y1 => K y0 y1)
noncomputable def shape_NaN : Int → (Int → Int → Prop) → Prop := Classical.choose (⟨shape_NaN.d, rfl⟩ : ∃ f, f = shape_NaN.d)
theorem shape_NaN.is : shape_NaN = shape_NaN.d := Classical.choose_spec (⟨shape_NaN.d, rfl⟩ : ∃ f, f = shape_NaN.d)
end Go.Ev.S

/- The functions as the evaluator has them: what each comes to. -/
set_option maxRecDepth 100000
set_option linter.unusedVariables false
set_option linter.unusedSimpArgs false
namespace Go.Ev.S
open Go Go.Ev
end Go.Ev.S

/- The functions as the evaluator has them: what each comes to. -/
set_option maxRecDepth 100000
set_option linter.unusedVariables false
set_option linter.unusedSimpArgs false
namespace Go.Ev.S
open Go Go.Ev
end Go.Ev.S

/- The functions as the evaluator has them: what each comes to. -/
set_option maxRecDepth 100000
set_option linter.unusedVariables false
set_option linter.unusedSimpArgs false
namespace Go.Ev.S
open Go Go.Ev
end Go.Ev.S

/- The functions as the evaluator has them: what each comes to. -/
set_option maxRecDepth 100000
set_option linter.unusedVariables false
set_option linter.unusedSimpArgs false
namespace Go.Ev.S
open Go Go.Ev
end Go.Ev.S

/- The functions as the evaluator has them: what each comes to. -/
set_option maxRecDepth 100000
set_option linter.unusedVariables false
set_option linter.unusedSimpArgs false
namespace Go.Ev.S
open Go Go.Ev
def box_above.d (a0 : Int) (K : Int → Int → Prop) : Prop :=
  br (eqI a0 0) (K 18446744073709551615 18446744069414584320) (br (eqI a0 1) (K 18446744073709551615 0) (br (eqI a0 2) (K 18446744073709551615 18446744073709486080) (br (eqI a0 3) (K 0 0) False)))
noncomputable def box_above : Int → (Int → Int → Prop) → Prop := Classical.choose (⟨box_above.d, rfl⟩ : ∃ f, f = box_above.d)
theorem box_above.is : box_above = box_above.d := Classical.choose_spec (⟨box_above.d, rfl⟩ : ∃ f, f = box_above.d)
def box_Above.d (a0 : Int) (K : Int → Int → Int → Prop) : Prop :=
  shape_Check a0 fun y0 => br (!eqI y0 0) (K 0 0 2) (box_above a0 fun y0 y1 => K y0 y1 0)
noncomputable def box_Above : Int → (Int → Int → Int → Prop) → Prop := Classical.choose (⟨box_Above.d, rfl⟩ : ∃ f, f = box_Above.d)
theorem box_Above.is : box_Above = box_Above.d := Classical.choose_spec (⟨box_Above.d, rfl⟩ : ∃ f, f = box_Above.d)
def box_IsBoxed.d (a0 : Int) (a1_0 : Int) (a1_1 : Int) (K : Bool → Prop) : Prop :=
  box_Above a0 fun y0 y1 y2 => br (eqI y2 0) (K (eqI (andI IntKind.u64 a1_0 y0) y0 && eqI (andI IntKind.u64 a1_1 y1) y1)) (K false)
noncomputable def box_IsBoxed : Int → Int → Int → (Bool → Prop) → Prop := Classical.choose (⟨box_IsBoxed.d, rfl⟩ : ∃ f, f = box_IsBoxed.d)
theorem box_IsBoxed.is : box_IsBoxed = box_IsBoxed.d := Classical.choose_spec (⟨box_IsBoxed.d, rfl⟩ : ∃ f, f = box_IsBoxed.d)
end Go.Ev.S

/- The functions as the evaluator has them: what each comes to. -/
set_option maxRecDepth 100000
set_option linter.unusedVariables false
set_option linter.unusedSimpArgs false
namespace Go.Ev.S
open Go Go.Ev
def law07_alive.d (K : Bool → Prop) : Prop :=
  shape_Width 2 fun y0 => br (eqI y0 16) (shape_Emax 3 fun y0 => br (eqI y0 16383) (shape_NaN 2 fun y0 y1 => br (eqI y0 0 && eqI y1 32256) (shape_Check 4 fun y0 => br (eqI y0 2) (shape_CheckMode 5 fun y0 => K (eqI y0 2)) (K false)) (K false)) (K false)) (K false)
noncomputable def law07_alive : (Bool → Prop) → Prop := Classical.choose (⟨law07_alive.d, rfl⟩ : ∃ f, f = law07_alive.d)
theorem law07_alive.is : law07_alive = law07_alive.d := Classical.choose_spec (⟨law07_alive.d, rfl⟩ : ∃ f, f = law07_alive.d)
end Go.Ev.S

/- The functions as the evaluator has them: what each comes to. -/
set_option maxRecDepth 100000
set_option linter.unusedVariables false
set_option linter.unusedSimpArgs false
namespace Go.Ev.S
open Go Go.Ev
end Go.Ev.S

/- The functions as the evaluator has them: what each comes to. -/
set_option maxRecDepth 100000
set_option linter.unusedVariables false
set_option linter.unusedSimpArgs false
namespace Go.Ev.S
open Go Go.Ev
def shape_Name.d (a0 : Int) (K : List UInt8 → Int → Prop) : Prop :=
  shape_numbers a0 fun y0 y1 y2 y3 => br (eqS y3 []) (K [] 2) (K y3 0)
noncomputable def shape_Name : Int → (List UInt8 → Int → Prop) → Prop := Classical.choose (⟨shape_Name.d, rfl⟩ : ∃ f, f = shape_Name.d)
theorem shape_Name.is : shape_Name = shape_Name.d := Classical.choose_spec (⟨shape_Name.d, rfl⟩ : ∃ f, f = shape_Name.d)
def shape_All.d (K : Prop) : Prop :=
  K
noncomputable def shape_All : Prop → Prop := Classical.choose (⟨shape_All.d, rfl⟩ : ∃ f, f = shape_All.d)
theorem shape_All.is : shape_All = shape_All.d := Classical.choose_spec (⟨shape_All.d, rfl⟩ : ∃ f, f = shape_All.d)
def shape_Named.d (a0 : List UInt8) (K : Int → Int → Prop) : Prop :=
  shape_All (shape_Name 2 fun y0 y1 => br (eqS y0 a0) (K 2 0) (shape_Name 0 fun y0 y1 => br (eqS y0 a0) (K 0 0) (shape_Name 1 fun y0 y1 => br (eqS y0 a0) (K 1 0) (shape_Name 3 fun y0 y1 => br (eqS y0 a0) (K 3 0) (K 0 2)))))
noncomputable def shape_Named : List UInt8 → (Int → Int → Prop) → Prop := Classical.choose (⟨shape_Named.d, rfl⟩ : ∃ f, f = shape_Named.d)
theorem shape_Named.is : shape_Named = shape_Named.d := Classical.choose_spec (⟨shape_Named.d, rfl⟩ : ∃ f, f = shape_Named.d)
def r07_All.d (K : Nat → (Nat → Int) → Prop) : Prop :=
  K 4 (upd (upd (upd (upd (fun x => 0) 0 2) 1 0) 2 1) 3 3)
noncomputable def r07_All : (Nat → (Nat → Int) → Prop) → Prop := Classical.choose (⟨r07_All.d, rfl⟩ : ∃ f, f = r07_All.d)
theorem r07_All.is : r07_All = r07_All.d := Classical.choose_spec (⟨r07_All.d, rfl⟩ : ∃ f, f = r07_All.d)
def r07_Name.d (a0 : Int) (K : List UInt8 → Int → Prop) : Prop :=
  br (eqI a0 2) (K [104] 0) (br (eqI a0 0) (K [115] 0) (br (eqI a0 1) (K [100] 0) (br (eqI a0 3) (K [113] 0) (K [] 2))))
noncomputable def r07_Name : Int → (List UInt8 → Int → Prop) → Prop := Classical.choose (⟨r07_Name.d, rfl⟩ : ∃ f, f = r07_Name.d)
theorem r07_Name.is : r07_Name = r07_Name.d := Classical.choose_spec (⟨r07_Name.d, rfl⟩ : ∃ f, f = r07_Name.d)
def r07_Named.l3.step (again : List UInt8 → Nat → (Nat → Int) → Int → Prop) (k0 : Int → Int → Prop) (k1 : Prop) (x0 : List UInt8) (x1 : Nat) (x2 : Nat → Int) (x3 : Int) : Prop :=
  br (ltI x3 ↑x1) (gd (leI 0 x3 && ltI x3 ↑x1) (r07_Name (x2 (Int.toNat x3)) fun y0 y1 => br (eqS y0 x0) (gd (leI 0 x3 && ltI x3 ↑x1) (k0 (x2 (Int.toNat x3)) 0)) (again x0 x1 x2 (addI IntKind.i64 x3 1)))) k1
def r07_Named.l3 (k0 : Int → Int → Prop) (k1 : Prop) : Nat → List UInt8 → Nat → (Nat → Int) → Int → Prop
  | 0 => fun _ _ _ _ => False
  | n + 1 => r07_Named.l3.step (r07_Named.l3 k0 k1 n) k0 k1
def r07_Named.l3.entry : LoopEntry := ⟨LV.mk 0 [(0, 0)] 12 0 false, 0, 30, fun vs H K => match vs, H with
  | [EV.str x0, EV.rsI IntKind.u8 x1 x2, EV.int IntKind.i64 x3], [] => ∃ n, r07_Named.l3 (fun y0 y1 => K .ret [EV.int IntKind.u8 y0, EV.int IntKind.i64 y1] []) (K (.exit 0) [] []) n x0 x1 x2 x3
  | _, _ => False⟩
def r07_Named.d (a0 : List UInt8) (K : Int → Int → Prop) : Prop :=
  r07_All fun y0 y1 => ∃ n, r07_Named.l3 (fun y0 y1 => K y0 y1) (K 0 2) n a0 y0 y1 0
noncomputable def r07_Named : List UInt8 → (Int → Int → Prop) → Prop := Classical.choose (⟨r07_Named.d, rfl⟩ : ∃ f, f = r07_Named.d)
theorem r07_Named.is : r07_Named = r07_Named.d := Classical.choose_spec (⟨r07_Named.d, rfl⟩ : ∃ f, f = r07_Named.d)
def law07_ShapeNames.j4 (z0 : Nat) (z1 : Nat → Int) (K : Bool → Prop) : Prop :=
  br (leI (↑z0) 1) (K false) (gd (ltI 1 ↑z0) (br (!eqI 0 (z1 1)) (K false) (br (leI (↑z0) 2) (K false) (gd (ltI 2 ↑z0) (br (!eqI 1 (z1 2)) (K false) (br (leI (↑z0) 3) (K false) (gd (ltI 3 ↑z0) (br (!eqI 3 (z1 3)) (K false) (br (eqI 4 ↑z0) (law07_alive fun y0 => K y0) (K false))))))))))
def law07_ShapeNames.j8 (z0 : Nat) (z1 : Nat → Int) (K : Bool → Prop) : Prop :=
  br (leI (↑z0) 0) (K false) (gd (ltI 0 ↑z0) (br (!eqI 2 (z1 0)) (K false) (law07_ShapeNames.j4 z0 z1 K)))
def law07_ShapeNames.d (a0 : Int) (a1 : List UInt8) (a2 : Int) (K : Bool → Prop) : Prop :=
  law07_alive fun y0 => br (!y0) (K false) (shape_Name a0 fun y0 y1 => r07_Name a0 fun y0_1 y1_1 => shape_Named a1 fun y0_2 y1_2 => r07_Named a1 fun y0_3 y1_3 => br (!eqS y0 y0_1) (K false) (br (!eqI y1 y1_1) (K false) (br (!eqI y0_2 y0_3) (K false) (br (!eqI y1_2 y1_3) (K false) (r07_All fun y0 y1 => shape_All (br (leI (↑y0) 0) (K false) (gd (ltI 0 ↑y0) (br (!eqI 2 (y1 0)) (K false) (br (eqI 1 a2) (br (leI (↑y0) 0) (K false) (gd (ltI 0 ↑y0) (br (!eqI 2 (y1 0)) (K false) (law07_ShapeNames.j4 y0 y1 K)))) (br (leI (↑y0) 1) (K false) (gd (ltI 1 ↑y0) (br (!eqI 0 (y1 1)) (K false) (br (eqI 2 a2) (br (leI (↑y0) 0) (K false) (gd (ltI 0 ↑y0) (br (!eqI 2 (y1 0)) (K false) (law07_ShapeNames.j4 y0 y1 K)))) (br (leI (↑y0) 2) (K false) (gd (ltI 2 ↑y0) (br (!eqI 1 (y1 2)) (K false) (br (eqI 3 a2) (br (leI (↑y0) 0) (K false) (gd (ltI 0 ↑y0) (br (!eqI 2 (y1 0)) (K false) (law07_ShapeNames.j4 y0 y1 K)))) (br (leI (↑y0) 3) (K false) (gd (ltI 3 ↑y0) (br (!eqI 3 (y1 3)) (K false) (br (eqI 4 a2) (law07_ShapeNames.j8 y0 y1 K) (law07_ShapeNames.j8 y0 y1 K))))))))))))))))))))))
noncomputable def law07_ShapeNames : Int → List UInt8 → Int → (Bool → Prop) → Prop := Classical.choose (⟨law07_ShapeNames.d, rfl⟩ : ∃ f, f = law07_ShapeNames.d)
theorem law07_ShapeNames.is : law07_ShapeNames = law07_ShapeNames.d := Classical.choose_spec (⟨law07_ShapeNames.d, rfl⟩ : ∃ f, f = law07_ShapeNames.d)
end Go.Ev.S
