/- Is a register boxed as a format (the bits above it all ones)? -/
import Derived.Test.YtdnndfaojopnbaaEvC
import Derived.Test.YtdnndfaojopnbaaEvD
namespace Go.Ev.S
open Go Go.Ev
def bxm (f : Int) : Int × Int := cond (eqI f 2) (18446744073709551615, 18446744073709486080) (cond (eqI f 0) (18446744073709551615, 18446744069414584320) (cond (eqI f 1) (18446744073709551615, 0) (0, 0)))
def isb (f hi lo : Int) : Bool := eqI (andI .u64 hi (bxm f).1) (bxm f).1 && eqI (andI .u64 lo (bxm f).2) (bxm f).2
end Go.Ev.S

/- The functions as the evaluator has them: what each comes to. -/
set_option maxRecDepth 100000
set_option linter.unusedVariables false
set_option linter.unusedSimpArgs false
namespace Go.Ev.S
open Go Go.Ev
def shape_Check.d (a0 : Int) (K : Int → Prop) : Prop :=
  br (ltI 3 a0) (K 2) (K 0)
noncomputable def shape_Check : Int → (Int → Prop) → Prop := Classical.choose (⟨shape_Check.d, rfl⟩ : ∃ f, f = shape_Check.d)
theorem shape_Check.is : shape_Check = shape_Check.d := Classical.choose_spec (⟨shape_Check.d, rfl⟩ : ∃ f, f = shape_Check.d)
def shape_CheckMode.d (a0 : Int) (K : Int → Prop) : Prop :=
  br (ltI 4 a0) (K 2) (K 0)
noncomputable def shape_CheckMode : Int → (Int → Prop) → Prop := Classical.choose (⟨shape_CheckMode.d, rfl⟩ : ∃ f, f = shape_CheckMode.d)
def shape_numbers.d (a0 : Int) (K : Int → Int → Int → List UInt8 → Prop) : Prop :=
  br (leI 4 (cvI IntKind.i64 a0)) (K 0 0 0 []) (br (eqI a0 0) (br (eqI a0 0) (br (eqI a0 0) (br (eqI a0 0) (K 32 24 127 [115]) (br (eqI a0 1) (K 32 24 127 [100]) (br (eqI a0 2) (K 32 24 127 [104]) (br (eqI a0 3) (K 32 24 127 [113]) False)))) (br (eqI a0 1) (br (eqI a0 0) (K 32 24 1023 [115]) (br (eqI a0 1) (K 32 24 1023 [100]) (br (eqI a0 2) (K 32 24 1023 [104]) (br (eqI a0 3) (K 32 24 1023 [113]) False)))) (br (eqI a0 2) (br (eqI a0 0) (K 32 24 15 [115]) (br (eqI a0 1) (K 32 24 15 [100]) (br (eqI a0 2) (K 32 24 15 [104]) (br (eqI a0 3) (K 32 24 15 [113]) False)))) (br (eqI a0 3) (br (eqI a0 0) (K 32 24 16383 [115]) (br (eqI a0 1) (K 32 24 16383 [100]) (br (eqI a0 2) (K 32 24 16383 [104]) (br (eqI a0 3) (K 32 24 16383 [113]) False)))) False)))) (br (eqI a0 1) (br (eqI a0 0) (br (eqI a0 0) (K 32 53 127 [115]) (br (eqI a0 1) (K 32 53 127 [100]) (br (eqI a0 2) (K 32 53 127 [104]) (br (eqI a0 3) (K 32 53 127 [113]) False)))) (br (eqI a0 1) (br (eqI a0 0) (K 32 53 1023 [115]) (br (eqI a0 1) (K 32 53 1023 [100]) (br (eqI a0 2) (K 32 53 1023 [104]) (br (eqI a0 3) (K 32 53 1023 [113]) False)))) (br (eqI a0 2) (br (eqI a0 0) (K 32 53 15 [115]) (br (eqI a0 1) (K 32 53 15 [100]) (br (eqI a0 2) (K 32 53 15 [104]) (br (eqI a0 3) (K 32 53 15 [113]) False)))) (br (eqI a0 3) (br (eqI a0 0) (K 32 53 16383 [115]) (br (eqI a0 1) (K 32 53 16383 [100]) (br (eqI a0 2) (K 32 53 16383 [104]) (br (eqI a0 3) (K 32 53 16383 [113]) False)))) False)))) (br (eqI a0 2) (br (eqI a0 0) (br (eqI a0 0) (K 32 11 127 [115]) (br (eqI a0 1) (K 32 11 127 [100]) (br (eqI a0 2) (K 32 11 127 [104]) (br (eqI a0 3) (K 32 11 127 [113]) False)))) (br (eqI a0 1) (br (eqI a0 0) (K 32 11 1023 [115]) (br (eqI a0 1) (K 32 11 1023 [100]) (br (eqI a0 2) (K 32 11 1023 [104]) (br (eqI a0 3) (K 32 11 1023 [113]) False)))) (br (eqI a0 2) (br (eqI a0 0) (K 32 11 15 [115]) (br (eqI a0 1) (K 32 11 15 [100]) (br (eqI a0 2) (K 32 11 15 [104]) (br (eqI a0 3) (K 32 11 15 [113]) False)))) (br (eqI a0 3) (br (eqI a0 0) (K 32 11 16383 [115]) (br (eqI a0 1) (K 32 11 16383 [100]) (br (eqI a0 2) (K 32 11 16383 [104]) (br (eqI a0 3) (K 32 11 16383 [113]) False)))) False)))) (br (eqI a0 3) (br (eqI a0 0) (br (eqI a0 0) (K 32 113 127 [115]) (br (eqI a0 1) (K 32 113 127 [100]) (br (eqI a0 2) (K 32 113 127 [104]) (br (eqI a0 3) (K 32 113 127 [113]) False)))) (br (eqI a0 1) (br (eqI a0 0) (K 32 113 1023 [115]) (br (eqI a0 1) (K 32 113 1023 [100]) (br (eqI a0 2) (K 32 113 1023 [104]) (br (eqI a0 3) (K 32 113 1023 [113]) False)))) (br (eqI a0 2) (br (eqI a0 0) (K 32 113 15 [115]) (br (eqI a0 1) (K 32 113 15 [100]) (br (eqI a0 2) (K 32 113 15 [104]) (br (eqI a0 3) (K 32 113 15 [113]) False)))) (br (eqI a0 3) (br (eqI a0 0) (K 32 113 16383 [115]) (br (eqI a0 1) (K 32 113 16383 [100]) (br (eqI a0 2) (K 32 113 16383 [104]) (br (eqI a0 3) (K 32 113 16383 [113]) False)))) False)))) False)))) (br (eqI a0 1) (br (eqI a0 0) (br (eqI a0 0) (br (eqI a0 0) (K 64 24 127 [115]) (br (eqI a0 1) (K 64 24 127 [100]) (br (eqI a0 2) (K 64 24 127 [104]) (br (eqI a0 3) (K 64 24 127 [113]) False)))) (br (eqI a0 1) (br (eqI a0 0) (K 64 24 1023 [115]) (br (eqI a0 1) (K 64 24 1023 [100]) (br (eqI a0 2) (K 64 24 1023 [104]) (br (eqI a0 3) (K 64 24 1023 [113]) False)))) (br (eqI a0 2) (br (eqI a0 0) (K 64 24 15 [115]) (br (eqI a0 1) (K 64 24 15 [100]) (br (eqI a0 2) (K 64 24 15 [104]) (br (eqI a0 3) (K 64 24 15 [113]) False)))) (br (eqI a0 3) (br (eqI a0 0) (K 64 24 16383 [115]) (br (eqI a0 1) (K 64 24 16383 [100]) (br (eqI a0 2) (K 64 24 16383 [104]) (br (eqI a0 3) (K 64 24 16383 [113]) False)))) False)))) (br (eqI a0 1) (br (eqI a0 0) (br (eqI a0 0) (K 64 53 127 [115]) (br (eqI a0 1) (K 64 53 127 [100]) (br (eqI a0 2) (K 64 53 127 [104]) (br (eqI a0 3) (K 64 53 127 [113]) False)))) (br (eqI a0 1) (br (eqI a0 0) (K 64 53 1023 [115]) (br (eqI a0 1) (K 64 53 1023 [100]) (br (eqI a0 2) (K 64 53 1023 [104]) (br (eqI a0 3) (K 64 53 1023 [113]) False)))) (br (eqI a0 2) (br (eqI a0 0) (K 64 53 15 [115]) (br (eqI a0 1) (K 64 53 15 [100]) (br (eqI a0 2) (K 64 53 15 [104]) (br (eqI a0 3) (K 64 53 15 [113]) False)))) (br (eqI a0 3) (br (eqI a0 0) (K 64 53 16383 [115]) (br (eqI a0 1) (K 64 53 16383 [100]) (br (eqI a0 2) (K 64 53 16383 [104]) (br (eqI a0 3) (K 64 53 16383 [113]) False)))) False)))) (br (eqI a0 2) (br (eqI a0 0) (br (eqI a0 0) (K 64 11 127 [115]) (br (eqI a0 1) (K 64 11 127 [100]) (br (eqI a0 2) (K 64 11 127 [104]) (br (eqI a0 3) (K 64 11 127 [113]) False)))) (br (eqI a0 1) (br (eqI a0 0) (K 64 11 1023 [115]) (br (eqI a0 1) (K 64 11 1023 [100]) (br (eqI a0 2) (K 64 11 1023 [104]) (br (eqI a0 3) (K 64 11 1023 [113]) False)))) (br (eqI a0 2) (br (eqI a0 0) (K 64 11 15 [115]) (br (eqI a0 1) (K 64 11 15 [100]) (br (eqI a0 2) (K 64 11 15 [104]) (br (eqI a0 3) (K 64 11 15 [113]) False)))) (br (eqI a0 3) (br (eqI a0 0) (K 64 11 16383 [115]) (br (eqI a0 1) (K 64 11 16383 [100]) (br (eqI a0 2) (K 64 11 16383 [104]) (br (eqI a0 3) (K 64 11 16383 [113]) False)))) False)))) (br (eqI a0 3) (br (eqI a0 0) (br (eqI a0 0) (K 64 113 127 [115]) (br (eqI a0 1) (K 64 113 127 [100]) (br (eqI a0 2) (K 64 113 127 [104]) (br (eqI a0 3) (K 64 113 127 [113]) False)))) (br (eqI a0 1) (br (eqI a0 0) (K 64 113 1023 [115]) (br (eqI a0 1) (K 64 113 1023 [100]) (br (eqI a0 2) (K 64 113 1023 [104]) (br (eqI a0 3) (K 64 113 1023 [113]) False)))) (br (eqI a0 2) (br (eqI a0 0) (K 64 113 15 [115]) (br (eqI a0 1) (K 64 113 15 [100]) (br (eqI a0 2) (K 64 113 15 [104]) (br (eqI a0 3) (K 64 113 15 [113]) False)))) (br (eqI a0 3) (br (eqI a0 0) (K 64 113 16383 [115]) (br (eqI a0 1) (K 64 113 16383 [100]) (br (eqI a0 2) (K 64 113 16383 [104]) (br (eqI a0 3) (K 64 113 16383 [113]) False)))) False)))) False)))) (br (eqI a0 2) (br (eqI a0 0) (br (eqI a0 0) (br (eqI a0 0) (K 16 24 127 [115]) (br (eqI a0 1) (K 16 24 127 [100]) (br (eqI a0 2) (K 16 24 127 [104]) (br (eqI a0 3) (K 16 24 127 [113]) False)))) (br (eqI a0 1) (br (eqI a0 0) (K 16 24 1023 [115]) (br (eqI a0 1) (K 16 24 1023 [100]) (br (eqI a0 2) (K 16 24 1023 [104]) (br (eqI a0 3) (K 16 24 1023 [113]) False)))) (br (eqI a0 2) (br (eqI a0 0) (K 16 24 15 [115]) (br (eqI a0 1) (K 16 24 15 [100]) (br (eqI a0 2) (K 16 24 15 [104]) (br (eqI a0 3) (K 16 24 15 [113]) False)))) (br (eqI a0 3) (br (eqI a0 0) (K 16 24 16383 [115]) (br (eqI a0 1) (K 16 24 16383 [100]) (br (eqI a0 2) (K 16 24 16383 [104]) (br (eqI a0 3) (K 16 24 16383 [113]) False)))) False)))) (br (eqI a0 1) (br (eqI a0 0) (br (eqI a0 0) (K 16 53 127 [115]) (br (eqI a0 1) (K 16 53 127 [100]) (br (eqI a0 2) (K 16 53 127 [104]) (br (eqI a0 3) (K 16 53 127 [113]) False)))) (br (eqI a0 1) (br (eqI a0 0) (K 16 53 1023 [115]) (br (eqI a0 1) (K 16 53 1023 [100]) (br (eqI a0 2) (K 16 53 1023 [104]) (br (eqI a0 3) (K 16 53 1023 [113]) False)))) (br (eqI a0 2) (br (eqI a0 0) (K 16 53 15 [115]) (br (eqI a0 1) (K 16 53 15 [100]) (br (eqI a0 2) (K 16 53 15 [104]) (br (eqI a0 3) (K 16 53 15 [113]) False)))) (br (eqI a0 3) (br (eqI a0 0) (K 16 53 16383 [115]) (br (eqI a0 1) (K 16 53 16383 [100]) (br (eqI a0 2) (K 16 53 16383 [104]) (br (eqI a0 3) (K 16 53 16383 [113]) False)))) False)))) (br (eqI a0 2) (br (eqI a0 0) (br (eqI a0 0) (K 16 11 127 [115]) (br (eqI a0 1) (K 16 11 127 [100]) (br (eqI a0 2) (K 16 11 127 [104]) (br (eqI a0 3) (K 16 11 127 [113]) False)))) (br (eqI a0 1) (br (eqI a0 0) (K 16 11 1023 [115]) (br (eqI a0 1) (K 16 11 1023 [100]) (br (eqI a0 2) (K 16 11 1023 [104]) (br (eqI a0 3) (K 16 11 1023 [113]) False)))) (br (eqI a0 2) (br (eqI a0 0) (K 16 11 15 [115]) (br (eqI a0 1) (K 16 11 15 [100]) (br (eqI a0 2) (K 16 11 15 [104]) (br (eqI a0 3) (K 16 11 15 [113]) False)))) (br (eqI a0 3) (br (eqI a0 0) (K 16 11 16383 [115]) (br (eqI a0 1) (K 16 11 16383 [100]) (br (eqI a0 2) (K 16 11 16383 [104]) (br (eqI a0 3) (K 16 11 16383 [113]) False)))) False)))) (br (eqI a0 3) (br (eqI a0 0) (br (eqI a0 0) (K 16 113 127 [115]) (br (eqI a0 1) (K 16 113 127 [100]) (br (eqI a0 2) (K 16 113 127 [104]) (br (eqI a0 3) (K 16 113 127 [113]) False)))) (br (eqI a0 1) (br (eqI a0 0) (K 16 113 1023 [115]) (br (eqI a0 1) (K 16 113 1023 [100]) (br (eqI a0 2) (K 16 113 1023 [104]) (br (eqI a0 3) (K 16 113 1023 [113]) False)))) (br (eqI a0 2) (br (eqI a0 0) (K 16 113 15 [115]) (br (eqI a0 1) (K 16 113 15 [100]) (br (eqI a0 2) (K 16 113 15 [104]) (br (eqI a0 3) (K 16 113 15 [113]) False)))) (br (eqI a0 3) (br (eqI a0 0) (K 16 113 16383 [115]) (br (eqI a0 1) (K 16 113 16383 [100]) (br (eqI a0 2) (K 16 113 16383 [104]) (br (eqI a0 3) (K 16 113 16383 [113]) False)))) False)))) False)))) (br (eqI a0 3) (br (eqI a0 0) (br (eqI a0 0) (br (eqI a0 0) (K 128 24 127 [115]) (br (eqI a0 1) (K 128 24 127 [100]) (br (eqI a0 2) (K 128 24 127 [104]) (br (eqI a0 3) (K 128 24 127 [113]) False)))) (br (eqI a0 1) (br (eqI a0 0) (K 128 24 1023 [115]) (br (eqI a0 1) (K 128 24 1023 [100]) (br (eqI a0 2) (K 128 24 1023 [104]) (br (eqI a0 3) (K 128 24 1023 [113]) False)))) (br (eqI a0 2) (br (eqI a0 0) (K 128 24 15 [115]) (br (eqI a0 1) (K 128 24 15 [100]) (br (eqI a0 2) (K 128 24 15 [104]) (br (eqI a0 3) (K 128 24 15 [113]) False)))) (br (eqI a0 3) (br (eqI a0 0) (K 128 24 16383 [115]) (br (eqI a0 1) (K 128 24 16383 [100]) (br (eqI a0 2) (K 128 24 16383 [104]) (br (eqI a0 3) (K 128 24 16383 [113]) False)))) False)))) (br (eqI a0 1) (br (eqI a0 0) (br (eqI a0 0) (K 128 53 127 [115]) (br (eqI a0 1) (K 128 53 127 [100]) (br (eqI a0 2) (K 128 53 127 [104]) (br (eqI a0 3) (K 128 53 127 [113]) False)))) (br (eqI a0 1) (br (eqI a0 0) (K 128 53 1023 [115]) (br (eqI a0 1) (K 128 53 1023 [100]) (br (eqI a0 2) (K 128 53 1023 [104]) (br (eqI a0 3) (K 128 53 1023 [113]) False)))) (br (eqI a0 2) (br (eqI a0 0) (K 128 53 15 [115]) (br (eqI a0 1) (K 128 53 15 [100]) (br (eqI a0 2) (K 128 53 15 [104]) (br (eqI a0 3) (K 128 53 15 [113]) False)))) (br (eqI a0 3) (br (eqI a0 0) (K 128 53 16383 [115]) (br (eqI a0 1) (K 128 53 16383 [100]) (br (eqI a0 2) (K 128 53 16383 [104]) (br (eqI a0 3) (K 128 53 16383 [113]) False)))) False)))) (br (eqI a0 2) (br (eqI a0 0) (br (eqI a0 0) (K 128 11 127 [115]) (br (eqI a0 1) (K 128 11 127 [100]) (br (eqI a0 2) (K 128 11 127 [104]) (br (eqI a0 3) (K 128 11 127 [113]) False)))) (br (eqI a0 1) (br (eqI a0 0) (K 128 11 1023 [115]) (br (eqI a0 1) (K 128 11 1023 [100]) (br (eqI a0 2) (K 128 11 1023 [104]) (br (eqI a0 3) (K 128 11 1023 [113]) False)))) (br (eqI a0 2) (br (eqI a0 0) (K 128 11 15 [115]) (br (eqI a0 1) (K 128 11 15 [100]) (br (eqI a0 2) (K 128 11 15 [104]) (br (eqI a0 3) (K 128 11 15 [113]) False)))) (br (eqI a0 3) (br (eqI a0 0) (K 128 11 16383 [115]) (br (eqI a0 1) (K 128 11 16383 [100]) (br (eqI a0 2) (K 128 11 16383 [104]) (br (eqI a0 3) (K 128 11 16383 [113]) False)))) False)))) (br (eqI a0 3) (br (eqI a0 0) (br (eqI a0 0) (K 128 113 127 [115]) (br (eqI a0 1) (K 128 113 127 [100]) (br (eqI a0 2) (K 128 113 127 [104]) (br (eqI a0 3) (K 128 113 127 [113]) False)))) (br (eqI a0 1) (br (eqI a0 0) (K 128 113 1023 [115]) (br (eqI a0 1) (K 128 113 1023 [100]) (br (eqI a0 2) (K 128 113 1023 [104]) (br (eqI a0 3) (K 128 113 1023 [113]) False)))) (br (eqI a0 2) (br (eqI a0 0) (K 128 113 15 [115]) (br (eqI a0 1) (K 128 113 15 [100]) (br (eqI a0 2) (K 128 113 15 [104]) (br (eqI a0 3) (K 128 113 15 [113]) False)))) (br (eqI a0 3) (br (eqI a0 0) (K 128 113 16383 [115]) (br (eqI a0 1) (K 128 113 16383 [100]) (br (eqI a0 2) (K 128 113 16383 [104]) (br (eqI a0 3) (K 128 113 16383 [113]) False)))) False)))) False)))) False))))
noncomputable def shape_numbers : Int → (Int → Int → Int → List UInt8 → Prop) → Prop := Classical.choose (⟨shape_numbers.d, rfl⟩ : ∃ f, f = shape_numbers.d)
theorem shape_numbers.is : shape_numbers = shape_numbers.d := Classical.choose_spec (⟨shape_numbers.d, rfl⟩ : ∃ f, f = shape_numbers.d)
def shape_Emax.d (a0 : Int) (K : Int → Prop) : Prop :=
  shape_numbers a0 fun y0 y1 y2 y3 => K y2
noncomputable def shape_Emax : Int → (Int → Prop) → Prop := Classical.choose (⟨shape_Emax.d, rfl⟩ : ∃ f, f = shape_Emax.d)
theorem shape_Emax.is : shape_Emax = shape_Emax.d := Classical.choose_spec (⟨shape_Emax.d, rfl⟩ : ∃ f, f = shape_Emax.d)
def shape_Width.d (a0 : Int) (K : Int → Prop) : Prop :=
  shape_numbers a0 fun y0 y1 y2 y3 => K y0
noncomputable def shape_Width : Int → (Int → Prop) → Prop := Classical.choose (⟨shape_Width.d, rfl⟩ : ∃ f, f = shape_Width.d)
theorem shape_Width.is : shape_Width = shape_Width.d := Classical.choose_spec (⟨shape_Width.d, rfl⟩ : ∃ f, f = shape_Width.d)
def shape_Fits.d (a0 : Int) (a1_0 : Int) (a1_1 : Int) (K : Bool → Prop) : Prop :=
  br (eqI a0 3) (K true) (br (eqI a0 1) (K (eqI a1_0 0)) (br (eqI a0 0) (br (eqI a0 0) (br (eqI a1_0 0) (shape_Width a0 fun y0 => gd (!ltI (cvI IntKind.u64 y0) 0) (K (eqI (shrI IntKind.u64 a1_1 (cvI IntKind.u64 y0)) 0))) (K false)) (K false)) (br (eqI a0 2) (br (eqI a1_0 0) (shape_Width a0 fun y0 => gd (!ltI (cvI IntKind.u64 y0) 0) (K (eqI (shrI IntKind.u64 a1_1 (cvI IntKind.u64 y0)) 0))) (K false)) (K false))))
noncomputable def shape_Fits : Int → Int → Int → (Bool → Prop) → Prop := Classical.choose (⟨shape_Fits.d, rfl⟩ : ∃ f, f = shape_Fits.d)
theorem shape_Fits.is : shape_Fits = shape_Fits.d := Classical.choose_spec (⟨shape_Fits.d, rfl⟩ : ∃ f, f = shape_Fits.d)
def shape_Precision.d (a0 : Int) (K : Int → Prop) : Prop :=
  shape_numbers a0 fun y0 y1 y2 y3 => K y1
noncomputable def shape_Precision : Int → (Int → Prop) → Prop := Classical.choose (⟨shape_Precision.d, rfl⟩ : ∃ f, f = shape_Precision.d)
theorem shape_Precision.is : shape_Precision = shape_Precision.d := Classical.choose_spec (⟨shape_Precision.d, rfl⟩ : ∃ f, f = shape_Precision.d)
def shape_at.d (a0 : Int) (a1 : Int) (K : Int → Int → Prop) : Prop :=
  br (leI 64 a1) (gd (!ltI (cvI IntKind.u64 (subI IntKind.i64 a1 64)) 0) (K (shlI IntKind.u64 a0 (cvI IntKind.u64 (subI IntKind.i64 a1 64))) 0)) (gd (!ltI (cvI IntKind.u64 a1) 0) (br (ltI 0 a1) (gd (!ltI (cvI IntKind.u64 (subI IntKind.i64 64 a1)) 0) (K (shrI IntKind.u64 a0 (cvI IntKind.u64 (subI IntKind.i64 64 a1))) (shlI IntKind.u64 a0 (cvI IntKind.u64 a1)))) (K 0 (shlI IntKind.u64 a0 (cvI IntKind.u64 a1)))))
noncomputable def shape_at : Int → Int → (Int → Int → Prop) → Prop := Classical.choose (⟨shape_at.d, rfl⟩ : ∃ f, f = shape_at.d)
theorem shape_at.is : shape_at = shape_at.d := Classical.choose_spec (⟨shape_at.d, rfl⟩ : ∃ f, f = shape_at.d)
def shape_NaN.d (a0 : Int) (K : Int → Int → Prop) : Prop :=
  shape_Check a0 fun y0 => br (!eqI y0 0) (K 0 0) (shape_Emax a0 fun y0 => shape_Precision a0 fun y0_1 => shape_at (cvI IntKind.u64 (addI IntKind.i64 (mulI IntKind.i64 4 y0) 3)) (subI IntKind.i64 y0_1 2) fun y0 y1 => K y0 y1)
noncomputable def shape_NaN : Int → (Int → Int → Prop) → Prop := Classical.choose (⟨shape_NaN.d, rfl⟩ : ∃ f, f = shape_NaN.d)
theorem shape_NaN.is : shape_NaN = shape_NaN.d := Classical.choose_spec (⟨shape_NaN.d, rfl⟩ : ∃ f, f = shape_NaN.d)
end Go.Ev.S

/- The functions as the evaluator has them: what each comes to. -/
set_option maxRecDepth 100000
set_option linter.unusedVariables false
set_option linter.unusedSimpArgs false
namespace Go.Ev.S
open Go Go.Ev
end Go.Ev.S

/- The functions as the evaluator has them: what each comes to. -/
set_option maxRecDepth 100000
set_option linter.unusedVariables false
set_option linter.unusedSimpArgs false
namespace Go.Ev.S
open Go Go.Ev
end Go.Ev.S

/- The functions as the evaluator has them: what each comes to. -/
set_option maxRecDepth 100000
set_option linter.unusedVariables false
set_option linter.unusedSimpArgs false
namespace Go.Ev.S
open Go Go.Ev
end Go.Ev.S

/- The functions as the evaluator has them: what each comes to. -/
set_option maxRecDepth 100000
set_option linter.unusedVariables false
set_option linter.unusedSimpArgs false
namespace Go.Ev.S
open Go Go.Ev
def r22_Width.d (a0 : Int) (K : Int → Prop) : Prop :=
  br (eqI a0 2) (K 16) (br (eqI a0 0) (K 32) (br (eqI a0 1) (K 64) (br (eqI a0 3) (K 128) (K 0))))
noncomputable def r22_Width : Int → (Int → Prop) → Prop := Classical.choose (⟨r22_Width.d, rfl⟩ : ∃ f, f = r22_Width.d)
theorem r22_Width.is : r22_Width = r22_Width.d := Classical.choose_spec (⟨r22_Width.d, rfl⟩ : ∃ f, f = r22_Width.d)
def r22_with.d (a0_0 : Int) (a0_1 : Int) (a1 : Int) (K : Int → Int → Prop) : Prop :=
  br (ltI a1 64) (gd (!ltI a1 0) (K a0_0 (orI IntKind.u64 a0_1 (shlI IntKind.u64 1 a1)))) (gd (!ltI (subI IntKind.i64 a1 64) 0) (K (orI IntKind.u64 a0_0 (shlI IntKind.u64 1 (subI IntKind.i64 a1 64))) a0_1))
noncomputable def r22_with : Int → Int → Int → (Int → Int → Prop) → Prop := Classical.choose (⟨r22_with.d, rfl⟩ : ∃ f, f = r22_with.d)
theorem r22_with.is : r22_with = r22_with.d := Classical.choose_spec (⟨r22_with.d, rfl⟩ : ∃ f, f = r22_with.d)
def r22_Above.l3.step (again : Int → Int → Int → Int → Int → Prop) (k0 : Int → Int → Int → Int → Prop) (x0 : Int) (x1 : Int) (x2 : Int) (x3 : Int) (x4 : Int) : Prop :=
  br (ltI x0 128) (r22_with x3 x4 x0 fun y0 y1 => again (addI IntKind.i64 x0 1) x1 x2 y0 y1) (k0 x1 x2 x3 x4)
def r22_Above.l3 (k0 : Int → Int → Int → Int → Prop) : Nat → Int → Int → Int → Int → Int → Prop
  | 0 => fun _ _ _ _ _ => False
  | n + 1 => r22_Above.l3.step (r22_Above.l3 k0 n) k0
def r22_Above.l3.entry : LoopEntry := ⟨LV.mk 12 [(0, 12)] 4 0 false, 0, 15, fun vs H K => match vs, H with
  | [EV.ptr 0 [], EV.ptr 1 [], EV.int IntKind.i64 x0], [some (EV.agg [EV.int IntKind.u64 x1, EV.int IntKind.u64 x2]), some (EV.agg [EV.int IntKind.u64 x3, EV.int IntKind.u64 x4])] => ∃ n, r22_Above.l3 (fun y0 y1 y2 y3 => K (.exit 0) [EV.ptr 0 [], EV.ptr 1 []] [some (EV.agg [EV.int IntKind.u64 y0, EV.int IntKind.u64 y1]), some (EV.agg [EV.int IntKind.u64 y2, EV.int IntKind.u64 y3])]) n x0 x1 x2 x3 x4
  | _, _ => False⟩
def r22_Above.d (a0 : Int) (K : Int → Int → Prop) : Prop :=
  r22_Width a0 fun y0 => ∃ n, r22_Above.l3 (fun y0 y1 y2 y3 => K y2 y3) n y0 0 0 0 0
noncomputable def r22_Above : Int → (Int → Int → Prop) → Prop := Classical.choose (⟨r22_Above.d, rfl⟩ : ∃ f, f = r22_Above.d)
def r22_Bit.d (a0_0 : Int) (a0_1 : Int) (a1 : Int) (K : Bool → Prop) : Prop :=
  br (ltI a1 64) (gd (!ltI a1 0) (K (eqI (andI IntKind.u64 (shrI IntKind.u64 a0_1 a1) 1) 1))) (gd (!ltI (subI IntKind.i64 a1 64) 0) (K (eqI (andI IntKind.u64 (shrI IntKind.u64 a0_0 (subI IntKind.i64 a1 64)) 1) 1)))
noncomputable def r22_Bit : Int → Int → Int → (Bool → Prop) → Prop := Classical.choose (⟨r22_Bit.d, rfl⟩ : ∃ f, f = r22_Bit.d)
theorem r22_Bit.is : r22_Bit = r22_Bit.d := Classical.choose_spec (⟨r22_Bit.d, rfl⟩ : ∃ f, f = r22_Bit.d)
def r22_Box.l2.step (again : Int → Int → Int → Int → Int → Prop) (k0 : Int → Int → Int → Int → Prop) (x0 : Int) (x1 : Int) (x2 : Int) (x3 : Int) (x4 : Int) : Prop :=
  br (ltI x0 128) (r22_with x1 x2 x0 fun y0 y1 => again (addI IntKind.i64 x0 1) y0 y1 x3 x4) (k0 x1 x2 x3 x4)
def r22_Box.l2 (k0 : Int → Int → Int → Int → Prop) : Nat → Int → Int → Int → Int → Int → Prop
  | 0 => fun _ _ _ _ _ => False
  | n + 1 => r22_Box.l2.step (r22_Box.l2 k0 n) k0
def r22_Box.l2.entry : LoopEntry := ⟨LV.mk 24 [(0, 24)] 16 0 false, 0, 16, fun vs H K => match vs, H with
  | [EV.ptr 0 [], EV.ptr 1 [], EV.int IntKind.i64 x0], [some (EV.agg [EV.int IntKind.u64 x1, EV.int IntKind.u64 x2]), some (EV.agg [EV.int IntKind.u64 x3, EV.int IntKind.u64 x4])] => ∃ n, r22_Box.l2 (fun y0 y1 y2 y3 => K (.exit 0) [EV.ptr 0 [], EV.ptr 1 []] [some (EV.agg [EV.int IntKind.u64 y0, EV.int IntKind.u64 y1]), some (EV.agg [EV.int IntKind.u64 y2, EV.int IntKind.u64 y3])]) n x0 x1 x2 x3 x4
  | _, _ => False⟩
def r22_Box.d (a0 : Int) (a1_0 : Int) (a1_1 : Int) (K : Int → Int → Prop) : Prop :=
  r22_Width a0 fun y0 => ∃ n, r22_Box.l2 (fun y0 y1 y2 y3 => K y0 y1) n y0 a1_0 a1_1 0 0
noncomputable def r22_Box : Int → Int → Int → (Int → Int → Prop) → Prop := Classical.choose (⟨r22_Box.d, rfl⟩ : ∃ f, f = r22_Box.d)
theorem r22_Box.is : r22_Box = r22_Box.d := Classical.choose_spec (⟨r22_Box.d, rfl⟩ : ∃ f, f = r22_Box.d)
def r22_Fits.l2.step (again : Int → Int → Int → Int → Prop) (k0 : Bool → Prop) (k1 : Int → Prop) (x0 : Int) (x1 : Int) (x2 : Int) (x3 : Int) : Prop :=
  br (ltI x1 128) (r22_Bit x2 x3 x1 fun y0 => br y0 (k0 false) (again x0 (addI IntKind.i64 x1 1) x2 x3)) (k1 x0)
def r22_Fits.l2 (k0 : Bool → Prop) (k1 : Int → Prop) : Nat → Int → Int → Int → Int → Prop
  | 0 => fun _ _ _ _ => False
  | n + 1 => r22_Fits.l2.step (r22_Fits.l2 k0 k1 n) k0 k1
def r22_Fits.l2.entry : LoopEntry := ⟨LV.mk 1 [(0, 1)] 16 0 false, 0, 18, fun vs H K => match vs, H with
  | [EV.int IntKind.u8 x0, EV.ptr 0 [], EV.int IntKind.i64 x1], [some (EV.agg [EV.int IntKind.u64 x2, EV.int IntKind.u64 x3])] => ∃ n, r22_Fits.l2 (fun y0 => K .ret [EV.bool y0] []) (fun y0 => K (.exit 0) [EV.int IntKind.u8 y0] []) n x0 x1 x2 x3
  | _, _ => False⟩
def r22_Fits.d (a0 : Int) (a1_0 : Int) (a1_1 : Int) (K : Bool → Prop) : Prop :=
  r22_Width a0 fun y0 => ∃ n, r22_Fits.l2 (fun y0 => K y0) (fun y0 => r22_Width y0 fun y0 => K (ltI 0 y0)) n a0 y0 a1_0 a1_1
noncomputable def r22_Fits : Int → Int → Int → (Bool → Prop) → Prop := Classical.choose (⟨r22_Fits.d, rfl⟩ : ∃ f, f = r22_Fits.d)
def r22_IsBoxed.l2.step (again : Int → Int → Int → Int → Prop) (k0 : Bool → Prop) (k1 : Int → Prop) (x0 : Int) (x1 : Int) (x2 : Int) (x3 : Int) : Prop :=
  br (ltI x1 128) (r22_Bit x2 x3 x1 fun y0 => br (!y0) (k0 false) (again x0 (addI IntKind.i64 x1 1) x2 x3)) (k1 x0)
def r22_IsBoxed.l2 (k0 : Bool → Prop) (k1 : Int → Prop) : Nat → Int → Int → Int → Int → Prop
  | 0 => fun _ _ _ _ => False
  | n + 1 => r22_IsBoxed.l2.step (r22_IsBoxed.l2 k0 k1 n) k0 k1
def r22_IsBoxed.l2.entry : LoopEntry := ⟨LV.mk 1 [(0, 1)] 16 0 false, 0, 19, fun vs H K => match vs, H with
  | [EV.int IntKind.u8 x0, EV.ptr 0 [], EV.int IntKind.i64 x1], [some (EV.agg [EV.int IntKind.u64 x2, EV.int IntKind.u64 x3])] => ∃ n, r22_IsBoxed.l2 (fun y0 => K .ret [EV.bool y0] []) (fun y0 => K (.exit 0) [EV.int IntKind.u8 y0] []) n x0 x1 x2 x3
  | _, _ => False⟩
def r22_IsBoxed.d (a0 : Int) (a1_0 : Int) (a1_1 : Int) (K : Bool → Prop) : Prop :=
  r22_Width a0 fun y0 => ∃ n, r22_IsBoxed.l2 (fun y0 => K y0) (fun y0 => r22_Width y0 fun y0 => K (ltI 0 y0)) n a0 y0 a1_0 a1_1
noncomputable def r22_IsBoxed : Int → Int → Int → (Bool → Prop) → Prop := Classical.choose (⟨r22_IsBoxed.d, rfl⟩ : ∃ f, f = r22_IsBoxed.d)
theorem r22_IsBoxed.is : r22_IsBoxed = r22_IsBoxed.d := Classical.choose_spec (⟨r22_IsBoxed.d, rfl⟩ : ∃ f, f = r22_IsBoxed.d)
def r22_Low.l3.step (again : Int → Int → Int → Int → Int → Int → Int → Int → Prop) (k0 : Int → Int → Int → Int → Prop) (x0 : Int) (x1 : Int) (x2 : Int) (x3 : Int) (x4 : Int) (x5 : Int) (x6 : Int) (x7 : Int) : Prop :=
  r22_Width x0 fun y0 => br (ltI x1 y0) (r22_Bit x2 x3 x1 fun y0 => br y0 (r22_with x6 x7 x1 fun y0 y1 => again x0 (addI IntKind.i64 x1 1) x2 x3 x4 x5 y0 y1) (again x0 (addI IntKind.i64 x1 1) x2 x3 x4 x5 x6 x7)) (k0 x4 x5 x6 x7)
def r22_Low.l3 (k0 : Int → Int → Int → Int → Prop) : Nat → Int → Int → Int → Int → Int → Int → Int → Int → Prop
  | 0 => fun _ _ _ _ _ _ _ _ => False
  | n + 1 => r22_Low.l3.step (r22_Low.l3 k0 n) k0
def r22_Low.l3.entry : LoopEntry := ⟨LV.mk 48 [(0, 48)] 16 0 false, 0, 20, fun vs H K => match vs, H with
  | [EV.int IntKind.u8 x0, EV.ptr 0 [], EV.ptr 1 [], EV.ptr 2 [], EV.int IntKind.i64 x1], [some (EV.agg [EV.int IntKind.u64 x2, EV.int IntKind.u64 x3]), some (EV.agg [EV.int IntKind.u64 x4, EV.int IntKind.u64 x5]), some (EV.agg [EV.int IntKind.u64 x6, EV.int IntKind.u64 x7])] => ∃ n, r22_Low.l3 (fun y0 y1 y2 y3 => K (.exit 0) [EV.ptr 0 [], EV.ptr 1 []] [some (EV.agg [EV.int IntKind.u64 y0, EV.int IntKind.u64 y1]), some (EV.agg [EV.int IntKind.u64 y2, EV.int IntKind.u64 y3])]) n x0 x1 x2 x3 x4 x5 x6 x7
  | _, _ => False⟩
def r22_Low.d (a0 : Int) (a1_0 : Int) (a1_1 : Int) (K : Int → Int → Prop) : Prop :=
  ∃ n, r22_Low.l3 (fun y0 y1 y2 y3 => K y2 y3) n a0 0 a1_0 a1_1 0 0 0 0
noncomputable def r22_Low : Int → Int → Int → (Int → Int → Prop) → Prop := Classical.choose (⟨r22_Low.d, rfl⟩ : ∃ f, f = r22_Low.d)
theorem r22_Low.is : r22_Low = r22_Low.d := Classical.choose_spec (⟨r22_Low.d, rfl⟩ : ∃ f, f = r22_Low.d)
def r22_NaN.l11.step (again : Int → Int → Int → Int → Int → Int → Prop) (k0 : Int → Int → Int → Int → Prop) (x0 : Int) (x1 : Int) (x2 : Int) (x3 : Int) (x4 : Int) (x5 : Int) : Prop :=
  r22_Width x0 fun y0 => br (ltI x1 (subI IntKind.i64 y0 1)) (r22_with x4 x5 x1 fun y0 y1 => again x0 (addI IntKind.i64 x1 1) x2 x3 y0 y1) (k0 x2 x3 x4 x5)
def r22_NaN.l11 (k0 : Int → Int → Int → Int → Prop) : Nat → Int → Int → Int → Int → Int → Int → Prop
  | 0 => fun _ _ _ _ _ _ => False
  | n + 1 => r22_NaN.l11.step (r22_NaN.l11 k0 n) k0
def r22_NaN.l11.entry : LoopEntry := ⟨LV.mk 20 [(1, 20)] 4 0 false, 0, 26, fun vs H K => match vs, H with
  | [EV.int IntKind.u8 x0, EV.ptr 0 [], EV.ptr 1 [], EV.int IntKind.i64 x1], [some (EV.agg [EV.int IntKind.u64 x2, EV.int IntKind.u64 x3]), some (EV.agg [EV.int IntKind.u64 x4, EV.int IntKind.u64 x5])] => ∃ n, r22_NaN.l11 (fun y0 y1 y2 y3 => K (.exit 1) [EV.ptr 0 [], EV.ptr 1 []] [some (EV.agg [EV.int IntKind.u64 y0, EV.int IntKind.u64 y1]), some (EV.agg [EV.int IntKind.u64 y2, EV.int IntKind.u64 y3])]) n x0 x1 x2 x3 x4 x5
  | _, _ => False⟩
def r22_NaN.d (a0 : Int) (K : Int → Int → Prop) : Prop :=
  br (eqI a0 0) (∃ n, r22_NaN.l11 (fun y0 y1 y2 y3 => K y2 y3) n a0 22 0 0 0 0) (br (eqI a0 1) (∃ n, r22_NaN.l11 (fun y0 y1 y2 y3 => K y2 y3) n a0 51 0 0 0 0) (br (eqI a0 3) (∃ n, r22_NaN.l11 (fun y0 y1 y2 y3 => K y2 y3) n a0 111 0 0 0 0) (∃ n, r22_NaN.l11 (fun y0 y1 y2 y3 => K y2 y3) n a0 9 0 0 0 0)))
noncomputable def r22_NaN : Int → (Int → Int → Prop) → Prop := Classical.choose (⟨r22_NaN.d, rfl⟩ : ∃ f, f = r22_NaN.d)
theorem r22_NaN.is : r22_NaN = r22_NaN.d := Classical.choose_spec (⟨r22_NaN.d, rfl⟩ : ∃ f, f = r22_NaN.d)
def r22_Unbox.d (a0 : Int) (a1_0 : Int) (a1_1 : Int) (K : Int → Int → Prop) : Prop :=
  r22_IsBoxed a0 a1_0 a1_1 fun y0 => br y0 (r22_Low a0 a1_0 a1_1 fun y0 y1 => K y0 y1) (r22_NaN a0 fun y0 y1 => K y0 y1)
noncomputable def r22_Unbox : Int → Int → Int → (Int → Int → Prop) → Prop := Classical.choose (⟨r22_Unbox.d, rfl⟩ : ∃ f, f = r22_Unbox.d)
theorem r22_Unbox.is : r22_Unbox = r22_Unbox.d := Classical.choose_spec (⟨r22_Unbox.d, rfl⟩ : ∃ f, f = r22_Unbox.d)
end Go.Ev.S

/- The functions as the evaluator has them: what each comes to. -/
set_option maxRecDepth 100000
set_option linter.unusedVariables false
set_option linter.unusedSimpArgs false
namespace Go.Ev.S
open Go Go.Ev
def box_above.d (a0 : Int) (K : Int → Int → Prop) : Prop :=
  br (eqI a0 0) (K 18446744073709551615 18446744069414584320) (br (eqI a0 1) (K 18446744073709551615 0) (br (eqI a0 2) (K 18446744073709551615 18446744073709486080) (br (eqI a0 3) (K 0 0) False)))
noncomputable def box_above : Int → (Int → Int → Prop) → Prop := Classical.choose (⟨box_above.d, rfl⟩ : ∃ f, f = box_above.d)
theorem box_above.is : box_above = box_above.d := Classical.choose_spec (⟨box_above.d, rfl⟩ : ∃ f, f = box_above.d)
def box_Above.d (a0 : Int) (K : Int → Int → Int → Prop) : Prop :=
  shape_Check a0 fun y0 => br (!eqI y0 0) (K 0 0 2) (box_above a0 fun y0 y1 => K y0 y1 0)
noncomputable def box_Above : Int → (Int → Int → Int → Prop) → Prop := Classical.choose (⟨box_Above.d, rfl⟩ : ∃ f, f = box_Above.d)
theorem box_Above.is : box_Above = box_Above.d := Classical.choose_spec (⟨box_Above.d, rfl⟩ : ∃ f, f = box_Above.d)
def box_Box.d (a0 : Int) (a1_0 : Int) (a1_1 : Int) (K : Int → Int → Int → Prop) : Prop :=
  shape_Fits a0 a1_0 a1_1 fun y0 => br (!y0) (K 0 0 2) (box_above a0 fun y0 y1 => K (orI IntKind.u64 a1_0 y0) (orI IntKind.u64 a1_1 y1) 0)
noncomputable def box_Box : Int → Int → Int → (Int → Int → Int → Prop) → Prop := Classical.choose (⟨box_Box.d, rfl⟩ : ∃ f, f = box_Box.d)
theorem box_Box.is : box_Box = box_Box.d := Classical.choose_spec (⟨box_Box.d, rfl⟩ : ∃ f, f = box_Box.d)
def box_IsBoxed.d (a0 : Int) (a1_0 : Int) (a1_1 : Int) (K : Bool → Prop) : Prop :=
  box_Above a0 fun y0 y1 y2 => br (eqI y2 0) (K (eqI (andI IntKind.u64 a1_0 y0) y0 && eqI (andI IntKind.u64 a1_1 y1) y1)) (K false)
noncomputable def box_IsBoxed : Int → Int → Int → (Bool → Prop) → Prop := Classical.choose (⟨box_IsBoxed.d, rfl⟩ : ∃ f, f = box_IsBoxed.d)
theorem box_IsBoxed.is : box_IsBoxed = box_IsBoxed.d := Classical.choose_spec (⟨box_IsBoxed.d, rfl⟩ : ∃ f, f = box_IsBoxed.d)
def box_Low.d (a0 : Int) (a1_0 : Int) (a1_1 : Int) (K : Int → Int → Int → Prop) : Prop :=
  box_Above a0 fun y0 y1 y2 => br (!eqI y2 0) (K 0 0 y2) (K (andNotI IntKind.u64 a1_0 y0) (andNotI IntKind.u64 a1_1 y1) 0)
noncomputable def box_Low : Int → Int → Int → (Int → Int → Int → Prop) → Prop := Classical.choose (⟨box_Low.d, rfl⟩ : ∃ f, f = box_Low.d)
theorem box_Low.is : box_Low = box_Low.d := Classical.choose_spec (⟨box_Low.d, rfl⟩ : ∃ f, f = box_Low.d)
def box_Unbox.d (a0 : Int) (a1_0 : Int) (a1_1 : Int) (K : Int → Int → Int → Prop) : Prop :=
  box_Low a0 a1_0 a1_1 fun y0 y1 y2 => br (!eqI y2 0) (K 0 0 y2) (box_IsBoxed a0 a1_0 a1_1 fun y0_1 => br (!y0_1) (shape_NaN a0 fun y0 y1 => K y0 y1 0) (K y0 y1 0))
noncomputable def box_Unbox : Int → Int → Int → (Int → Int → Int → Prop) → Prop := Classical.choose (⟨box_Unbox.d, rfl⟩ : ∃ f, f = box_Unbox.d)
theorem box_Unbox.is : box_Unbox = box_Unbox.d := Classical.choose_spec (⟨box_Unbox.d, rfl⟩ : ∃ f, f = box_Unbox.d)
def box_Within.d (a0 : Int) (a1_0 : Int) (a1_1 : Int) (a2 : Int) (K : Int → Int → Int → Prop) : Prop :=
  box_Unbox a0 a1_0 a1_1 fun y0 y1 y2 => br (!eqI y2 0) (K 0 0 y2) (box_Box a0 y0 y1 fun y0 y1 y2 => br (!eqI y2 0) (K 0 0 y2) (box_Unbox a2 y0 y1 fun y0 y1 y2 => K y0 y1 y2))
noncomputable def box_Within : Int → Int → Int → Int → (Int → Int → Int → Prop) → Prop := Classical.choose (⟨box_Within.d, rfl⟩ : ∃ f, f = box_Within.d)
theorem box_Within.is : box_Within = box_Within.d := Classical.choose_spec (⟨box_Within.d, rfl⟩ : ∃ f, f = box_Within.d)
end Go.Ev.S

/- The functions as the evaluator has them: what each comes to. -/
set_option maxRecDepth 100000
set_option linter.unusedVariables false
set_option linter.unusedSimpArgs false
namespace Go.Ev.S
open Go Go.Ev
def law07_alive.d (K : Bool → Prop) : Prop :=
  shape_Width 2 fun y0 => br (eqI y0 16) (shape_Emax 3 fun y0 => br (eqI y0 16383) (shape_NaN 2 fun y0 y1 => br (eqI y0 0 && eqI y1 32256) (shape_Check 4 fun y0 => br (eqI y0 2) (shape_CheckMode 5 fun y0 => K (eqI y0 2)) (K false)) (K false)) (K false)) (K false)
noncomputable def law07_alive : (Bool → Prop) → Prop := Classical.choose (⟨law07_alive.d, rfl⟩ : ∃ f, f = law07_alive.d)
end Go.Ev.S

/- The functions as the evaluator has them: what each comes to. -/
set_option maxRecDepth 100000
set_option linter.unusedVariables false
set_option linter.unusedSimpArgs false
namespace Go.Ev.S
open Go Go.Ev
def law22_lives.d (K : Bool → Prop) : Prop :=
  box_Box 2 0 15360 fun y0 y1 y2 => box_Unbox 2 y0 y1 fun y0_1 y1_1 y2_1 => box_Unbox 0 y0 y1 fun y0_2 y1_2 y2_2 => box_Unbox 2 0 15360 fun y0_3 y1_3 y2_3 => box_Box 2 0 65536 fun y0_4 y1_4 y2_4 => br (eqI y0 18446744073709551615) (br (eqI y1 18446744073709501440) (br (eqI y2 0) (br (eqI y1_1 15360) (br (eqI y2_1 0) (br (eqI y1_2 4294917120) (br (eqI y2_2 0) (br (eqI y1_3 32256) (br (eqI y2_3 0) (K (eqI y2_4 2)) (K false)) (K false)) (K false)) (K false)) (K false)) (K false)) (K false)) (K false)) (K false)
noncomputable def law22_lives : (Bool → Prop) → Prop := Classical.choose (⟨law22_lives.d, rfl⟩ : ∃ f, f = law22_lives.d)
theorem law22_lives.is : law22_lives = law22_lives.d := Classical.choose_spec (⟨law22_lives.d, rfl⟩ : ∃ f, f = law22_lives.d)
end Go.Ev.S

/- The functions as the evaluator has them: what each comes to. -/
set_option maxRecDepth 100000
set_option linter.unusedVariables false
set_option linter.unusedSimpArgs false
namespace Go.Ev.S
open Go Go.Ev
def r22_Forms.d (a0_0 : Int) (a0_1 : Int) (K : Nat → (Nat → Int) → Prop) : Prop :=
  r22_IsBoxed 2 a0_0 a0_1 fun y0 => br y0 (r22_IsBoxed 0 a0_0 a0_1 fun y0 => br y0 (r22_IsBoxed 1 a0_0 a0_1 fun y0 => br y0 (r22_IsBoxed 3 a0_0 a0_1 fun y0 => br y0 (K 4 (app 3 (app 2 (app 1 (upd (fun x => 0) 0 2) (upd (fun x => 0) 0 0)) (upd (fun x => 0) 0 1)) (upd (fun x => 0) 0 3))) (K 3 (app 2 (app 1 (upd (fun x => 0) 0 2) (upd (fun x => 0) 0 0)) (upd (fun x => 0) 0 1)))) (r22_IsBoxed 3 a0_0 a0_1 fun y0 => br y0 (K 3 (app 2 (app 1 (upd (fun x => 0) 0 2) (upd (fun x => 0) 0 0)) (upd (fun x => 0) 0 3))) (K 2 (app 1 (upd (fun x => 0) 0 2) (upd (fun x => 0) 0 0))))) (r22_IsBoxed 1 a0_0 a0_1 fun y0 => br y0 (r22_IsBoxed 3 a0_0 a0_1 fun y0 => br y0 (K 3 (app 2 (app 1 (upd (fun x => 0) 0 2) (upd (fun x => 0) 0 1)) (upd (fun x => 0) 0 3))) (K 2 (app 1 (upd (fun x => 0) 0 2) (upd (fun x => 0) 0 1)))) (r22_IsBoxed 3 a0_0 a0_1 fun y0 => br y0 (K 2 (app 1 (upd (fun x => 0) 0 2) (upd (fun x => 0) 0 3))) (K 1 (upd (fun x => 0) 0 2))))) (r22_IsBoxed 0 a0_0 a0_1 fun y0 => br y0 (r22_IsBoxed 1 a0_0 a0_1 fun y0 => br y0 (r22_IsBoxed 3 a0_0 a0_1 fun y0 => br y0 (K 3 (app 2 (app 1 (upd (fun x => 0) 0 0) (upd (fun x => 0) 0 1)) (upd (fun x => 0) 0 3))) (K 2 (app 1 (upd (fun x => 0) 0 0) (upd (fun x => 0) 0 1)))) (r22_IsBoxed 3 a0_0 a0_1 fun y0 => br y0 (K 2 (app 1 (upd (fun x => 0) 0 0) (upd (fun x => 0) 0 3))) (K 1 (upd (fun x => 0) 0 0)))) (r22_IsBoxed 1 a0_0 a0_1 fun y0 => br y0 (r22_IsBoxed 3 a0_0 a0_1 fun y0 => br y0 (K 2 (app 1 (upd (fun x => 0) 0 1) (upd (fun x => 0) 0 3))) (K 1 (upd (fun x => 0) 0 1))) (r22_IsBoxed 3 a0_0 a0_1 fun y0 => br y0 (K 1 (upd (fun x => 0) 0 3)) (K 0 fun x => 0))))
noncomputable def r22_Forms : Int → Int → (Nat → (Nat → Int) → Prop) → Prop := Classical.choose (⟨r22_Forms.d, rfl⟩ : ∃ f, f = r22_Forms.d)
theorem r22_Forms.is : r22_Forms = r22_Forms.d := Classical.choose_spec (⟨r22_Forms.d, rfl⟩ : ∃ f, f = r22_Forms.d)
def box_Forms.d (a0_0 : Int) (a0_1 : Int) (K : Int → Int → Prop) : Prop :=
  K a0_0 a0_1
noncomputable def box_Forms : Int → Int → (Int → Int → Prop) → Prop := Classical.choose (⟨box_Forms.d, rfl⟩ : ∃ f, f = box_Forms.d)
theorem box_Forms.is : box_Forms = box_Forms.d := Classical.choose_spec (⟨box_Forms.d, rfl⟩ : ∃ f, f = box_Forms.d)
def law22_BoxForms.j2 (z0 : Nat → Int) (z1 : Int) (z2 : Int) (K : Bool → Prop) : Prop :=
  box_Within (z0 0) z1 z2 (z0 1) fun y0 y1 y2 => r22_Width (z0 0) fun y0_1 => br (eqI y0_1 0) (br (eqI y0 0 && eqI y1 0) (br (eqI y2 2) (law22_lives fun y0 => K y0) (K false)) (K false)) (r22_Width (z0 1) fun y0_2 => br (eqI y0_2 0) (br (eqI y0 0 && eqI y1 0) (br (eqI y2 2) (law22_lives fun y0 => K y0) (K false)) (K false)) (br (eqI y2 0) (r22_Unbox (z0 0) z1 z2 fun y0_3 y1_1 => r22_Box (z0 0) y0_3 y1_1 fun y0_4 y1_2 => r22_Unbox (z0 1) y0_4 y1_2 fun y0_5 y1_3 => br (eqI y0 y0_5 && eqI y1 y1_3) (law22_lives fun y0 => K y0) (K false)) (K false)))
def law22_BoxForms.j7 (z0 : Nat → Int) (z1 : Int) (z2 : Int) (K : Bool → Prop) : Prop :=
  box_Within (z0 0) z1 z2 (z0 1) fun y0 y1 y2 => r22_Width (z0 0) fun y0_1 => br (eqI y0_1 0) (br (eqI y0 0 && eqI y1 0) (br (eqI y2 2) (law22_lives fun y0 => K y0) (K false)) (K false)) (r22_Width (z0 1) fun y0_2 => br (eqI y0_2 0) (br (eqI y0 0 && eqI y1 0) (br (eqI y2 2) (law22_lives fun y0 => K y0) (K false)) (K false)) (br (eqI y2 0) (r22_Unbox (z0 0) z1 z2 fun y0_3 y1_1 => r22_Box (z0 0) y0_3 y1_1 fun y0_4 y1_2 => r22_Unbox (z0 1) y0_4 y1_2 fun y0_5 y1_3 => br (eqI y0 y0_5 && eqI y1 y1_3) (law22_lives fun y0 => K y0) (K false)) (K false)))
def law22_BoxForms.j9 (z0 : Nat) (z1 : Nat → Int) (z2 : Int) (z3 : Int) (K : Bool → Prop) : Prop :=
  br (!eqI 3 ↑z0) (K false) (law22_BoxForms.j7 z1 z2 z3 K)
def law22_BoxForms.j13 (z0 : Nat → Int) (z1 : Int) (z2 : Int) (K : Bool → Prop) : Prop :=
  box_Within (z0 0) z1 z2 (z0 1) fun y0 y1 y2 => r22_Width (z0 0) fun y0_1 => br (eqI y0_1 0) (br (eqI y0 0 && eqI y1 0) (br (eqI y2 2) (law22_lives fun y0 => K y0) (K false)) (K false)) (r22_Width (z0 1) fun y0_2 => br (eqI y0_2 0) (br (eqI y0 0 && eqI y1 0) (br (eqI y2 2) (law22_lives fun y0 => K y0) (K false)) (K false)) (br (eqI y2 0) (r22_Unbox (z0 0) z1 z2 fun y0_3 y1_1 => r22_Box (z0 0) y0_3 y1_1 fun y0_4 y1_2 => r22_Unbox (z0 1) y0_4 y1_2 fun y0_5 y1_3 => br (eqI y0 y0_5 && eqI y1 y1_3) (law22_lives fun y0 => K y0) (K false)) (K false)))
def law22_BoxForms.j15 (z0 : Nat) (z1 : Nat → Int) (z2 : Int) (z3 : Int) (K : Bool → Prop) : Prop :=
  br (!eqI 2 ↑z0) (K false) (law22_BoxForms.j13 z1 z2 z3 K)
def law22_BoxForms.j16 (z0 : Int) (z1 : Int) (z2 : Nat) (z3 : Nat → Int) (z4 : Nat → Int) (z5 : Int) (z6 : Int) (K : Bool → Prop) : Prop :=
  br (isb 3 z0 z1) (br (leI (↑z2) 2) (K false) (gd (ltI 2 ↑z2) (br (!eqI 3 (z3 2)) (K false) (law22_BoxForms.j9 z2 z4 z5 z6 K)))) (law22_BoxForms.j15 z2 z4 z5 z6 K)
def law22_BoxForms.j20 (z0 : Nat → Int) (z1 : Int) (z2 : Int) (K : Bool → Prop) : Prop :=
  box_Within (z0 0) z1 z2 (z0 1) fun y0 y1 y2 => r22_Width (z0 0) fun y0_1 => br (eqI y0_1 0) (br (eqI y0 0 && eqI y1 0) (br (eqI y2 2) (law22_lives fun y0 => K y0) (K false)) (K false)) (r22_Width (z0 1) fun y0_2 => br (eqI y0_2 0) (br (eqI y0 0 && eqI y1 0) (br (eqI y2 2) (law22_lives fun y0 => K y0) (K false)) (K false)) (br (eqI y2 0) (r22_Unbox (z0 0) z1 z2 fun y0_3 y1_1 => r22_Box (z0 0) y0_3 y1_1 fun y0_4 y1_2 => r22_Unbox (z0 1) y0_4 y1_2 fun y0_5 y1_3 => br (eqI y0 y0_5 && eqI y1 y1_3) (law22_lives fun y0 => K y0) (K false)) (K false)))
def law22_BoxForms.j22 (z0 : Nat) (z1 : Nat → Int) (z2 : Int) (z3 : Int) (K : Bool → Prop) : Prop :=
  br (!eqI 1 ↑z0) (K false) (law22_BoxForms.j20 z1 z2 z3 K)
def law22_BoxForms.j23 (z0 : Int) (z1 : Int) (z2 : Nat) (z3 : Nat → Int) (z4 : Nat → Int) (z5 : Int) (z6 : Int) (K : Bool → Prop) : Prop :=
  br (isb 3 z0 z1) (br (leI (↑z2) 1) (K false) (gd (ltI 1 ↑z2) (br (!eqI 3 (z3 1)) (K false) (law22_BoxForms.j15 z2 z4 z5 z6 K)))) (law22_BoxForms.j22 z2 z4 z5 z6 K)
def law22_BoxForms.j24 (z0 : Int) (z1 : Int) (z2 : Nat) (z3 : Nat → Int) (z4 : Nat → Int) (z5 : Int) (z6 : Int) (K : Bool → Prop) : Prop :=
  br (isb 1 z0 z1) (br (leI (↑z2) 1) (K false) (gd (ltI 1 ↑z2) (br (!eqI 1 (z3 1)) (K false) (law22_BoxForms.j16 z0 z1 z2 z3 z4 z5 z6 K)))) (law22_BoxForms.j23 z0 z1 z2 z3 z4 z5 z6 K)
def law22_BoxForms.j28 (z0 : Nat → Int) (z1 : Int) (z2 : Int) (K : Bool → Prop) : Prop :=
  box_Within (z0 0) z1 z2 (z0 1) fun y0 y1 y2 => r22_Width (z0 0) fun y0_1 => br (eqI y0_1 0) (br (eqI y0 0 && eqI y1 0) (br (eqI y2 2) (law22_lives fun y0 => K y0) (K false)) (K false)) (r22_Width (z0 1) fun y0_2 => br (eqI y0_2 0) (br (eqI y0 0 && eqI y1 0) (br (eqI y2 2) (law22_lives fun y0 => K y0) (K false)) (K false)) (br (eqI y2 0) (r22_Unbox (z0 0) z1 z2 fun y0_3 y1_1 => r22_Box (z0 0) y0_3 y1_1 fun y0_4 y1_2 => r22_Unbox (z0 1) y0_4 y1_2 fun y0_5 y1_3 => br (eqI y0 y0_5 && eqI y1 y1_3) (law22_lives fun y0 => K y0) (K false)) (K false)))
def law22_BoxForms.j39 (z0 : Nat) (z1 : Nat → Int) (z2 : Int) (z3 : Int) (K : Bool → Prop) : Prop :=
  br (!eqI 3 ↑z0) (K false) (law22_BoxForms.j7 z1 z2 z3 K)
def law22_BoxForms.j42 (z0 : Nat) (z1 : Nat → Int) (z2 : Int) (z3 : Int) (K : Bool → Prop) : Prop :=
  br (!eqI 2 ↑z0) (K false) (law22_BoxForms.j13 z1 z2 z3 K)
def law22_BoxForms.j43 (z0 : Int) (z1 : Int) (z2 : Nat) (z3 : Nat → Int) (z4 : Nat → Int) (z5 : Int) (z6 : Int) (K : Bool → Prop) : Prop :=
  br (isb 3 z0 z1) (br (leI (↑z2) 2) (K false) (gd (ltI 2 ↑z2) (br (!eqI 3 (z3 2)) (K false) (law22_BoxForms.j39 z2 z4 z5 z6 K)))) (law22_BoxForms.j42 z2 z4 z5 z6 K)
def law22_BoxForms.j46 (z0 : Nat) (z1 : Nat → Int) (z2 : Int) (z3 : Int) (K : Bool → Prop) : Prop :=
  br (!eqI 1 ↑z0) (K false) (law22_BoxForms.j20 z1 z2 z3 K)
def law22_BoxForms.j47 (z0 : Int) (z1 : Int) (z2 : Nat) (z3 : Nat → Int) (z4 : Nat → Int) (z5 : Int) (z6 : Int) (K : Bool → Prop) : Prop :=
  br (isb 3 z0 z1) (br (leI (↑z2) 1) (K false) (gd (ltI 1 ↑z2) (br (!eqI 3 (z3 1)) (K false) (law22_BoxForms.j42 z2 z4 z5 z6 K)))) (law22_BoxForms.j46 z2 z4 z5 z6 K)
def law22_BoxForms.j48 (z0 : Int) (z1 : Int) (z2 : Nat) (z3 : Nat → Int) (z4 : Nat → Int) (z5 : Int) (z6 : Int) (K : Bool → Prop) : Prop :=
  br (isb 1 z0 z1) (br (leI (↑z2) 1) (K false) (gd (ltI 1 ↑z2) (br (!eqI 1 (z3 1)) (K false) (law22_BoxForms.j43 z0 z1 z2 z3 z4 z5 z6 K)))) (law22_BoxForms.j47 z0 z1 z2 z3 z4 z5 z6 K)
def law22_BoxForms.j57 (z0 : Nat) (z1 : Int) (z2 : Int) (z3 : Int) (z4 : Nat → Int) (z5 : Nat → Int) (z6 : Int) (z7 : Int) (K : Bool → Prop) : Prop :=
  br (!eqI 1 ↑z0) (br (!eqI 1 z1) (K false) (br (isb 2 z2 z3) (br (leI (↑z0) 0) (K false) (gd (ltI 0 ↑z0) (br (!eqI 2 (z4 0)) (K false) (br (isb 0 z2 z3) (br (leI (↑z0) 1) (K false) (gd (ltI 1 ↑z0) (br (!eqI 0 (z4 1)) (K false) (br (isb 1 z2 z3) (br (leI (↑z0) 2) (K false) (gd (ltI 2 ↑z0) (br (!eqI 1 (z4 2)) (K false) (br (isb 3 z2 z3) (br (leI (↑z0) 3) (K false) (gd (ltI 3 ↑z0) (br (!eqI 3 (z4 3)) (K false) (br (!eqI 4 ↑z0) (K false) (law22_BoxForms.j2 z5 z6 z7 K))))) (law22_BoxForms.j9 z0 z5 z6 z7 K))))) (law22_BoxForms.j16 z2 z3 z0 z4 z5 z6 z7 K))))) (law22_BoxForms.j24 z2 z3 z0 z4 z5 z6 z7 K))))) (br (isb 0 z2 z3) (br (leI (↑z0) 0) (K false) (gd (ltI 0 ↑z0) (br (!eqI 0 (z4 0)) (K false) (law22_BoxForms.j24 z2 z3 z0 z4 z5 z6 z7 K)))) (br (isb 1 z2 z3) (br (leI (↑z0) 0) (K false) (gd (ltI 0 ↑z0) (br (!eqI 1 (z4 0)) (K false) (law22_BoxForms.j23 z2 z3 z0 z4 z5 z6 z7 K)))) (br (isb 3 z2 z3) (br (leI (↑z0) 0) (K false) (gd (ltI 0 ↑z0) (br (!eqI 3 (z4 0)) (K false) (law22_BoxForms.j22 z0 z5 z6 z7 K)))) (br (!eqI 0 ↑z0) (K false) (law22_BoxForms.j28 z5 z6 z7 K))))))) (br (isb 2 z2 z3) (br (leI (↑z0) 0) (K false) (gd (ltI 0 ↑z0) (br (!eqI 2 (z4 0)) (K false) (br (isb 0 z2 z3) (br (leI (↑z0) 1) (K false) (gd (ltI 1 ↑z0) (br (!eqI 0 (z4 1)) (K false) (br (isb 1 z2 z3) (br (leI (↑z0) 2) (K false) (gd (ltI 2 ↑z0) (br (!eqI 1 (z4 2)) (K false) (br (isb 3 z2 z3) (br (leI (↑z0) 3) (K false) (gd (ltI 3 ↑z0) (br (!eqI 3 (z4 3)) (K false) (br (!eqI 4 ↑z0) (K false) (law22_BoxForms.j2 z5 z6 z7 K))))) (law22_BoxForms.j39 z0 z5 z6 z7 K))))) (law22_BoxForms.j43 z2 z3 z0 z4 z5 z6 z7 K))))) (law22_BoxForms.j48 z2 z3 z0 z4 z5 z6 z7 K))))) (br (isb 0 z2 z3) (br (leI (↑z0) 0) (K false) (gd (ltI 0 ↑z0) (br (!eqI 0 (z4 0)) (K false) (law22_BoxForms.j48 z2 z3 z0 z4 z5 z6 z7 K)))) (br (isb 1 z2 z3) (br (leI (↑z0) 0) (K false) (gd (ltI 0 ↑z0) (br (!eqI 1 (z4 0)) (K false) (law22_BoxForms.j47 z2 z3 z0 z4 z5 z6 z7 K)))) (br (isb 3 z2 z3) (br (leI (↑z0) 0) (K false) (gd (ltI 0 ↑z0) (br (!eqI 3 (z4 0)) (K false) (law22_BoxForms.j46 z0 z5 z6 z7 K)))) (br (!eqI 0 ↑z0) (K false) (law22_BoxForms.j28 z5 z6 z7 K))))))
def law22_BoxForms.j60 (z0 : Nat → Int) (z1 : Int) (z2 : Int) (K : Bool → Prop) : Prop :=
  box_Within (z0 0) z1 z2 (z0 1) fun y0 y1 y2 => r22_Width (z0 0) fun y0_1 => br (eqI y0_1 0) (br (eqI y0 0 && eqI y1 0) (br (eqI y2 2) (law22_lives fun y0 => K y0) (K false)) (K false)) (r22_Width (z0 1) fun y0_2 => br (eqI y0_2 0) (br (eqI y0 0 && eqI y1 0) (br (eqI y2 2) (law22_lives fun y0 => K y0) (K false)) (K false)) (br (eqI y2 0) (r22_Unbox (z0 0) z1 z2 fun y0_3 y1_1 => r22_Box (z0 0) y0_3 y1_1 fun y0_4 y1_2 => r22_Unbox (z0 1) y0_4 y1_2 fun y0_5 y1_3 => br (eqI y0 y0_5 && eqI y1 y1_3) (law22_lives fun y0 => K y0) (K false)) (K false)))
def law22_BoxForms.j65 (z0 : Nat → Int) (z1 : Int) (z2 : Int) (K : Bool → Prop) : Prop :=
  box_Within (z0 0) z1 z2 (z0 1) fun y0 y1 y2 => r22_Width (z0 0) fun y0_1 => br (eqI y0_1 0) (br (eqI y0 0 && eqI y1 0) (br (eqI y2 2) (law22_lives fun y0 => K y0) (K false)) (K false)) (r22_Width (z0 1) fun y0_2 => br (eqI y0_2 0) (br (eqI y0 0 && eqI y1 0) (br (eqI y2 2) (law22_lives fun y0 => K y0) (K false)) (K false)) (br (eqI y2 0) (r22_Unbox (z0 0) z1 z2 fun y0_3 y1_1 => r22_Box (z0 0) y0_3 y1_1 fun y0_4 y1_2 => r22_Unbox (z0 1) y0_4 y1_2 fun y0_5 y1_3 => br (eqI y0 y0_5 && eqI y1 y1_3) (law22_lives fun y0 => K y0) (K false)) (K false)))
def law22_BoxForms.j67 (z0 : Nat) (z1 : Nat → Int) (z2 : Int) (z3 : Int) (K : Bool → Prop) : Prop :=
  br (!eqI 3 ↑z0) (K false) (law22_BoxForms.j65 z1 z2 z3 K)
def law22_BoxForms.j71 (z0 : Nat → Int) (z1 : Int) (z2 : Int) (K : Bool → Prop) : Prop :=
  box_Within (z0 0) z1 z2 (z0 1) fun y0 y1 y2 => r22_Width (z0 0) fun y0_1 => br (eqI y0_1 0) (br (eqI y0 0 && eqI y1 0) (br (eqI y2 2) (law22_lives fun y0 => K y0) (K false)) (K false)) (r22_Width (z0 1) fun y0_2 => br (eqI y0_2 0) (br (eqI y0 0 && eqI y1 0) (br (eqI y2 2) (law22_lives fun y0 => K y0) (K false)) (K false)) (br (eqI y2 0) (r22_Unbox (z0 0) z1 z2 fun y0_3 y1_1 => r22_Box (z0 0) y0_3 y1_1 fun y0_4 y1_2 => r22_Unbox (z0 1) y0_4 y1_2 fun y0_5 y1_3 => br (eqI y0 y0_5 && eqI y1 y1_3) (law22_lives fun y0 => K y0) (K false)) (K false)))
def law22_BoxForms.j73 (z0 : Nat) (z1 : Nat → Int) (z2 : Int) (z3 : Int) (K : Bool → Prop) : Prop :=
  br (!eqI 2 ↑z0) (K false) (law22_BoxForms.j71 z1 z2 z3 K)
def law22_BoxForms.j74 (z0 : Int) (z1 : Int) (z2 : Nat) (z3 : Nat → Int) (z4 : Nat → Int) (z5 : Int) (z6 : Int) (K : Bool → Prop) : Prop :=
  br (isb 3 z0 z1) (br (leI (↑z2) 2) (K false) (gd (ltI 2 ↑z2) (br (!eqI 3 (z3 2)) (K false) (law22_BoxForms.j67 z2 z4 z5 z6 K)))) (law22_BoxForms.j73 z2 z4 z5 z6 K)
def law22_BoxForms.j78 (z0 : Nat → Int) (z1 : Int) (z2 : Int) (K : Bool → Prop) : Prop :=
  box_Within (z0 0) z1 z2 (z0 1) fun y0 y1 y2 => r22_Width (z0 0) fun y0_1 => br (eqI y0_1 0) (br (eqI y0 0 && eqI y1 0) (br (eqI y2 2) (law22_lives fun y0 => K y0) (K false)) (K false)) (r22_Width (z0 1) fun y0_2 => br (eqI y0_2 0) (br (eqI y0 0 && eqI y1 0) (br (eqI y2 2) (law22_lives fun y0 => K y0) (K false)) (K false)) (br (eqI y2 0) (r22_Unbox (z0 0) z1 z2 fun y0_3 y1_1 => r22_Box (z0 0) y0_3 y1_1 fun y0_4 y1_2 => r22_Unbox (z0 1) y0_4 y1_2 fun y0_5 y1_3 => br (eqI y0 y0_5 && eqI y1 y1_3) (law22_lives fun y0 => K y0) (K false)) (K false)))
def law22_BoxForms.j80 (z0 : Nat) (z1 : Nat → Int) (z2 : Int) (z3 : Int) (K : Bool → Prop) : Prop :=
  br (!eqI 1 ↑z0) (K false) (law22_BoxForms.j78 z1 z2 z3 K)
def law22_BoxForms.j81 (z0 : Int) (z1 : Int) (z2 : Nat) (z3 : Nat → Int) (z4 : Nat → Int) (z5 : Int) (z6 : Int) (K : Bool → Prop) : Prop :=
  br (isb 3 z0 z1) (br (leI (↑z2) 1) (K false) (gd (ltI 1 ↑z2) (br (!eqI 3 (z3 1)) (K false) (law22_BoxForms.j73 z2 z4 z5 z6 K)))) (law22_BoxForms.j80 z2 z4 z5 z6 K)
def law22_BoxForms.j82 (z0 : Int) (z1 : Int) (z2 : Nat) (z3 : Nat → Int) (z4 : Nat → Int) (z5 : Int) (z6 : Int) (K : Bool → Prop) : Prop :=
  br (isb 1 z0 z1) (br (leI (↑z2) 1) (K false) (gd (ltI 1 ↑z2) (br (!eqI 1 (z3 1)) (K false) (law22_BoxForms.j74 z0 z1 z2 z3 z4 z5 z6 K)))) (law22_BoxForms.j81 z0 z1 z2 z3 z4 z5 z6 K)
def law22_BoxForms.j86 (z0 : Nat → Int) (z1 : Int) (z2 : Int) (K : Bool → Prop) : Prop :=
  box_Within (z0 0) z1 z2 (z0 1) fun y0 y1 y2 => r22_Width (z0 0) fun y0_1 => br (eqI y0_1 0) (br (eqI y0 0 && eqI y1 0) (br (eqI y2 2) (law22_lives fun y0 => K y0) (K false)) (K false)) (r22_Width (z0 1) fun y0_2 => br (eqI y0_2 0) (br (eqI y0 0 && eqI y1 0) (br (eqI y2 2) (law22_lives fun y0 => K y0) (K false)) (K false)) (br (eqI y2 0) (r22_Unbox (z0 0) z1 z2 fun y0_3 y1_1 => r22_Box (z0 0) y0_3 y1_1 fun y0_4 y1_2 => r22_Unbox (z0 1) y0_4 y1_2 fun y0_5 y1_3 => br (eqI y0 y0_5 && eqI y1 y1_3) (law22_lives fun y0 => K y0) (K false)) (K false)))
def law22_BoxForms.j97 (z0 : Nat) (z1 : Nat → Int) (z2 : Int) (z3 : Int) (K : Bool → Prop) : Prop :=
  br (!eqI 3 ↑z0) (K false) (law22_BoxForms.j65 z1 z2 z3 K)
def law22_BoxForms.j100 (z0 : Nat) (z1 : Nat → Int) (z2 : Int) (z3 : Int) (K : Bool → Prop) : Prop :=
  br (!eqI 2 ↑z0) (K false) (law22_BoxForms.j71 z1 z2 z3 K)
def law22_BoxForms.j101 (z0 : Int) (z1 : Int) (z2 : Nat) (z3 : Nat → Int) (z4 : Nat → Int) (z5 : Int) (z6 : Int) (K : Bool → Prop) : Prop :=
  br (isb 3 z0 z1) (br (leI (↑z2) 2) (K false) (gd (ltI 2 ↑z2) (br (!eqI 3 (z3 2)) (K false) (law22_BoxForms.j97 z2 z4 z5 z6 K)))) (law22_BoxForms.j100 z2 z4 z5 z6 K)
def law22_BoxForms.j104 (z0 : Nat) (z1 : Nat → Int) (z2 : Int) (z3 : Int) (K : Bool → Prop) : Prop :=
  br (!eqI 1 ↑z0) (K false) (law22_BoxForms.j78 z1 z2 z3 K)
def law22_BoxForms.j105 (z0 : Int) (z1 : Int) (z2 : Nat) (z3 : Nat → Int) (z4 : Nat → Int) (z5 : Int) (z6 : Int) (K : Bool → Prop) : Prop :=
  br (isb 3 z0 z1) (br (leI (↑z2) 1) (K false) (gd (ltI 1 ↑z2) (br (!eqI 3 (z3 1)) (K false) (law22_BoxForms.j100 z2 z4 z5 z6 K)))) (law22_BoxForms.j104 z2 z4 z5 z6 K)
def law22_BoxForms.j106 (z0 : Int) (z1 : Int) (z2 : Nat) (z3 : Nat → Int) (z4 : Nat → Int) (z5 : Int) (z6 : Int) (K : Bool → Prop) : Prop :=
  br (isb 1 z0 z1) (br (leI (↑z2) 1) (K false) (gd (ltI 1 ↑z2) (br (!eqI 1 (z3 1)) (K false) (law22_BoxForms.j101 z0 z1 z2 z3 z4 z5 z6 K)))) (law22_BoxForms.j105 z0 z1 z2 z3 z4 z5 z6 K)
def law22_BoxForms.j115 (z0 : Nat) (z1 : Int) (z2 : Int) (z3 : Int) (z4 : Nat → Int) (z5 : Nat → Int) (z6 : Int) (z7 : Int) (K : Bool → Prop) : Prop :=
  br (!eqI 2 ↑z0) (br (!eqI 2 z1) (K false) (br (isb 2 z2 z3) (br (leI (↑z0) 0) (K false) (gd (ltI 0 ↑z0) (br (!eqI 2 (z4 0)) (K false) (br (isb 0 z2 z3) (br (leI (↑z0) 1) (K false) (gd (ltI 1 ↑z0) (br (!eqI 0 (z4 1)) (K false) (br (isb 1 z2 z3) (br (leI (↑z0) 2) (K false) (gd (ltI 2 ↑z0) (br (!eqI 1 (z4 2)) (K false) (br (isb 3 z2 z3) (br (leI (↑z0) 3) (K false) (gd (ltI 3 ↑z0) (br (!eqI 3 (z4 3)) (K false) (br (!eqI 4 ↑z0) (K false) (law22_BoxForms.j60 z5 z6 z7 K))))) (law22_BoxForms.j67 z0 z5 z6 z7 K))))) (law22_BoxForms.j74 z2 z3 z0 z4 z5 z6 z7 K))))) (law22_BoxForms.j82 z2 z3 z0 z4 z5 z6 z7 K))))) (br (isb 0 z2 z3) (br (leI (↑z0) 0) (K false) (gd (ltI 0 ↑z0) (br (!eqI 0 (z4 0)) (K false) (law22_BoxForms.j82 z2 z3 z0 z4 z5 z6 z7 K)))) (br (isb 1 z2 z3) (br (leI (↑z0) 0) (K false) (gd (ltI 0 ↑z0) (br (!eqI 1 (z4 0)) (K false) (law22_BoxForms.j81 z2 z3 z0 z4 z5 z6 z7 K)))) (br (isb 3 z2 z3) (br (leI (↑z0) 0) (K false) (gd (ltI 0 ↑z0) (br (!eqI 3 (z4 0)) (K false) (law22_BoxForms.j80 z0 z5 z6 z7 K)))) (br (!eqI 0 ↑z0) (K false) (law22_BoxForms.j86 z5 z6 z7 K))))))) (br (isb 2 z2 z3) (br (leI (↑z0) 0) (K false) (gd (ltI 0 ↑z0) (br (!eqI 2 (z4 0)) (K false) (br (isb 0 z2 z3) (br (leI (↑z0) 1) (K false) (gd (ltI 1 ↑z0) (br (!eqI 0 (z4 1)) (K false) (br (isb 1 z2 z3) (br (leI (↑z0) 2) (K false) (gd (ltI 2 ↑z0) (br (!eqI 1 (z4 2)) (K false) (br (isb 3 z2 z3) (br (leI (↑z0) 3) (K false) (gd (ltI 3 ↑z0) (br (!eqI 3 (z4 3)) (K false) (br (!eqI 4 ↑z0) (K false) (law22_BoxForms.j60 z5 z6 z7 K))))) (law22_BoxForms.j97 z0 z5 z6 z7 K))))) (law22_BoxForms.j101 z2 z3 z0 z4 z5 z6 z7 K))))) (law22_BoxForms.j106 z2 z3 z0 z4 z5 z6 z7 K))))) (br (isb 0 z2 z3) (br (leI (↑z0) 0) (K false) (gd (ltI 0 ↑z0) (br (!eqI 0 (z4 0)) (K false) (law22_BoxForms.j106 z2 z3 z0 z4 z5 z6 z7 K)))) (br (isb 1 z2 z3) (br (leI (↑z0) 0) (K false) (gd (ltI 0 ↑z0) (br (!eqI 1 (z4 0)) (K false) (law22_BoxForms.j105 z2 z3 z0 z4 z5 z6 z7 K)))) (br (isb 3 z2 z3) (br (leI (↑z0) 0) (K false) (gd (ltI 0 ↑z0) (br (!eqI 3 (z4 0)) (K false) (law22_BoxForms.j104 z0 z5 z6 z7 K)))) (br (!eqI 0 ↑z0) (K false) (law22_BoxForms.j86 z5 z6 z7 K))))))
def law22_BoxForms.j118 (z0 : Nat → Int) (z1 : Int) (z2 : Int) (K : Bool → Prop) : Prop :=
  box_Within (z0 0) z1 z2 (z0 1) fun y0 y1 y2 => r22_Width (z0 0) fun y0_1 => br (eqI y0_1 0) (br (eqI y0 0 && eqI y1 0) (br (eqI y2 2) (law22_lives fun y0 => K y0) (K false)) (K false)) (r22_Width (z0 1) fun y0_2 => br (eqI y0_2 0) (br (eqI y0 0 && eqI y1 0) (br (eqI y2 2) (law22_lives fun y0 => K y0) (K false)) (K false)) (br (eqI y2 0) (r22_Unbox (z0 0) z1 z2 fun y0_3 y1_1 => r22_Box (z0 0) y0_3 y1_1 fun y0_4 y1_2 => r22_Unbox (z0 1) y0_4 y1_2 fun y0_5 y1_3 => br (eqI y0 y0_5 && eqI y1 y1_3) (law22_lives fun y0 => K y0) (K false)) (K false)))
def law22_BoxForms.j123 (z0 : Nat → Int) (z1 : Int) (z2 : Int) (K : Bool → Prop) : Prop :=
  box_Within (z0 0) z1 z2 (z0 1) fun y0 y1 y2 => r22_Width (z0 0) fun y0_1 => br (eqI y0_1 0) (br (eqI y0 0 && eqI y1 0) (br (eqI y2 2) (law22_lives fun y0 => K y0) (K false)) (K false)) (r22_Width (z0 1) fun y0_2 => br (eqI y0_2 0) (br (eqI y0 0 && eqI y1 0) (br (eqI y2 2) (law22_lives fun y0 => K y0) (K false)) (K false)) (br (eqI y2 0) (r22_Unbox (z0 0) z1 z2 fun y0_3 y1_1 => r22_Box (z0 0) y0_3 y1_1 fun y0_4 y1_2 => r22_Unbox (z0 1) y0_4 y1_2 fun y0_5 y1_3 => br (eqI y0 y0_5 && eqI y1 y1_3) (law22_lives fun y0 => K y0) (K false)) (K false)))
def law22_BoxForms.j125 (z0 : Nat) (z1 : Nat → Int) (z2 : Int) (z3 : Int) (K : Bool → Prop) : Prop :=
  br (!eqI 3 ↑z0) (K false) (law22_BoxForms.j123 z1 z2 z3 K)
def law22_BoxForms.j129 (z0 : Nat → Int) (z1 : Int) (z2 : Int) (K : Bool → Prop) : Prop :=
  box_Within (z0 0) z1 z2 (z0 1) fun y0 y1 y2 => r22_Width (z0 0) fun y0_1 => br (eqI y0_1 0) (br (eqI y0 0 && eqI y1 0) (br (eqI y2 2) (law22_lives fun y0 => K y0) (K false)) (K false)) (r22_Width (z0 1) fun y0_2 => br (eqI y0_2 0) (br (eqI y0 0 && eqI y1 0) (br (eqI y2 2) (law22_lives fun y0 => K y0) (K false)) (K false)) (br (eqI y2 0) (r22_Unbox (z0 0) z1 z2 fun y0_3 y1_1 => r22_Box (z0 0) y0_3 y1_1 fun y0_4 y1_2 => r22_Unbox (z0 1) y0_4 y1_2 fun y0_5 y1_3 => br (eqI y0 y0_5 && eqI y1 y1_3) (law22_lives fun y0 => K y0) (K false)) (K false)))
def law22_BoxForms.j131 (z0 : Nat) (z1 : Nat → Int) (z2 : Int) (z3 : Int) (K : Bool → Prop) : Prop :=
  br (!eqI 2 ↑z0) (K false) (law22_BoxForms.j129 z1 z2 z3 K)
def law22_BoxForms.j132 (z0 : Int) (z1 : Int) (z2 : Nat) (z3 : Nat → Int) (z4 : Nat → Int) (z5 : Int) (z6 : Int) (K : Bool → Prop) : Prop :=
  br (isb 3 z0 z1) (br (leI (↑z2) 2) (K false) (gd (ltI 2 ↑z2) (br (!eqI 3 (z3 2)) (K false) (law22_BoxForms.j125 z2 z4 z5 z6 K)))) (law22_BoxForms.j131 z2 z4 z5 z6 K)
def law22_BoxForms.j136 (z0 : Nat → Int) (z1 : Int) (z2 : Int) (K : Bool → Prop) : Prop :=
  box_Within (z0 0) z1 z2 (z0 1) fun y0 y1 y2 => r22_Width (z0 0) fun y0_1 => br (eqI y0_1 0) (br (eqI y0 0 && eqI y1 0) (br (eqI y2 2) (law22_lives fun y0 => K y0) (K false)) (K false)) (r22_Width (z0 1) fun y0_2 => br (eqI y0_2 0) (br (eqI y0 0 && eqI y1 0) (br (eqI y2 2) (law22_lives fun y0 => K y0) (K false)) (K false)) (br (eqI y2 0) (r22_Unbox (z0 0) z1 z2 fun y0_3 y1_1 => r22_Box (z0 0) y0_3 y1_1 fun y0_4 y1_2 => r22_Unbox (z0 1) y0_4 y1_2 fun y0_5 y1_3 => br (eqI y0 y0_5 && eqI y1 y1_3) (law22_lives fun y0 => K y0) (K false)) (K false)))
def law22_BoxForms.j138 (z0 : Nat) (z1 : Nat → Int) (z2 : Int) (z3 : Int) (K : Bool → Prop) : Prop :=
  br (!eqI 1 ↑z0) (K false) (law22_BoxForms.j136 z1 z2 z3 K)
def law22_BoxForms.j139 (z0 : Int) (z1 : Int) (z2 : Nat) (z3 : Nat → Int) (z4 : Nat → Int) (z5 : Int) (z6 : Int) (K : Bool → Prop) : Prop :=
  br (isb 3 z0 z1) (br (leI (↑z2) 1) (K false) (gd (ltI 1 ↑z2) (br (!eqI 3 (z3 1)) (K false) (law22_BoxForms.j131 z2 z4 z5 z6 K)))) (law22_BoxForms.j138 z2 z4 z5 z6 K)
def law22_BoxForms.j140 (z0 : Int) (z1 : Int) (z2 : Nat) (z3 : Nat → Int) (z4 : Nat → Int) (z5 : Int) (z6 : Int) (K : Bool → Prop) : Prop :=
  br (isb 1 z0 z1) (br (leI (↑z2) 1) (K false) (gd (ltI 1 ↑z2) (br (!eqI 1 (z3 1)) (K false) (law22_BoxForms.j132 z0 z1 z2 z3 z4 z5 z6 K)))) (law22_BoxForms.j139 z0 z1 z2 z3 z4 z5 z6 K)
def law22_BoxForms.j144 (z0 : Nat → Int) (z1 : Int) (z2 : Int) (K : Bool → Prop) : Prop :=
  box_Within (z0 0) z1 z2 (z0 1) fun y0 y1 y2 => r22_Width (z0 0) fun y0_1 => br (eqI y0_1 0) (br (eqI y0 0 && eqI y1 0) (br (eqI y2 2) (law22_lives fun y0 => K y0) (K false)) (K false)) (r22_Width (z0 1) fun y0_2 => br (eqI y0_2 0) (br (eqI y0 0 && eqI y1 0) (br (eqI y2 2) (law22_lives fun y0 => K y0) (K false)) (K false)) (br (eqI y2 0) (r22_Unbox (z0 0) z1 z2 fun y0_3 y1_1 => r22_Box (z0 0) y0_3 y1_1 fun y0_4 y1_2 => r22_Unbox (z0 1) y0_4 y1_2 fun y0_5 y1_3 => br (eqI y0 y0_5 && eqI y1 y1_3) (law22_lives fun y0 => K y0) (K false)) (K false)))
def law22_BoxForms.j155 (z0 : Nat) (z1 : Nat → Int) (z2 : Int) (z3 : Int) (K : Bool → Prop) : Prop :=
  br (!eqI 3 ↑z0) (K false) (law22_BoxForms.j123 z1 z2 z3 K)
def law22_BoxForms.j158 (z0 : Nat) (z1 : Nat → Int) (z2 : Int) (z3 : Int) (K : Bool → Prop) : Prop :=
  br (!eqI 2 ↑z0) (K false) (law22_BoxForms.j129 z1 z2 z3 K)
def law22_BoxForms.j159 (z0 : Int) (z1 : Int) (z2 : Nat) (z3 : Nat → Int) (z4 : Nat → Int) (z5 : Int) (z6 : Int) (K : Bool → Prop) : Prop :=
  br (isb 3 z0 z1) (br (leI (↑z2) 2) (K false) (gd (ltI 2 ↑z2) (br (!eqI 3 (z3 2)) (K false) (law22_BoxForms.j155 z2 z4 z5 z6 K)))) (law22_BoxForms.j158 z2 z4 z5 z6 K)
def law22_BoxForms.j162 (z0 : Nat) (z1 : Nat → Int) (z2 : Int) (z3 : Int) (K : Bool → Prop) : Prop :=
  br (!eqI 1 ↑z0) (K false) (law22_BoxForms.j136 z1 z2 z3 K)
def law22_BoxForms.j163 (z0 : Int) (z1 : Int) (z2 : Nat) (z3 : Nat → Int) (z4 : Nat → Int) (z5 : Int) (z6 : Int) (K : Bool → Prop) : Prop :=
  br (isb 3 z0 z1) (br (leI (↑z2) 1) (K false) (gd (ltI 1 ↑z2) (br (!eqI 3 (z3 1)) (K false) (law22_BoxForms.j158 z2 z4 z5 z6 K)))) (law22_BoxForms.j162 z2 z4 z5 z6 K)
def law22_BoxForms.j164 (z0 : Int) (z1 : Int) (z2 : Nat) (z3 : Nat → Int) (z4 : Nat → Int) (z5 : Int) (z6 : Int) (K : Bool → Prop) : Prop :=
  br (isb 1 z0 z1) (br (leI (↑z2) 1) (K false) (gd (ltI 1 ↑z2) (br (!eqI 1 (z3 1)) (K false) (law22_BoxForms.j159 z0 z1 z2 z3 z4 z5 z6 K)))) (law22_BoxForms.j163 z0 z1 z2 z3 z4 z5 z6 K)
def law22_BoxForms.j173 (z0 : Nat) (z1 : Int) (z2 : Int) (z3 : Int) (z4 : Nat → Int) (z5 : Nat → Int) (z6 : Int) (z7 : Int) (K : Bool → Prop) : Prop :=
  br (!eqI 3 ↑z0) (br (!eqI 3 z1) (K false) (br (isb 2 z2 z3) (br (leI (↑z0) 0) (K false) (gd (ltI 0 ↑z0) (br (!eqI 2 (z4 0)) (K false) (br (isb 0 z2 z3) (br (leI (↑z0) 1) (K false) (gd (ltI 1 ↑z0) (br (!eqI 0 (z4 1)) (K false) (br (isb 1 z2 z3) (br (leI (↑z0) 2) (K false) (gd (ltI 2 ↑z0) (br (!eqI 1 (z4 2)) (K false) (br (isb 3 z2 z3) (br (leI (↑z0) 3) (K false) (gd (ltI 3 ↑z0) (br (!eqI 3 (z4 3)) (K false) (br (!eqI 4 ↑z0) (K false) (law22_BoxForms.j118 z5 z6 z7 K))))) (law22_BoxForms.j125 z0 z5 z6 z7 K))))) (law22_BoxForms.j132 z2 z3 z0 z4 z5 z6 z7 K))))) (law22_BoxForms.j140 z2 z3 z0 z4 z5 z6 z7 K))))) (br (isb 0 z2 z3) (br (leI (↑z0) 0) (K false) (gd (ltI 0 ↑z0) (br (!eqI 0 (z4 0)) (K false) (law22_BoxForms.j140 z2 z3 z0 z4 z5 z6 z7 K)))) (br (isb 1 z2 z3) (br (leI (↑z0) 0) (K false) (gd (ltI 0 ↑z0) (br (!eqI 1 (z4 0)) (K false) (law22_BoxForms.j139 z2 z3 z0 z4 z5 z6 z7 K)))) (br (isb 3 z2 z3) (br (leI (↑z0) 0) (K false) (gd (ltI 0 ↑z0) (br (!eqI 3 (z4 0)) (K false) (law22_BoxForms.j138 z0 z5 z6 z7 K)))) (br (!eqI 0 ↑z0) (K false) (law22_BoxForms.j144 z5 z6 z7 K))))))) (br (isb 2 z2 z3) (br (leI (↑z0) 0) (K false) (gd (ltI 0 ↑z0) (br (!eqI 2 (z4 0)) (K false) (br (isb 0 z2 z3) (br (leI (↑z0) 1) (K false) (gd (ltI 1 ↑z0) (br (!eqI 0 (z4 1)) (K false) (br (isb 1 z2 z3) (br (leI (↑z0) 2) (K false) (gd (ltI 2 ↑z0) (br (!eqI 1 (z4 2)) (K false) (br (isb 3 z2 z3) (br (leI (↑z0) 3) (K false) (gd (ltI 3 ↑z0) (br (!eqI 3 (z4 3)) (K false) (br (!eqI 4 ↑z0) (K false) (law22_BoxForms.j118 z5 z6 z7 K))))) (law22_BoxForms.j155 z0 z5 z6 z7 K))))) (law22_BoxForms.j159 z2 z3 z0 z4 z5 z6 z7 K))))) (law22_BoxForms.j164 z2 z3 z0 z4 z5 z6 z7 K))))) (br (isb 0 z2 z3) (br (leI (↑z0) 0) (K false) (gd (ltI 0 ↑z0) (br (!eqI 0 (z4 0)) (K false) (law22_BoxForms.j164 z2 z3 z0 z4 z5 z6 z7 K)))) (br (isb 1 z2 z3) (br (leI (↑z0) 0) (K false) (gd (ltI 0 ↑z0) (br (!eqI 1 (z4 0)) (K false) (law22_BoxForms.j163 z2 z3 z0 z4 z5 z6 z7 K)))) (br (isb 3 z2 z3) (br (leI (↑z0) 0) (K false) (gd (ltI 0 ↑z0) (br (!eqI 3 (z4 0)) (K false) (law22_BoxForms.j162 z0 z5 z6 z7 K)))) (br (!eqI 0 ↑z0) (K false) (law22_BoxForms.j144 z5 z6 z7 K))))))
def law22_BoxForms.j176 (z0 : Nat → Int) (z1 : Int) (z2 : Int) (K : Bool → Prop) : Prop :=
  box_Within (z0 0) z1 z2 (z0 1) fun y0 y1 y2 => r22_Width (z0 0) fun y0_1 => br (eqI y0_1 0) (br (eqI y0 0 && eqI y1 0) (br (eqI y2 2) (law22_lives fun y0 => K y0) (K false)) (K false)) (r22_Width (z0 1) fun y0_2 => br (eqI y0_2 0) (br (eqI y0 0 && eqI y1 0) (br (eqI y2 2) (law22_lives fun y0 => K y0) (K false)) (K false)) (br (eqI y2 0) (r22_Unbox (z0 0) z1 z2 fun y0_3 y1_1 => r22_Box (z0 0) y0_3 y1_1 fun y0_4 y1_2 => r22_Unbox (z0 1) y0_4 y1_2 fun y0_5 y1_3 => br (eqI y0 y0_5 && eqI y1 y1_3) (law22_lives fun y0 => K y0) (K false)) (K false)))
def law22_BoxForms.j181 (z0 : Nat → Int) (z1 : Int) (z2 : Int) (K : Bool → Prop) : Prop :=
  box_Within (z0 0) z1 z2 (z0 1) fun y0 y1 y2 => r22_Width (z0 0) fun y0_1 => br (eqI y0_1 0) (br (eqI y0 0 && eqI y1 0) (br (eqI y2 2) (law22_lives fun y0 => K y0) (K false)) (K false)) (r22_Width (z0 1) fun y0_2 => br (eqI y0_2 0) (br (eqI y0 0 && eqI y1 0) (br (eqI y2 2) (law22_lives fun y0 => K y0) (K false)) (K false)) (br (eqI y2 0) (r22_Unbox (z0 0) z1 z2 fun y0_3 y1_1 => r22_Box (z0 0) y0_3 y1_1 fun y0_4 y1_2 => r22_Unbox (z0 1) y0_4 y1_2 fun y0_5 y1_3 => br (eqI y0 y0_5 && eqI y1 y1_3) (law22_lives fun y0 => K y0) (K false)) (K false)))
def law22_BoxForms.j183 (z0 : Nat) (z1 : Nat → Int) (z2 : Int) (z3 : Int) (K : Bool → Prop) : Prop :=
  br (!eqI 3 ↑z0) (K false) (law22_BoxForms.j181 z1 z2 z3 K)
def law22_BoxForms.j187 (z0 : Nat → Int) (z1 : Int) (z2 : Int) (K : Bool → Prop) : Prop :=
  box_Within (z0 0) z1 z2 (z0 1) fun y0 y1 y2 => r22_Width (z0 0) fun y0_1 => br (eqI y0_1 0) (br (eqI y0 0 && eqI y1 0) (br (eqI y2 2) (law22_lives fun y0 => K y0) (K false)) (K false)) (r22_Width (z0 1) fun y0_2 => br (eqI y0_2 0) (br (eqI y0 0 && eqI y1 0) (br (eqI y2 2) (law22_lives fun y0 => K y0) (K false)) (K false)) (br (eqI y2 0) (r22_Unbox (z0 0) z1 z2 fun y0_3 y1_1 => r22_Box (z0 0) y0_3 y1_1 fun y0_4 y1_2 => r22_Unbox (z0 1) y0_4 y1_2 fun y0_5 y1_3 => br (eqI y0 y0_5 && eqI y1 y1_3) (law22_lives fun y0 => K y0) (K false)) (K false)))
def law22_BoxForms.j189 (z0 : Nat) (z1 : Nat → Int) (z2 : Int) (z3 : Int) (K : Bool → Prop) : Prop :=
  br (!eqI 2 ↑z0) (K false) (law22_BoxForms.j187 z1 z2 z3 K)
def law22_BoxForms.j190 (z0 : Int) (z1 : Int) (z2 : Nat) (z3 : Nat → Int) (z4 : Nat → Int) (z5 : Int) (z6 : Int) (K : Bool → Prop) : Prop :=
  br (isb 3 z0 z1) (br (leI (↑z2) 2) (K false) (gd (ltI 2 ↑z2) (br (!eqI 3 (z3 2)) (K false) (law22_BoxForms.j183 z2 z4 z5 z6 K)))) (law22_BoxForms.j189 z2 z4 z5 z6 K)
def law22_BoxForms.j194 (z0 : Nat → Int) (z1 : Int) (z2 : Int) (K : Bool → Prop) : Prop :=
  box_Within (z0 0) z1 z2 (z0 1) fun y0 y1 y2 => r22_Width (z0 0) fun y0_1 => br (eqI y0_1 0) (br (eqI y0 0 && eqI y1 0) (br (eqI y2 2) (law22_lives fun y0 => K y0) (K false)) (K false)) (r22_Width (z0 1) fun y0_2 => br (eqI y0_2 0) (br (eqI y0 0 && eqI y1 0) (br (eqI y2 2) (law22_lives fun y0 => K y0) (K false)) (K false)) (br (eqI y2 0) (r22_Unbox (z0 0) z1 z2 fun y0_3 y1_1 => r22_Box (z0 0) y0_3 y1_1 fun y0_4 y1_2 => r22_Unbox (z0 1) y0_4 y1_2 fun y0_5 y1_3 => br (eqI y0 y0_5 && eqI y1 y1_3) (law22_lives fun y0 => K y0) (K false)) (K false)))
def law22_BoxForms.j196 (z0 : Nat) (z1 : Nat → Int) (z2 : Int) (z3 : Int) (K : Bool → Prop) : Prop :=
  br (!eqI 1 ↑z0) (K false) (law22_BoxForms.j194 z1 z2 z3 K)
def law22_BoxForms.j197 (z0 : Int) (z1 : Int) (z2 : Nat) (z3 : Nat → Int) (z4 : Nat → Int) (z5 : Int) (z6 : Int) (K : Bool → Prop) : Prop :=
  br (isb 3 z0 z1) (br (leI (↑z2) 1) (K false) (gd (ltI 1 ↑z2) (br (!eqI 3 (z3 1)) (K false) (law22_BoxForms.j189 z2 z4 z5 z6 K)))) (law22_BoxForms.j196 z2 z4 z5 z6 K)
def law22_BoxForms.j198 (z0 : Int) (z1 : Int) (z2 : Nat) (z3 : Nat → Int) (z4 : Nat → Int) (z5 : Int) (z6 : Int) (K : Bool → Prop) : Prop :=
  br (isb 1 z0 z1) (br (leI (↑z2) 1) (K false) (gd (ltI 1 ↑z2) (br (!eqI 1 (z3 1)) (K false) (law22_BoxForms.j190 z0 z1 z2 z3 z4 z5 z6 K)))) (law22_BoxForms.j197 z0 z1 z2 z3 z4 z5 z6 K)
def law22_BoxForms.j202 (z0 : Nat → Int) (z1 : Int) (z2 : Int) (K : Bool → Prop) : Prop :=
  box_Within (z0 0) z1 z2 (z0 1) fun y0 y1 y2 => r22_Width (z0 0) fun y0_1 => br (eqI y0_1 0) (br (eqI y0 0 && eqI y1 0) (br (eqI y2 2) (law22_lives fun y0 => K y0) (K false)) (K false)) (r22_Width (z0 1) fun y0_2 => br (eqI y0_2 0) (br (eqI y0 0 && eqI y1 0) (br (eqI y2 2) (law22_lives fun y0 => K y0) (K false)) (K false)) (br (eqI y2 0) (r22_Unbox (z0 0) z1 z2 fun y0_3 y1_1 => r22_Box (z0 0) y0_3 y1_1 fun y0_4 y1_2 => r22_Unbox (z0 1) y0_4 y1_2 fun y0_5 y1_3 => br (eqI y0 y0_5 && eqI y1 y1_3) (law22_lives fun y0 => K y0) (K false)) (K false)))
def law22_BoxForms.j213 (z0 : Nat) (z1 : Nat → Int) (z2 : Int) (z3 : Int) (K : Bool → Prop) : Prop :=
  br (!eqI 3 ↑z0) (K false) (law22_BoxForms.j181 z1 z2 z3 K)
def law22_BoxForms.j216 (z0 : Nat) (z1 : Nat → Int) (z2 : Int) (z3 : Int) (K : Bool → Prop) : Prop :=
  br (!eqI 2 ↑z0) (K false) (law22_BoxForms.j187 z1 z2 z3 K)
def law22_BoxForms.j217 (z0 : Int) (z1 : Int) (z2 : Nat) (z3 : Nat → Int) (z4 : Nat → Int) (z5 : Int) (z6 : Int) (K : Bool → Prop) : Prop :=
  br (isb 3 z0 z1) (br (leI (↑z2) 2) (K false) (gd (ltI 2 ↑z2) (br (!eqI 3 (z3 2)) (K false) (law22_BoxForms.j213 z2 z4 z5 z6 K)))) (law22_BoxForms.j216 z2 z4 z5 z6 K)
def law22_BoxForms.j220 (z0 : Nat) (z1 : Nat → Int) (z2 : Int) (z3 : Int) (K : Bool → Prop) : Prop :=
  br (!eqI 1 ↑z0) (K false) (law22_BoxForms.j194 z1 z2 z3 K)
def law22_BoxForms.j221 (z0 : Int) (z1 : Int) (z2 : Nat) (z3 : Nat → Int) (z4 : Nat → Int) (z5 : Int) (z6 : Int) (K : Bool → Prop) : Prop :=
  br (isb 3 z0 z1) (br (leI (↑z2) 1) (K false) (gd (ltI 1 ↑z2) (br (!eqI 3 (z3 1)) (K false) (law22_BoxForms.j216 z2 z4 z5 z6 K)))) (law22_BoxForms.j220 z2 z4 z5 z6 K)
def law22_BoxForms.j222 (z0 : Int) (z1 : Int) (z2 : Nat) (z3 : Nat → Int) (z4 : Nat → Int) (z5 : Int) (z6 : Int) (K : Bool → Prop) : Prop :=
  br (isb 1 z0 z1) (br (leI (↑z2) 1) (K false) (gd (ltI 1 ↑z2) (br (!eqI 1 (z3 1)) (K false) (law22_BoxForms.j217 z0 z1 z2 z3 z4 z5 z6 K)))) (law22_BoxForms.j221 z0 z1 z2 z3 z4 z5 z6 K)
def law22_BoxForms.j231 (z0 : Nat) (z1 : Int) (z2 : Int) (z3 : Int) (z4 : Nat → Int) (z5 : Nat → Int) (z6 : Int) (z7 : Int) (K : Bool → Prop) : Prop :=
  br (!eqI 4 ↑z0) (br (!eqI 4 z1) (K false) (br (isb 2 z2 z3) (br (leI (↑z0) 0) (K false) (gd (ltI 0 ↑z0) (br (!eqI 2 (z4 0)) (K false) (br (isb 0 z2 z3) (br (leI (↑z0) 1) (K false) (gd (ltI 1 ↑z0) (br (!eqI 0 (z4 1)) (K false) (br (isb 1 z2 z3) (br (leI (↑z0) 2) (K false) (gd (ltI 2 ↑z0) (br (!eqI 1 (z4 2)) (K false) (br (isb 3 z2 z3) (br (leI (↑z0) 3) (K false) (gd (ltI 3 ↑z0) (br (!eqI 3 (z4 3)) (K false) (br (!eqI 4 ↑z0) (K false) (law22_BoxForms.j176 z5 z6 z7 K))))) (law22_BoxForms.j183 z0 z5 z6 z7 K))))) (law22_BoxForms.j190 z2 z3 z0 z4 z5 z6 z7 K))))) (law22_BoxForms.j198 z2 z3 z0 z4 z5 z6 z7 K))))) (br (isb 0 z2 z3) (br (leI (↑z0) 0) (K false) (gd (ltI 0 ↑z0) (br (!eqI 0 (z4 0)) (K false) (law22_BoxForms.j198 z2 z3 z0 z4 z5 z6 z7 K)))) (br (isb 1 z2 z3) (br (leI (↑z0) 0) (K false) (gd (ltI 0 ↑z0) (br (!eqI 1 (z4 0)) (K false) (law22_BoxForms.j197 z2 z3 z0 z4 z5 z6 z7 K)))) (br (isb 3 z2 z3) (br (leI (↑z0) 0) (K false) (gd (ltI 0 ↑z0) (br (!eqI 3 (z4 0)) (K false) (law22_BoxForms.j196 z0 z5 z6 z7 K)))) (br (!eqI 0 ↑z0) (K false) (law22_BoxForms.j202 z5 z6 z7 K))))))) (br (isb 2 z2 z3) (br (leI (↑z0) 0) (K false) (gd (ltI 0 ↑z0) (br (!eqI 2 (z4 0)) (K false) (br (isb 0 z2 z3) (br (leI (↑z0) 1) (K false) (gd (ltI 1 ↑z0) (br (!eqI 0 (z4 1)) (K false) (br (isb 1 z2 z3) (br (leI (↑z0) 2) (K false) (gd (ltI 2 ↑z0) (br (!eqI 1 (z4 2)) (K false) (br (isb 3 z2 z3) (br (leI (↑z0) 3) (K false) (gd (ltI 3 ↑z0) (br (!eqI 3 (z4 3)) (K false) (br (!eqI 4 ↑z0) (K false) (law22_BoxForms.j176 z5 z6 z7 K))))) (law22_BoxForms.j213 z0 z5 z6 z7 K))))) (law22_BoxForms.j217 z2 z3 z0 z4 z5 z6 z7 K))))) (law22_BoxForms.j222 z2 z3 z0 z4 z5 z6 z7 K))))) (br (isb 0 z2 z3) (br (leI (↑z0) 0) (K false) (gd (ltI 0 ↑z0) (br (!eqI 0 (z4 0)) (K false) (law22_BoxForms.j222 z2 z3 z0 z4 z5 z6 z7 K)))) (br (isb 1 z2 z3) (br (leI (↑z0) 0) (K false) (gd (ltI 0 ↑z0) (br (!eqI 1 (z4 0)) (K false) (law22_BoxForms.j221 z2 z3 z0 z4 z5 z6 z7 K)))) (br (isb 3 z2 z3) (br (leI (↑z0) 0) (K false) (gd (ltI 0 ↑z0) (br (!eqI 3 (z4 0)) (K false) (law22_BoxForms.j220 z0 z5 z6 z7 K)))) (br (!eqI 0 ↑z0) (K false) (law22_BoxForms.j202 z5 z6 z7 K))))))
def law22_BoxForms.j233 (z0 : Nat) (z1 : Int) (z2 : Int) (z3 : Int) (z4 : Nat → Int) (z5 : Nat → Int) (z6 : Int) (z7 : Int) (K : Bool → Prop) : Prop :=
  law22_BoxForms.j173 z0 z1 z2 z3 z4 z5 z6 z7 K
def law22_BoxForms.j235 (z0 : Nat) (z1 : Int) (z2 : Int) (z3 : Int) (z4 : Nat → Int) (z5 : Nat → Int) (z6 : Int) (z7 : Int) (K : Bool → Prop) : Prop :=
  law22_BoxForms.j115 z0 z1 z2 z3 z4 z5 z6 z7 K
def law22_BoxForms.j236 (z0 : Int) (z1 : Int) (z2 : Nat) (z3 : Nat → Int) (z4 : Int) (z5 : Nat → Int) (z6 : Int) (z7 : Int) (K : Bool → Prop) : Prop :=
  br (isb 3 z0 z1) (br (leI (↑z2) 2) (K false) (gd (ltI 2 ↑z2) (br (!eqI 3 (z3 2)) (K false) (br (eqI 3 z4) (law22_BoxForms.j173 z2 z4 z0 z1 z3 z5 z6 z7 K) (law22_BoxForms.j233 z2 z4 z0 z1 z3 z5 z6 z7 K))))) (law22_BoxForms.j235 z2 z4 z0 z1 z3 z5 z6 z7 K)
def law22_BoxForms.j238 (z0 : Nat) (z1 : Int) (z2 : Int) (z3 : Int) (z4 : Nat → Int) (z5 : Nat → Int) (z6 : Int) (z7 : Int) (K : Bool → Prop) : Prop :=
  law22_BoxForms.j57 z0 z1 z2 z3 z4 z5 z6 z7 K
def law22_BoxForms.j239 (z0 : Int) (z1 : Int) (z2 : Nat) (z3 : Nat → Int) (z4 : Int) (z5 : Nat → Int) (z6 : Int) (z7 : Int) (K : Bool → Prop) : Prop :=
  br (isb 3 z0 z1) (br (leI (↑z2) 1) (K false) (gd (ltI 1 ↑z2) (br (!eqI 3 (z3 1)) (K false) (br (eqI 2 z4) (law22_BoxForms.j115 z2 z4 z0 z1 z3 z5 z6 z7 K) (law22_BoxForms.j235 z2 z4 z0 z1 z3 z5 z6 z7 K))))) (law22_BoxForms.j238 z2 z4 z0 z1 z3 z5 z6 z7 K)
def law22_BoxForms.j240 (z0 : Int) (z1 : Int) (z2 : Nat) (z3 : Nat → Int) (z4 : Int) (z5 : Nat → Int) (z6 : Int) (z7 : Int) (K : Bool → Prop) : Prop :=
  br (isb 1 z0 z1) (br (leI (↑z2) 1) (K false) (gd (ltI 1 ↑z2) (br (!eqI 1 (z3 1)) (K false) (br (eqI 2 z4) (law22_BoxForms.j115 z2 z4 z0 z1 z3 z5 z6 z7 K) (law22_BoxForms.j236 z0 z1 z2 z3 z4 z5 z6 z7 K))))) (law22_BoxForms.j239 z0 z1 z2 z3 z4 z5 z6 z7 K)
def law22_BoxForms.j244 (z0 : Nat → Int) (z1 : Int) (z2 : Int) (K : Bool → Prop) : Prop :=
  box_Within (z0 0) z1 z2 (z0 1) fun y0 y1 y2 => r22_Width (z0 0) fun y0_1 => br (eqI y0_1 0) (br (eqI y0 0 && eqI y1 0) (br (eqI y2 2) (law22_lives fun y0 => K y0) (K false)) (K false)) (r22_Width (z0 1) fun y0_2 => br (eqI y0_2 0) (br (eqI y0 0 && eqI y1 0) (br (eqI y2 2) (law22_lives fun y0 => K y0) (K false)) (K false)) (br (eqI y2 0) (r22_Unbox (z0 0) z1 z2 fun y0_3 y1_1 => r22_Box (z0 0) y0_3 y1_1 fun y0_4 y1_2 => r22_Unbox (z0 1) y0_4 y1_2 fun y0_5 y1_3 => br (eqI y0 y0_5 && eqI y1 y1_3) (law22_lives fun y0 => K y0) (K false)) (K false)))
def law22_BoxForms.j249 (z0 : Nat → Int) (z1 : Int) (z2 : Int) (K : Bool → Prop) : Prop :=
  box_Within (z0 0) z1 z2 (z0 1) fun y0 y1 y2 => r22_Width (z0 0) fun y0_1 => br (eqI y0_1 0) (br (eqI y0 0 && eqI y1 0) (br (eqI y2 2) (law22_lives fun y0 => K y0) (K false)) (K false)) (r22_Width (z0 1) fun y0_2 => br (eqI y0_2 0) (br (eqI y0 0 && eqI y1 0) (br (eqI y2 2) (law22_lives fun y0 => K y0) (K false)) (K false)) (br (eqI y2 0) (r22_Unbox (z0 0) z1 z2 fun y0_3 y1_1 => r22_Box (z0 0) y0_3 y1_1 fun y0_4 y1_2 => r22_Unbox (z0 1) y0_4 y1_2 fun y0_5 y1_3 => br (eqI y0 y0_5 && eqI y1 y1_3) (law22_lives fun y0 => K y0) (K false)) (K false)))
def law22_BoxForms.j251 (z0 : Nat) (z1 : Nat → Int) (z2 : Int) (z3 : Int) (K : Bool → Prop) : Prop :=
  br (!eqI 3 ↑z0) (K false) (law22_BoxForms.j249 z1 z2 z3 K)
def law22_BoxForms.j255 (z0 : Nat → Int) (z1 : Int) (z2 : Int) (K : Bool → Prop) : Prop :=
  box_Within (z0 0) z1 z2 (z0 1) fun y0 y1 y2 => r22_Width (z0 0) fun y0_1 => br (eqI y0_1 0) (br (eqI y0 0 && eqI y1 0) (br (eqI y2 2) (law22_lives fun y0 => K y0) (K false)) (K false)) (r22_Width (z0 1) fun y0_2 => br (eqI y0_2 0) (br (eqI y0 0 && eqI y1 0) (br (eqI y2 2) (law22_lives fun y0 => K y0) (K false)) (K false)) (br (eqI y2 0) (r22_Unbox (z0 0) z1 z2 fun y0_3 y1_1 => r22_Box (z0 0) y0_3 y1_1 fun y0_4 y1_2 => r22_Unbox (z0 1) y0_4 y1_2 fun y0_5 y1_3 => br (eqI y0 y0_5 && eqI y1 y1_3) (law22_lives fun y0 => K y0) (K false)) (K false)))
def law22_BoxForms.j257 (z0 : Nat) (z1 : Nat → Int) (z2 : Int) (z3 : Int) (K : Bool → Prop) : Prop :=
  br (!eqI 2 ↑z0) (K false) (law22_BoxForms.j255 z1 z2 z3 K)
def law22_BoxForms.j258 (z0 : Int) (z1 : Int) (z2 : Nat) (z3 : Nat → Int) (z4 : Nat → Int) (z5 : Int) (z6 : Int) (K : Bool → Prop) : Prop :=
  br (isb 3 z0 z1) (br (leI (↑z2) 2) (K false) (gd (ltI 2 ↑z2) (br (!eqI 3 (z3 2)) (K false) (law22_BoxForms.j251 z2 z4 z5 z6 K)))) (law22_BoxForms.j257 z2 z4 z5 z6 K)
def law22_BoxForms.j262 (z0 : Nat → Int) (z1 : Int) (z2 : Int) (K : Bool → Prop) : Prop :=
  box_Within (z0 0) z1 z2 (z0 1) fun y0 y1 y2 => r22_Width (z0 0) fun y0_1 => br (eqI y0_1 0) (br (eqI y0 0 && eqI y1 0) (br (eqI y2 2) (law22_lives fun y0 => K y0) (K false)) (K false)) (r22_Width (z0 1) fun y0_2 => br (eqI y0_2 0) (br (eqI y0 0 && eqI y1 0) (br (eqI y2 2) (law22_lives fun y0 => K y0) (K false)) (K false)) (br (eqI y2 0) (r22_Unbox (z0 0) z1 z2 fun y0_3 y1_1 => r22_Box (z0 0) y0_3 y1_1 fun y0_4 y1_2 => r22_Unbox (z0 1) y0_4 y1_2 fun y0_5 y1_3 => br (eqI y0 y0_5 && eqI y1 y1_3) (law22_lives fun y0 => K y0) (K false)) (K false)))
def law22_BoxForms.j264 (z0 : Nat) (z1 : Nat → Int) (z2 : Int) (z3 : Int) (K : Bool → Prop) : Prop :=
  br (!eqI 1 ↑z0) (K false) (law22_BoxForms.j262 z1 z2 z3 K)
def law22_BoxForms.j265 (z0 : Int) (z1 : Int) (z2 : Nat) (z3 : Nat → Int) (z4 : Nat → Int) (z5 : Int) (z6 : Int) (K : Bool → Prop) : Prop :=
  br (isb 3 z0 z1) (br (leI (↑z2) 1) (K false) (gd (ltI 1 ↑z2) (br (!eqI 3 (z3 1)) (K false) (law22_BoxForms.j257 z2 z4 z5 z6 K)))) (law22_BoxForms.j264 z2 z4 z5 z6 K)
def law22_BoxForms.j266 (z0 : Int) (z1 : Int) (z2 : Nat) (z3 : Nat → Int) (z4 : Nat → Int) (z5 : Int) (z6 : Int) (K : Bool → Prop) : Prop :=
  br (isb 1 z0 z1) (br (leI (↑z2) 1) (K false) (gd (ltI 1 ↑z2) (br (!eqI 1 (z3 1)) (K false) (law22_BoxForms.j258 z0 z1 z2 z3 z4 z5 z6 K)))) (law22_BoxForms.j265 z0 z1 z2 z3 z4 z5 z6 K)
def law22_BoxForms.j270 (z0 : Nat → Int) (z1 : Int) (z2 : Int) (K : Bool → Prop) : Prop :=
  box_Within (z0 0) z1 z2 (z0 1) fun y0 y1 y2 => r22_Width (z0 0) fun y0_1 => br (eqI y0_1 0) (br (eqI y0 0 && eqI y1 0) (br (eqI y2 2) (law22_lives fun y0 => K y0) (K false)) (K false)) (r22_Width (z0 1) fun y0_2 => br (eqI y0_2 0) (br (eqI y0 0 && eqI y1 0) (br (eqI y2 2) (law22_lives fun y0 => K y0) (K false)) (K false)) (br (eqI y2 0) (r22_Unbox (z0 0) z1 z2 fun y0_3 y1_1 => r22_Box (z0 0) y0_3 y1_1 fun y0_4 y1_2 => r22_Unbox (z0 1) y0_4 y1_2 fun y0_5 y1_3 => br (eqI y0 y0_5 && eqI y1 y1_3) (law22_lives fun y0 => K y0) (K false)) (K false)))
def law22_BoxForms.j281 (z0 : Nat) (z1 : Nat → Int) (z2 : Int) (z3 : Int) (K : Bool → Prop) : Prop :=
  br (!eqI 3 ↑z0) (K false) (law22_BoxForms.j249 z1 z2 z3 K)
def law22_BoxForms.j284 (z0 : Nat) (z1 : Nat → Int) (z2 : Int) (z3 : Int) (K : Bool → Prop) : Prop :=
  br (!eqI 2 ↑z0) (K false) (law22_BoxForms.j255 z1 z2 z3 K)
def law22_BoxForms.j285 (z0 : Int) (z1 : Int) (z2 : Nat) (z3 : Nat → Int) (z4 : Nat → Int) (z5 : Int) (z6 : Int) (K : Bool → Prop) : Prop :=
  br (isb 3 z0 z1) (br (leI (↑z2) 2) (K false) (gd (ltI 2 ↑z2) (br (!eqI 3 (z3 2)) (K false) (law22_BoxForms.j281 z2 z4 z5 z6 K)))) (law22_BoxForms.j284 z2 z4 z5 z6 K)
def law22_BoxForms.j288 (z0 : Nat) (z1 : Nat → Int) (z2 : Int) (z3 : Int) (K : Bool → Prop) : Prop :=
  br (!eqI 1 ↑z0) (K false) (law22_BoxForms.j262 z1 z2 z3 K)
def law22_BoxForms.j289 (z0 : Int) (z1 : Int) (z2 : Nat) (z3 : Nat → Int) (z4 : Nat → Int) (z5 : Int) (z6 : Int) (K : Bool → Prop) : Prop :=
  br (isb 3 z0 z1) (br (leI (↑z2) 1) (K false) (gd (ltI 1 ↑z2) (br (!eqI 3 (z3 1)) (K false) (law22_BoxForms.j284 z2 z4 z5 z6 K)))) (law22_BoxForms.j288 z2 z4 z5 z6 K)
def law22_BoxForms.j290 (z0 : Int) (z1 : Int) (z2 : Nat) (z3 : Nat → Int) (z4 : Nat → Int) (z5 : Int) (z6 : Int) (K : Bool → Prop) : Prop :=
  br (isb 1 z0 z1) (br (leI (↑z2) 1) (K false) (gd (ltI 1 ↑z2) (br (!eqI 1 (z3 1)) (K false) (law22_BoxForms.j285 z0 z1 z2 z3 z4 z5 z6 K)))) (law22_BoxForms.j289 z0 z1 z2 z3 z4 z5 z6 K)
def law22_BoxForms.d (a0_0 : Int) (a0_1 : Int) (a1 : Nat → Int) (a2 : Int) (K : Bool → Prop) : Prop :=
  law22_lives fun y0 => br (!y0) (K false) (r22_Forms a0_0 a0_1 fun y0 y1 => box_Forms a0_0 a0_1 fun y0_1 y1_1 => br (isb 2 y0_1 y1_1) (br (leI (↑y0) 0) (K false) (gd (ltI 0 ↑y0) (br (!eqI 2 (y1 0)) (K false) (br (eqI 1 a2) (law22_BoxForms.j57 y0 a2 y0_1 y1_1 y1 a1 a0_0 a0_1 K) (br (isb 0 y0_1 y1_1) (br (leI (↑y0) 1) (K false) (gd (ltI 1 ↑y0) (br (!eqI 0 (y1 1)) (K false) (br (eqI 2 a2) (law22_BoxForms.j115 y0 a2 y0_1 y1_1 y1 a1 a0_0 a0_1 K) (br (isb 1 y0_1 y1_1) (br (leI (↑y0) 2) (K false) (gd (ltI 2 ↑y0) (br (!eqI 1 (y1 2)) (K false) (br (eqI 3 a2) (law22_BoxForms.j173 y0 a2 y0_1 y1_1 y1 a1 a0_0 a0_1 K) (br (isb 3 y0_1 y1_1) (br (leI (↑y0) 3) (K false) (gd (ltI 3 ↑y0) (br (!eqI 3 (y1 3)) (K false) (br (eqI 4 a2) (law22_BoxForms.j231 y0 a2 y0_1 y1_1 y1 a1 a0_0 a0_1 K) (law22_BoxForms.j231 y0 a2 y0_1 y1_1 y1 a1 a0_0 a0_1 K))))) (law22_BoxForms.j233 y0 a2 y0_1 y1_1 y1 a1 a0_0 a0_1 K)))))) (law22_BoxForms.j236 y0_1 y1_1 y0 y1 a2 a1 a0_0 a0_1 K)))))) (law22_BoxForms.j240 y0_1 y1_1 y0 y1 a2 a1 a0_0 a0_1 K)))))) (br (isb 0 y0_1 y1_1) (br (leI (↑y0) 0) (K false) (gd (ltI 0 ↑y0) (br (!eqI 0 (y1 0)) (K false) (br (eqI 1 a2) (law22_BoxForms.j57 y0 a2 y0_1 y1_1 y1 a1 a0_0 a0_1 K) (law22_BoxForms.j240 y0_1 y1_1 y0 y1 a2 a1 a0_0 a0_1 K))))) (br (isb 1 y0_1 y1_1) (br (leI (↑y0) 0) (K false) (gd (ltI 0 ↑y0) (br (!eqI 1 (y1 0)) (K false) (br (eqI 1 a2) (law22_BoxForms.j57 y0 a2 y0_1 y1_1 y1 a1 a0_0 a0_1 K) (law22_BoxForms.j239 y0_1 y1_1 y0 y1 a2 a1 a0_0 a0_1 K))))) (br (isb 3 y0_1 y1_1) (br (leI (↑y0) 0) (K false) (gd (ltI 0 ↑y0) (br (!eqI 3 (y1 0)) (K false) (br (eqI 1 a2) (law22_BoxForms.j57 y0 a2 y0_1 y1_1 y1 a1 a0_0 a0_1 K) (law22_BoxForms.j238 y0 a2 y0_1 y1_1 y1 a1 a0_0 a0_1 K))))) (br (!eqI 0 ↑y0) (br (!eqI 0 a2) (K false) (br (isb 2 y0_1 y1_1) (br (leI (↑y0) 0) (K false) (gd (ltI 0 ↑y0) (br (!eqI 2 (y1 0)) (K false) (br (isb 0 y0_1 y1_1) (br (leI (↑y0) 1) (K false) (gd (ltI 1 ↑y0) (br (!eqI 0 (y1 1)) (K false) (br (isb 1 y0_1 y1_1) (br (leI (↑y0) 2) (K false) (gd (ltI 2 ↑y0) (br (!eqI 1 (y1 2)) (K false) (br (isb 3 y0_1 y1_1) (br (leI (↑y0) 3) (K false) (gd (ltI 3 ↑y0) (br (!eqI 3 (y1 3)) (K false) (br (!eqI 4 ↑y0) (K false) (law22_BoxForms.j244 a1 a0_0 a0_1 K))))) (law22_BoxForms.j251 y0 a1 a0_0 a0_1 K))))) (law22_BoxForms.j258 y0_1 y1_1 y0 y1 a1 a0_0 a0_1 K))))) (law22_BoxForms.j266 y0_1 y1_1 y0 y1 a1 a0_0 a0_1 K))))) (br (isb 0 y0_1 y1_1) (br (leI (↑y0) 0) (K false) (gd (ltI 0 ↑y0) (br (!eqI 0 (y1 0)) (K false) (law22_BoxForms.j266 y0_1 y1_1 y0 y1 a1 a0_0 a0_1 K)))) (br (isb 1 y0_1 y1_1) (br (leI (↑y0) 0) (K false) (gd (ltI 0 ↑y0) (br (!eqI 1 (y1 0)) (K false) (law22_BoxForms.j265 y0_1 y1_1 y0 y1 a1 a0_0 a0_1 K)))) (br (isb 3 y0_1 y1_1) (br (leI (↑y0) 0) (K false) (gd (ltI 0 ↑y0) (br (!eqI 3 (y1 0)) (K false) (law22_BoxForms.j264 y0 a1 a0_0 a0_1 K)))) (br (!eqI 0 ↑y0) (K false) (law22_BoxForms.j270 a1 a0_0 a0_1 K))))))) (br (isb 2 y0_1 y1_1) (br (leI (↑y0) 0) (K false) (gd (ltI 0 ↑y0) (br (!eqI 2 (y1 0)) (K false) (br (isb 0 y0_1 y1_1) (br (leI (↑y0) 1) (K false) (gd (ltI 1 ↑y0) (br (!eqI 0 (y1 1)) (K false) (br (isb 1 y0_1 y1_1) (br (leI (↑y0) 2) (K false) (gd (ltI 2 ↑y0) (br (!eqI 1 (y1 2)) (K false) (br (isb 3 y0_1 y1_1) (br (leI (↑y0) 3) (K false) (gd (ltI 3 ↑y0) (br (!eqI 3 (y1 3)) (K false) (br (!eqI 4 ↑y0) (K false) (law22_BoxForms.j244 a1 a0_0 a0_1 K))))) (law22_BoxForms.j281 y0 a1 a0_0 a0_1 K))))) (law22_BoxForms.j285 y0_1 y1_1 y0 y1 a1 a0_0 a0_1 K))))) (law22_BoxForms.j290 y0_1 y1_1 y0 y1 a1 a0_0 a0_1 K))))) (br (isb 0 y0_1 y1_1) (br (leI (↑y0) 0) (K false) (gd (ltI 0 ↑y0) (br (!eqI 0 (y1 0)) (K false) (law22_BoxForms.j290 y0_1 y1_1 y0 y1 a1 a0_0 a0_1 K)))) (br (isb 1 y0_1 y1_1) (br (leI (↑y0) 0) (K false) (gd (ltI 0 ↑y0) (br (!eqI 1 (y1 0)) (K false) (law22_BoxForms.j289 y0_1 y1_1 y0 y1 a1 a0_0 a0_1 K)))) (br (isb 3 y0_1 y1_1) (br (leI (↑y0) 0) (K false) (gd (ltI 0 ↑y0) (br (!eqI 3 (y1 0)) (K false) (law22_BoxForms.j288 y0 a1 a0_0 a0_1 K)))) (br (!eqI 0 ↑y0) (K false) (law22_BoxForms.j270 a1 a0_0 a0_1 K)))))))))))
noncomputable def law22_BoxForms : Int → Int → (Nat → Int) → Int → (Bool → Prop) → Prop := Classical.choose (⟨law22_BoxForms.d, rfl⟩ : ∃ f, f = law22_BoxForms.d)
theorem law22_BoxForms.is : law22_BoxForms = law22_BoxForms.d := Classical.choose_spec (⟨law22_BoxForms.d, rfl⟩ : ∃ f, f = law22_BoxForms.d)
end Go.Ev.S
