/- The functions as the evaluator has them: what each comes to. -/
import Derived.Test.YtfglhfahphncdaaDoorEvNum
import Derived.Test.YtfglhfahphncdaaDoorDBits
set_option maxRecDepth 100000
set_option linter.unusedVariables false
set_option linter.unusedSimpArgs false
namespace Go.Ev.S
open Go Go.Ev
def word_one.d (a0 : Bool) (K : Int → Prop) : Prop :=
  br a0 (K 1) (K 0)
noncomputable def word_one : Bool → (Int → Prop) → Prop := Classical.choose (⟨word_one.d, rfl⟩ : ∃ f, f = word_one.d)
theorem word_one.is : word_one = word_one.d := Classical.choose_spec (⟨word_one.d, rfl⟩ : ∃ f, f = word_one.d)
def word_Add.d (a0 : Int) (a1 : Int) (a2 : Bool) (K : Int → Bool → Prop) : Prop :=
  word_one a2 fun y0 => br (ltI (addI IntKind.u64 a0 a1) a0) (K (addI IntKind.u64 (addI IntKind.u64 a0 a1) y0) true) (br a2 (K (addI IntKind.u64 (addI IntKind.u64 a0 a1) y0) (eqI (addI IntKind.u64 (addI IntKind.u64 a0 a1) y0) 0)) (K (addI IntKind.u64 (addI IntKind.u64 a0 a1) y0) false))
noncomputable def word_Add : Int → Int → Bool → (Int → Bool → Prop) → Prop := Classical.choose (⟨word_Add.d, rfl⟩ : ∃ f, f = word_Add.d)
theorem word_Add.is : word_Add = word_Add.d := Classical.choose_spec (⟨word_Add.d, rfl⟩ : ∃ f, f = word_Add.d)
def word_Extend.d (a0 : Int) (a1 : Int) (K : Int → Prop) : Prop :=
  gd (!ltI (cvI IntKind.u64 (subI IntKind.i64 64 (minI (maxI a1 1) 64))) 0) (gd (!ltI (cvI IntKind.u64 (subI IntKind.i64 64 (minI (maxI a1 1) 64))) 0) (K (cvI IntKind.u64 (shrI IntKind.i64 (cvI IntKind.i64 (shlI IntKind.u64 a0 (cvI IntKind.u64 (subI IntKind.i64 64 (minI (maxI a1 1) 64))))) (cvI IntKind.u64 (subI IntKind.i64 64 (minI (maxI a1 1) 64)))))))
noncomputable def word_Extend : Int → Int → (Int → Prop) → Prop := Classical.choose (⟨word_Extend.d, rfl⟩ : ∃ f, f = word_Extend.d)
theorem word_Extend.is : word_Extend = word_Extend.d := Classical.choose_spec (⟨word_Extend.d, rfl⟩ : ∃ f, f = word_Extend.d)
def word_Len.d (a0 : Int) (K : Int → Prop) : Prop :=
  bits_Len64 a0 fun y0 => K y0
noncomputable def word_Len : Int → (Int → Prop) → Prop := Classical.choose (⟨word_Len.d, rfl⟩ : ∃ f, f = word_Len.d)
theorem word_Len.is : word_Len = word_Len.d := Classical.choose_spec (⟨word_Len.d, rfl⟩ : ∃ f, f = word_Len.d)
def word_Low.d (a0 : Int) (K : Int → Prop) : Prop :=
  bits_TrailingZeros64 a0 fun y0 => K y0
noncomputable def word_Low : Int → (Int → Prop) → Prop := Classical.choose (⟨word_Low.d, rfl⟩ : ∃ f, f = word_Low.d)
theorem word_Low.is : word_Low = word_Low.d := Classical.choose_spec (⟨word_Low.d, rfl⟩ : ∃ f, f = word_Low.d)
def word_count.d (a0 : Int) (K : Int → Prop) : Prop :=
  K (cvI IntKind.u64 (minI (maxI a0 0) 64))
noncomputable def word_count : Int → (Int → Prop) → Prop := Classical.choose (⟨word_count.d, rfl⟩ : ∃ f, f = word_count.d)
theorem word_count.is : word_count = word_count.d := Classical.choose_spec (⟨word_count.d, rfl⟩ : ∃ f, f = word_count.d)
def word_Mask.d (a0 : Int) (K : Int → Prop) : Prop :=
  word_count a0 fun y0 => gd (!ltI y0 0) (K (subI IntKind.u64 (shlI IntKind.u64 1 y0) 1))
noncomputable def word_Mask : Int → (Int → Prop) → Prop := Classical.choose (⟨word_Mask.d, rfl⟩ : ∃ f, f = word_Mask.d)
theorem word_Mask.is : word_Mask = word_Mask.d := Classical.choose_spec (⟨word_Mask.d, rfl⟩ : ∃ f, f = word_Mask.d)
end Go.Ev.S
