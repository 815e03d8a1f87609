/- The functions as the evaluator has them: what each comes to. -/
import Derived.Test.YtdnndfaojopnbaaEvNum
import Derived.Test.YtdnndfaojopnbaaDShape
set_option maxRecDepth 100000
set_option linter.unusedVariables false
set_option linter.unusedSimpArgs false
namespace Go.Ev.S
open Go Go.Ev
def box_above.d (a0 : Int) (K : Int → Int → Prop) : Prop :=
  br (eqI a0 0) (K 18446744073709551615 18446744069414584320) (br (eqI a0 1) (K 18446744073709551615 0) (br (eqI a0 2) (K 18446744073709551615 18446744073709486080) (br (eqI a0 3) (K 0 0) False)))
noncomputable def box_above : Int → (Int → Int → Prop) → Prop := Classical.choose (⟨box_above.d, rfl⟩ : ∃ f, f = box_above.d)
theorem box_above.is : box_above = box_above.d := Classical.choose_spec (⟨box_above.d, rfl⟩ : ∃ f, f = box_above.d)
def box_Above.d (a0 : Int) (K : Int → Int → Int → Prop) : Prop :=
  shape_Check a0 fun y0 => br (!eqI y0 0) (K 0 0 2) (box_above a0 fun y0 y1 => K y0 y1 0)
noncomputable def box_Above : Int → (Int → Int → Int → Prop) → Prop := Classical.choose (⟨box_Above.d, rfl⟩ : ∃ f, f = box_Above.d)
theorem box_Above.is : box_Above = box_Above.d := Classical.choose_spec (⟨box_Above.d, rfl⟩ : ∃ f, f = box_Above.d)
def box_Box.d (a0 : Int) (a1_0 : Int) (a1_1 : Int) (K : Int → Int → Int → Prop) : Prop :=
  shape_Fits a0 a1_0 a1_1 fun y0 => br (!y0) (K 0 0 2) (box_above a0 fun y0 y1 => K (orI IntKind.u64 a1_0 y0) (orI IntKind.u64 a1_1 y1) 0)
noncomputable def box_Box : Int → Int → Int → (Int → Int → Int → Prop) → Prop := Classical.choose (⟨box_Box.d, rfl⟩ : ∃ f, f = box_Box.d)
theorem box_Box.is : box_Box = box_Box.d := Classical.choose_spec (⟨box_Box.d, rfl⟩ : ∃ f, f = box_Box.d)
def box_IsBoxed.d (a0 : Int) (a1_0 : Int) (a1_1 : Int) (K : Bool → Prop) : Prop :=
  box_Above a0 fun y0 y1 y2 => br (eqI y2 0) (K (eqI (andI IntKind.u64 a1_0 y0) y0 && eqI (andI IntKind.u64 a1_1 y1) y1)) (K false)
noncomputable def box_IsBoxed : Int → Int → Int → (Bool → Prop) → Prop := Classical.choose (⟨box_IsBoxed.d, rfl⟩ : ∃ f, f = box_IsBoxed.d)
theorem box_IsBoxed.is : box_IsBoxed = box_IsBoxed.d := Classical.choose_spec (⟨box_IsBoxed.d, rfl⟩ : ∃ f, f = box_IsBoxed.d)
def box_Low.d (a0 : Int) (a1_0 : Int) (a1_1 : Int) (K : Int → Int → Int → Prop) : Prop :=
  box_Above a0 fun y0 y1 y2 => br (!eqI y2 0) (K 0 0 y2) (K (andNotI IntKind.u64 a1_0 y0) (andNotI IntKind.u64 a1_1 y1) 0)
noncomputable def box_Low : Int → Int → Int → (Int → Int → Int → Prop) → Prop := Classical.choose (⟨box_Low.d, rfl⟩ : ∃ f, f = box_Low.d)
theorem box_Low.is : box_Low = box_Low.d := Classical.choose_spec (⟨box_Low.d, rfl⟩ : ∃ f, f = box_Low.d)
def box_Unbox.d (a0 : Int) (a1_0 : Int) (a1_1 : Int) (K : Int → Int → Int → Prop) : Prop :=
  box_Low a0 a1_0 a1_1 fun y0 y1 y2 => br (!eqI y2 0) (K 0 0 y2) (box_IsBoxed a0 a1_0 a1_1 fun y0_1 => br (!y0_1) (shape_NaN a0 fun y0 y1 => K y0 y1 0) (K y0 y1 0))
noncomputable def box_Unbox : Int → Int → Int → (Int → Int → Int → Prop) → Prop := Classical.choose (⟨box_Unbox.d, rfl⟩ : ∃ f, f = box_Unbox.d)
theorem box_Unbox.is : box_Unbox = box_Unbox.d := Classical.choose_spec (⟨box_Unbox.d, rfl⟩ : ∃ f, f = box_Unbox.d)
def box_Within.d (a0 : Int) (a1_0 : Int) (a1_1 : Int) (a2 : Int) (K : Int → Int → Int → Prop) : Prop :=
  box_Unbox a0 a1_0 a1_1 fun y0 y1 y2 => br (!eqI y2 0) (K 0 0 y2) (box_Box a0 y0 y1 fun y0 y1 y2 => br (!eqI y2 0) (K 0 0 y2) (box_Unbox a2 y0 y1 fun y0 y1 y2 => K y0 y1 y2))
noncomputable def box_Within : Int → Int → Int → Int → (Int → Int → Int → Prop) → Prop := Classical.choose (⟨box_Within.d, rfl⟩ : ∃ f, f = box_Within.d)
theorem box_Within.is : box_Within = box_Within.d := Classical.choose_spec (⟨box_Within.d, rfl⟩ : ∃ f, f = box_Within.d)
end Go.Ev.S
