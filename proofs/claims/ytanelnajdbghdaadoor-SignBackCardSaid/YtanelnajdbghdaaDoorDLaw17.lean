/- The functions as the evaluator has them: what each comes to. -/
import Derived.Test.YtanelnajdbghdaaDoorEvNum
import Derived.Test.YtanelnajdbghdaaDoorDKind
import Derived.Test.YtanelnajdbghdaaDoorDR07
import Derived.Test.YtanelnajdbghdaaDoorDR08
import Derived.Test.YtanelnajdbghdaaDoorDR17
import Derived.Test.YtanelnajdbghdaaDoorDSign
set_option maxRecDepth 100000
set_option linter.unusedVariables false
set_option linter.unusedSimpArgs false
namespace Go.Ev.S
open Go Go.Ev
def law17_alive.d (K : Bool → Prop) : Prop :=
  sign_Copy 2 0 15360 0 32768 fun y0 y1 y2 => sign_Classify 2 0 32256 fun y0_1 y1_1 => br (eqI y0 0 && eqI y1 48128) (br (eqI y2 0) (br (eqI y0_1 512) (K (eqI y1_1 0)) (K false)) (K false)) (K false)
noncomputable def law17_alive : (Bool → Prop) → Prop := Classical.choose (⟨law17_alive.d, rfl⟩ : ∃ f, f = law17_alive.d)
theorem law17_alive.is : law17_alive = law17_alive.d := Classical.choose_spec (⟨law17_alive.d, rfl⟩ : ∃ f, f = law17_alive.d)
def law17_SignBack.d (a0 : Int) (a1_0 : Int) (a1_1 : Int) (a2_0 : Int) (a2_1 : Int) (K : Bool → Prop) : Prop :=
  sign_Copy a0 a1_0 a1_1 a1_0 a1_1 fun y0 y1 y2 => sign_Not a0 a1_0 a1_1 a1_0 a1_1 fun y0_1 y1_1 y2_1 => sign_Xor a0 a1_0 a1_1 a2_0 a2_1 fun y0_2 y1_2 y2_2 => br (!eqI y2 0) (br (eqI y2 2) (law17_alive fun y0 => K y0) (br (eqI y2_2 2) (law17_alive fun y0 => K y0) (K false))) (br (!eqI y2_2 0) (br (eqI y2 2) (law17_alive fun y0 => K y0) (br (eqI y2_2 2) (law17_alive fun y0 => K y0) (K false))) (sign_Xor a0 y0_2 y1_2 a2_0 a2_1 fun y0_3 y1_3 y2 => sign_Classify a0 a1_0 a1_1 fun y0_4 y1_4 => br (!(eqI y0 a1_0 && eqI y1 a1_1)) (K false) (br (!eqI y2_1 0) (K false) (kind_Flip a0 a1_0 a1_1 fun y0 y1 => br (!(eqI y0_1 y0 && eqI y1_1 y1)) (K false) (br (!(eqI y0_3 a1_0 && eqI y1_3 a1_1)) (K false) (br (eqI y0_4 0) (K false) (br (!eqI (andI IntKind.u64 y0_4 (subI IntKind.u64 y0_4 1)) 0) (K false) (br (ltI 512 y0_4) (K false) (sign_ToWord a0 a1_0 a1_1 fun y0 y1 => sign_OfWord a0 y0 fun y0 y1_5 y2 => br (eqI a0 3) (br (eqI y1 2) (law17_alive fun y0 => K y0) (br (eqI y1 0) (br (eqI y2 0) (br (eqI y0 a1_0 && eqI y1_5 a1_1) (law17_alive fun y0 => K y0) (K false)) (K false)) (K false))) (br (eqI y1 0) (br (eqI y2 0) (br (eqI y0 a1_0 && eqI y1_5 a1_1) (law17_alive fun y0 => K y0) (K false)) (K false)) (K false)))))))))))
noncomputable def law17_SignBack : Int → Int → Int → Int → Int → (Bool → Prop) → Prop := Classical.choose (⟨law17_SignBack.d, rfl⟩ : ∃ f, f = law17_SignBack.d)
theorem law17_SignBack.is : law17_SignBack = law17_SignBack.d := Classical.choose_spec (⟨law17_SignBack.d, rfl⟩ : ∃ f, f = law17_SignBack.d)
def law17_SignInjects.d (a0 : Int) (a1_0 : Int) (a1_1 : Int) (a2_0 : Int) (a2_1 : Int) (K : Bool → Prop) : Prop :=
  sign_Copy a0 a1_0 a1_1 a2_0 a2_1 fun y0 y1 y2 => sign_Not a0 a1_0 a1_1 a2_0 a2_1 fun y0_1 y1_1 y2_1 => sign_Xor a0 a1_0 a1_1 a2_0 a2_1 fun y0_2 y1_2 y2_2 => r07_Fits a0 a1_0 a1_1 fun y0_3 => br (!y0_3) (br (eqI y0 0 && eqI y1 0) (br (eqI y0_1 0 && eqI y1_1 0) (br (eqI y0_2 0 && eqI y1_2 0) (br (eqI y2 2) (br (eqI y2_1 2) (br (eqI y2_2 2) (law17_alive fun y0 => K y0) (K false)) (K false)) (K false)) (K false)) (K false)) (K false)) (r07_Fits a0 a2_0 a2_1 fun y0_4 => br (!y0_4) (br (eqI y0 0 && eqI y1 0) (br (eqI y0_1 0 && eqI y1_1 0) (br (eqI y0_2 0 && eqI y1_2 0) (br (eqI y2 2) (br (eqI y2_1 2) (br (eqI y2_2 2) (law17_alive fun y0 => K y0) (K false)) (K false)) (K false)) (K false)) (K false)) (K false)) (r08_Sign a0 a1_0 a1_1 fun y0_5 => r08_Sign a0 a2_0 a2_1 fun y0_6 => r17_With a0 a1_0 a1_1 y0_6 fun y0_7 y1_3 => br (eqI y0 y0_7 && eqI y1 y1_3) (r17_With a0 a1_0 a1_1 (!y0_6) fun y0 y1 => br (eqI y0_1 y0 && eqI y1_1 y1) (r17_With a0 a1_0 a1_1 (!beqB y0_5 y0_6) fun y0 y1 => br (eqI y0_2 y0 && eqI y1_2 y1) (br (eqI y2 0) (br (eqI y2_1 0) (br (eqI y2_2 0) (law17_alive fun y0 => K y0) (K false)) (K false)) (K false)) (K false)) (K false)) (K false)))
noncomputable def law17_SignInjects : Int → Int → Int → Int → Int → (Bool → Prop) → Prop := Classical.choose (⟨law17_SignInjects.d, rfl⟩ : ∃ f, f = law17_SignInjects.d)
theorem law17_SignInjects.is : law17_SignInjects = law17_SignInjects.d := Classical.choose_spec (⟨law17_SignInjects.d, rfl⟩ : ∃ f, f = law17_SignInjects.d)
def law17_SignWords.d (a0 : Int) (a1_0 : Int) (a1_1 : Int) (a2 : Int) (K : Bool → Prop) : Prop :=
  sign_Classify a0 a1_0 a1_1 fun y0 y1 => r07_Fits a0 a1_0 a1_1 fun y0_1 => br (!y0_1) (br (!eqI y0 0) (K false) (br (!eqI y1 2) (K false) (sign_ToWord a0 a1_0 a1_1 fun y0 y1 => r17_ToWord a0 a1_0 a1_1 fun y0_2 y1_1 => sign_OfWord a0 a2 fun y0_3 y1_2 y2 => r17_OfWord a0 a2 fun y0_4 y1_3 y2_1 => br (eqI y0 y0_2) (br (eqI y1 y1_1) (br (eqI y0_3 y0_4 && eqI y1_2 y1_3) (br (eqI y2 y2_1) (law17_alive fun y0 => K y0) (K false)) (K false)) (K false)) (K false)))) (r17_Classify a0 a1_0 a1_1 fun y0_2 => br (!eqI y0 y0_2) (K false) (br (!eqI y1 0) (K false) (sign_ToWord a0 a1_0 a1_1 fun y0 y1 => r17_ToWord a0 a1_0 a1_1 fun y0_3 y1_1 => sign_OfWord a0 a2 fun y0_4 y1_2 y2 => r17_OfWord a0 a2 fun y0_5 y1_3 y2_1 => br (eqI y0 y0_3) (br (eqI y1 y1_1) (br (eqI y0_4 y0_5 && eqI y1_2 y1_3) (br (eqI y2 y2_1) (law17_alive fun y0 => K y0) (K false)) (K false)) (K false)) (K false))))
noncomputable def law17_SignWords : Int → Int → Int → Int → (Bool → Prop) → Prop := Classical.choose (⟨law17_SignWords.d, rfl⟩ : ∃ f, f = law17_SignWords.d)
theorem law17_SignWords.is : law17_SignWords = law17_SignWords.d := Classical.choose_spec (⟨law17_SignWords.d, rfl⟩ : ∃ f, f = law17_SignWords.d)
end Go.Ev.S
