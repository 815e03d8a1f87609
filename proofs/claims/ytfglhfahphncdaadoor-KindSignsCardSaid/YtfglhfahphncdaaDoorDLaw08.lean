/- The functions as the evaluator has them: what each comes to. -/
import Derived.Test.YtfglhfahphncdaaDoorEvNum
import Derived.Test.YtfglhfahphncdaaDoorDKind
import Derived.Test.YtfglhfahphncdaaDoorDR07
import Derived.Test.YtfglhfahphncdaaDoorDR08
set_option maxRecDepth 100000
set_option linter.unusedVariables false
set_option linter.unusedSimpArgs false
namespace Go.Ev.S
open Go Go.Ev
def law08_alive.d (K : Bool → Prop) : Prop :=
  kind_Class 2 0 32768 fun y0 y1 => kind_Unpack 2 0 15360 fun y0_1 y1_1 y2 y3 y4 => kind_Class 4 0 0 fun y0_2 y1_2 => br (eqI y0 3) (br (eqI y1 0) (br (eqI y4 0) (br (eqN 6 y1_1 (upd (fun x => 0) 0 1024)) (br (eqI y2 (-10)) (K (eqI y1_2 2)) (K false)) (K false)) (K false)) (K false)) (K false)
noncomputable def law08_alive : (Bool → Prop) → Prop := Classical.choose (⟨law08_alive.d, rfl⟩ : ∃ f, f = law08_alive.d)
theorem law08_alive.is : law08_alive = law08_alive.d := Classical.choose_spec (⟨law08_alive.d, rfl⟩ : ∃ f, f = law08_alive.d)
def law08_fits.d (a0 : Int) (a1_0 : Int) (a1_1 : Int) (K : Bool → Prop) : Prop :=
  r07_Fits a0 a1_0 a1_1 fun y0 => K y0
noncomputable def law08_fits : Int → Int → Int → (Bool → Prop) → Prop := Classical.choose (⟨law08_fits.d, rfl⟩ : ∃ f, f = law08_fits.d)
theorem law08_fits.is : law08_fits = law08_fits.d := Classical.choose_spec (⟨law08_fits.d, rfl⟩ : ∃ f, f = law08_fits.d)
def law08_KindSigns.d (a0 : Int) (a1_0 : Int) (a1_1 : Int) (K : Bool → Prop) : Prop :=
  kind_Sign a0 a1_0 a1_1 fun y0 => r08_Sign a0 a1_0 a1_1 fun y0_1 => br (!beqB y0 y0_1) (K false) (kind_Flip a0 a1_0 a1_1 fun y0 y1 => r08_Flip a0 a1_0 a1_1 fun y0_2 y1_1 => br (!(eqI y0 y0_2 && eqI y1 y1_1)) (K false) (kind_Quiet a0 a1_0 a1_1 fun y0 y1 => r08_Quiet a0 a1_0 a1_1 fun y0_3 y1_2 => br (!(eqI y0 y0_3 && eqI y1 y1_2)) (K false) (kind_Next a0 a1_0 a1_1 fun y0 y1 y2 => law08_fits a0 a1_0 a1_1 fun y0_4 => br (!y0_4) (br (eqI y0 0 && eqI y1 0) (br (eqI y2 2) (law08_alive fun y0 => K y0) (K false)) (K false)) (r08_Next a0 a1_0 a1_1 fun y0_5 y1_3 y2_1 => br (eqI y0 y0_5 && eqI y1 y1_3) (br (eqI y2 y2_1) (law08_alive fun y0 => K y0) (K false)) (K false)))))
noncomputable def law08_KindSigns : Int → Int → Int → (Bool → Prop) → Prop := Classical.choose (⟨law08_KindSigns.d, rfl⟩ : ∃ f, f = law08_KindSigns.d)
theorem law08_KindSigns.is : law08_KindSigns = law08_KindSigns.d := Classical.choose_spec (⟨law08_KindSigns.d, rfl⟩ : ∃ f, f = law08_KindSigns.d)
end Go.Ev.S
