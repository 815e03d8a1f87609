/- The functions as the evaluator has them: what each comes to. -/
import Derived.Test.YtfglhfahphncdaaDoorEvNum
import Derived.Test.YtfglhfahphncdaaDoorDR10
import Derived.Test.YtfglhfahphncdaaDoorDRound
set_option maxRecDepth 100000
set_option linter.unusedVariables false
set_option linter.unusedSimpArgs false
namespace Go.Ev.S
open Go Go.Ev
def law10_alive.d (K : Bool → Prop) : Prop :=
  round_Pack 2 0 false (upd (fun x => 0) 0 4095) 0 false fun y0 y1 y2 y3 => round_Pack 2 3 false (upd (fun x => 0) 0 4095) 0 true fun y0_1 y1_1 y2_1 y3_1 => br (eqI y0 0 && eqI y1 27648) (br (eqI y2 1) (br (eqI y3 0) (K (eqI y3_1 2)) (K false)) (K false)) (K false)
noncomputable def law10_alive : (Bool → Prop) → Prop := Classical.choose (⟨law10_alive.d, rfl⟩ : ∃ f, f = law10_alive.d)
theorem law10_alive.is : law10_alive = law10_alive.d := Classical.choose_spec (⟨law10_alive.d, rfl⟩ : ∃ f, f = law10_alive.d)
def law10_RoundOver.d (a0 : Int) (a1 : Int) (a2 : Bool) (a3 : Bool) (a4 : Int) (a5 : Bool) (K : Bool → Prop) : Prop :=
  round_Over a0 a1 a2 fun y0 y1 y2 y3 => r10_Over a0 a1 a2 fun y0_1 y1_1 y2_1 y3_1 => br (eqI y0 y0_1 && eqI y1 y1_1) (br (eqI y2 y2_1) (br (eqI y3 y3_1) (round_Up a1 a2 a3 a4 a5 fun y0 => r10_Up a1 a2 a3 a4 a5 fun y0_2 => br (beqB y0 y0_2) (law10_alive fun y0 => K y0) (K false)) (K false)) (K false)) (K false)
noncomputable def law10_RoundOver : Int → Int → Bool → Bool → Int → Bool → (Bool → Prop) → Prop := Classical.choose (⟨law10_RoundOver.d, rfl⟩ : ∃ f, f = law10_RoundOver.d)
theorem law10_RoundOver.is : law10_RoundOver = law10_RoundOver.d := Classical.choose_spec (⟨law10_RoundOver.d, rfl⟩ : ∃ f, f = law10_RoundOver.d)
end Go.Ev.S
