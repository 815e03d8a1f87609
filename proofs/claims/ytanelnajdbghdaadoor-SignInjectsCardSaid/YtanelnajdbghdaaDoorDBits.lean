/- The functions as the evaluator has them: what each comes to. -/
import Derived.Test.YtanelnajdbghdaaDoorEvTab
set_option maxRecDepth 100000
set_option linter.unusedVariables false
set_option linter.unusedSimpArgs false
namespace Go.Ev.S
open Go Go.Ev
def bits_TrailingZeros64.d (a0 : Int) (K : Int → Prop) : Prop :=
  br (eqI a0 0) (K 64) ((leI 0 (shrI IntKind.u64 (mulI IntKind.u64 (andI IntKind.u64 a0 (negI IntKind.u64 a0)) 285870213051353865) 58) && ltI (shrI IntKind.u64 (mulI IntKind.u64 (andI IntKind.u64 a0 (negI IntKind.u64 a0)) 285870213051353865) 58) 64) = true ∧ (K (cvI IntKind.i64 (tab_deBruijn64tab (Int.toNat (shrI IntKind.u64 (mulI IntKind.u64 (andI IntKind.u64 a0 (negI IntKind.u64 a0)) 285870213051353865) 58))))))
noncomputable def bits_TrailingZeros64 : Int → (Int → Prop) → Prop := Classical.choose (⟨bits_TrailingZeros64.d, rfl⟩ : ∃ f, f = bits_TrailingZeros64.d)
theorem bits_TrailingZeros64.is : bits_TrailingZeros64 = bits_TrailingZeros64.d := Classical.choose_spec (⟨bits_TrailingZeros64.d, rfl⟩ : ∃ f, f = bits_TrailingZeros64.d)
end Go.Ev.S
