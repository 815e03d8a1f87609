/- The functions as the evaluator has them: what each comes to. -/
import Derived.Test.YtfglhfahphncdaaDoorEvC
set_option maxRecDepth 100000
set_option linter.unusedVariables false
set_option linter.unusedSimpArgs false
namespace Go.Ev.S
open Go Go.Ev
def bits_Len64.d (a0 : Int) (K : Int → Prop) : Prop :=
  br (leI 4294967296 a0) (br (leI 65536 (shrI IntKind.u64 a0 32)) (br (leI 256 (shrI IntKind.u64 (shrI IntKind.u64 a0 32) 16)) (gd (leI 0 (cvI IntKind.u8 (shrI IntKind.u64 (shrI IntKind.u64 (shrI IntKind.u64 a0 32) 16) 8)) && ltI (cvI IntKind.u8 (shrI IntKind.u64 (shrI IntKind.u64 (shrI IntKind.u64 a0 32) 16) 8)) 256) (K (addI IntKind.i64 56 (cvI IntKind.i64 (byteAt [0, 1, 2, 2, 3, 3, 3, 3, 4, 4, 4, 4, 4, 4, 4, 4, 5, 5, 5, 5, 5, 5, 5, 5, 5, 5, 5, 5, 5, 5, 5, 5, 6, 6, 6, 6, 6, 6, 6, 6, 6, 6, 6, 6, 6, 6, 6, 6, 6, 6, 6, 6, 6, 6, 6, 6, 6, 6, 6, 6, 6, 6, 6, 6, 7, 7, 7, 7, 7, 7, 7, 7, 7, 7, 7, 7, 7, 7, 7, 7, 7, 7, 7, 7, 7, 7, 7, 7, 7, 7, 7, 7, 7, 7, 7, 7, 7, 7, 7, 7, 7, 7, 7, 7, 7, 7, 7, 7, 7, 7, 7, 7, 7, 7, 7, 7, 7, 7, 7, 7, 7, 7, 7, 7, 7, 7, 7, 7, 8, 8, 8, 8, 8, 8, 8, 8, 8, 8, 8, 8, 8, 8, 8, 8, 8, 8, 8, 8, 8, 8, 8, 8, 8, 8, 8, 8, 8, 8, 8, 8, 8, 8, 8, 8, 8, 8, 8, 8, 8, 8, 8, 8, 8, 8, 8, 8, 8, 8, 8, 8, 8, 8, 8, 8, 8, 8, 8, 8, 8, 8, 8, 8, 8, 8, 8, 8, 8, 8, 8, 8, 8, 8, 8, 8, 8, 8, 8, 8, 8, 8, 8, 8, 8, 8, 8, 8, 8, 8, 8, 8, 8, 8, 8, 8, 8, 8, 8, 8, 8, 8, 8, 8, 8, 8, 8, 8, 8, 8, 8, 8, 8, 8, 8, 8, 8, 8, 8, 8, 8, 8, 8, 8, 8, 8, 8, 8] (Int.toNat (cvI IntKind.u8 (shrI IntKind.u64 (shrI IntKind.u64 (shrI IntKind.u64 a0 32) 16) 8)))))))) (gd (leI 0 (cvI IntKind.u8 (shrI IntKind.u64 (shrI IntKind.u64 a0 32) 16)) && ltI (cvI IntKind.u8 (shrI IntKind.u64 (shrI IntKind.u64 a0 32) 16)) 256) (K (addI IntKind.i64 48 (cvI IntKind.i64 (byteAt [0, 1, 2, 2, 3, 3, 3, 3, 4, 4, 4, 4, 4, 4, 4, 4, 5, 5, 5, 5, 5, 5, 5, 5, 5, 5, 5, 5, 5, 5, 5, 5, 6, 6, 6, 6, 6, 6, 6, 6, 6, 6, 6, 6, 6, 6, 6, 6, 6, 6, 6, 6, 6, 6, 6, 6, 6, 6, 6, 6, 6, 6, 6, 6, 7, 7, 7, 7, 7, 7, 7, 7, 7, 7, 7, 7, 7, 7, 7, 7, 7, 7, 7, 7, 7, 7, 7, 7, 7, 7, 7, 7, 7, 7, 7, 7, 7, 7, 7, 7, 7, 7, 7, 7, 7, 7, 7, 7, 7, 7, 7, 7, 7, 7, 7, 7, 7, 7, 7, 7, 7, 7, 7, 7, 7, 7, 7, 7, 8, 8, 8, 8, 8, 8, 8, 8, 8, 8, 8, 8, 8, 8, 8, 8, 8, 8, 8, 8, 8, 8, 8, 8, 8, 8, 8, 8, 8, 8, 8, 8, 8, 8, 8, 8, 8, 8, 8, 8, 8, 8, 8, 8, 8, 8, 8, 8, 8, 8, 8, 8, 8, 8, 8, 8, 8, 8, 8, 8, 8, 8, 8, 8, 8, 8, 8, 8, 8, 8, 8, 8, 8, 8, 8, 8, 8, 8, 8, 8, 8, 8, 8, 8, 8, 8, 8, 8, 8, 8, 8, 8, 8, 8, 8, 8, 8, 8, 8, 8, 8, 8, 8, 8, 8, 8, 8, 8, 8, 8, 8, 8, 8, 8, 8, 8, 8, 8, 8, 8, 8, 8, 8, 8, 8, 8, 8, 8] (Int.toNat (cvI IntKind.u8 (shrI IntKind.u64 (shrI IntKind.u64 a0 32) 16))))))))) (br (leI 256 (shrI IntKind.u64 a0 32)) (gd (leI 0 (cvI IntKind.u8 (shrI IntKind.u64 (shrI IntKind.u64 a0 32) 8)) && ltI (cvI IntKind.u8 (shrI IntKind.u64 (shrI IntKind.u64 a0 32) 8)) 256) (K (addI IntKind.i64 40 (cvI IntKind.i64 (byteAt [0, 1, 2, 2, 3, 3, 3, 3, 4, 4, 4, 4, 4, 4, 4, 4, 5, 5, 5, 5, 5, 5, 5, 5, 5, 5, 5, 5, 5, 5, 5, 5, 6, 6, 6, 6, 6, 6, 6, 6, 6, 6, 6, 6, 6, 6, 6, 6, 6, 6, 6, 6, 6, 6, 6, 6, 6, 6, 6, 6, 6, 6, 6, 6, 7, 7, 7, 7, 7, 7, 7, 7, 7, 7, 7, 7, 7, 7, 7, 7, 7, 7, 7, 7, 7, 7, 7, 7, 7, 7, 7, 7, 7, 7, 7, 7, 7, 7, 7, 7, 7, 7, 7, 7, 7, 7, 7, 7, 7, 7, 7, 7, 7, 7, 7, 7, 7, 7, 7, 7, 7, 7, 7, 7, 7, 7, 7, 7, 8, 8, 8, 8, 8, 8, 8, 8, 8, 8, 8, 8, 8, 8, 8, 8, 8, 8, 8, 8, 8, 8, 8, 8, 8, 8, 8, 8, 8, 8, 8, 8, 8, 8, 8, 8, 8, 8, 8, 8, 8, 8, 8, 8, 8, 8, 8, 8, 8, 8, 8, 8, 8, 8, 8, 8, 8, 8, 8, 8, 8, 8, 8, 8, 8, 8, 8, 8, 8, 8, 8, 8, 8, 8, 8, 8, 8, 8, 8, 8, 8, 8, 8, 8, 8, 8, 8, 8, 8, 8, 8, 8, 8, 8, 8, 8, 8, 8, 8, 8, 8, 8, 8, 8, 8, 8, 8, 8, 8, 8, 8, 8, 8, 8, 8, 8, 8, 8, 8, 8, 8, 8, 8, 8, 8, 8, 8, 8] (Int.toNat (cvI IntKind.u8 (shrI IntKind.u64 (shrI IntKind.u64 a0 32) 8)))))))) (gd (leI 0 (cvI IntKind.u8 (shrI IntKind.u64 a0 32)) && ltI (cvI IntKind.u8 (shrI IntKind.u64 a0 32)) 256) (K (addI IntKind.i64 32 (cvI IntKind.i64 (byteAt [0, 1, 2, 2, 3, 3, 3, 3, 4, 4, 4, 4, 4, 4, 4, 4, 5, 5, 5, 5, 5, 5, 5, 5, 5, 5, 5, 5, 5, 5, 5, 5, 6, 6, 6, 6, 6, 6, 6, 6, 6, 6, 6, 6, 6, 6, 6, 6, 6, 6, 6, 6, 6, 6, 6, 6, 6, 6, 6, 6, 6, 6, 6, 6, 7, 7, 7, 7, 7, 7, 7, 7, 7, 7, 7, 7, 7, 7, 7, 7, 7, 7, 7, 7, 7, 7, 7, 7, 7, 7, 7, 7, 7, 7, 7, 7, 7, 7, 7, 7, 7, 7, 7, 7, 7, 7, 7, 7, 7, 7, 7, 7, 7, 7, 7, 7, 7, 7, 7, 7, 7, 7, 7, 7, 7, 7, 7, 7, 8, 8, 8, 8, 8, 8, 8, 8, 8, 8, 8, 8, 8, 8, 8, 8, 8, 8, 8, 8, 8, 8, 8, 8, 8, 8, 8, 8, 8, 8, 8, 8, 8, 8, 8, 8, 8, 8, 8, 8, 8, 8, 8, 8, 8, 8, 8, 8, 8, 8, 8, 8, 8, 8, 8, 8, 8, 8, 8, 8, 8, 8, 8, 8, 8, 8, 8, 8, 8, 8, 8, 8, 8, 8, 8, 8, 8, 8, 8, 8, 8, 8, 8, 8, 8, 8, 8, 8, 8, 8, 8, 8, 8, 8, 8, 8, 8, 8, 8, 8, 8, 8, 8, 8, 8, 8, 8, 8, 8, 8, 8, 8, 8, 8, 8, 8, 8, 8, 8, 8, 8, 8, 8, 8, 8, 8, 8, 8] (Int.toNat (cvI IntKind.u8 (shrI IntKind.u64 a0 32)))))))))) (br (leI 65536 a0) (br (leI 256 (shrI IntKind.u64 a0 16)) (gd (leI 0 (cvI IntKind.u8 (shrI IntKind.u64 (shrI IntKind.u64 a0 16) 8)) && ltI (cvI IntKind.u8 (shrI IntKind.u64 (shrI IntKind.u64 a0 16) 8)) 256) (K (addI IntKind.i64 24 (cvI IntKind.i64 (byteAt [0, 1, 2, 2, 3, 3, 3, 3, 4, 4, 4, 4, 4, 4, 4, 4, 5, 5, 5, 5, 5, 5, 5, 5, 5, 5, 5, 5, 5, 5, 5, 5, 6, 6, 6, 6, 6, 6, 6, 6, 6, 6, 6, 6, 6, 6, 6, 6, 6, 6, 6, 6, 6, 6, 6, 6, 6, 6, 6, 6, 6, 6, 6, 6, 7, 7, 7, 7, 7, 7, 7, 7, 7, 7, 7, 7, 7, 7, 7, 7, 7, 7, 7, 7, 7, 7, 7, 7, 7, 7, 7, 7, 7, 7, 7, 7, 7, 7, 7, 7, 7, 7, 7, 7, 7, 7, 7, 7, 7, 7, 7, 7, 7, 7, 7, 7, 7, 7, 7, 7, 7, 7, 7, 7, 7, 7, 7, 7, 8, 8, 8, 8, 8, 8, 8, 8, 8, 8, 8, 8, 8, 8, 8, 8, 8, 8, 8, 8, 8, 8, 8, 8, 8, 8, 8, 8, 8, 8, 8, 8, 8, 8, 8, 8, 8, 8, 8, 8, 8, 8, 8, 8, 8, 8, 8, 8, 8, 8, 8, 8, 8, 8, 8, 8, 8, 8, 8, 8, 8, 8, 8, 8, 8, 8, 8, 8, 8, 8, 8, 8, 8, 8, 8, 8, 8, 8, 8, 8, 8, 8, 8, 8, 8, 8, 8, 8, 8, 8, 8, 8, 8, 8, 8, 8, 8, 8, 8, 8, 8, 8, 8, 8, 8, 8, 8, 8, 8, 8, 8, 8, 8, 8, 8, 8, 8, 8, 8, 8, 8, 8, 8, 8, 8, 8, 8, 8] (Int.toNat (cvI IntKind.u8 (shrI IntKind.u64 (shrI IntKind.u64 a0 16) 8)))))))) (gd (leI 0 (cvI IntKind.u8 (shrI IntKind.u64 a0 16)) && ltI (cvI IntKind.u8 (shrI IntKind.u64 a0 16)) 256) (K (addI IntKind.i64 16 (cvI IntKind.i64 (byteAt [0, 1, 2, 2, 3, 3, 3, 3, 4, 4, 4, 4, 4, 4, 4, 4, 5, 5, 5, 5, 5, 5, 5, 5, 5, 5, 5, 5, 5, 5, 5, 5, 6, 6, 6, 6, 6, 6, 6, 6, 6, 6, 6, 6, 6, 6, 6, 6, 6, 6, 6, 6, 6, 6, 6, 6, 6, 6, 6, 6, 6, 6, 6, 6, 7, 7, 7, 7, 7, 7, 7, 7, 7, 7, 7, 7, 7, 7, 7, 7, 7, 7, 7, 7, 7, 7, 7, 7, 7, 7, 7, 7, 7, 7, 7, 7, 7, 7, 7, 7, 7, 7, 7, 7, 7, 7, 7, 7, 7, 7, 7, 7, 7, 7, 7, 7, 7, 7, 7, 7, 7, 7, 7, 7, 7, 7, 7, 7, 8, 8, 8, 8, 8, 8, 8, 8, 8, 8, 8, 8, 8, 8, 8, 8, 8, 8, 8, 8, 8, 8, 8, 8, 8, 8, 8, 8, 8, 8, 8, 8, 8, 8, 8, 8, 8, 8, 8, 8, 8, 8, 8, 8, 8, 8, 8, 8, 8, 8, 8, 8, 8, 8, 8, 8, 8, 8, 8, 8, 8, 8, 8, 8, 8, 8, 8, 8, 8, 8, 8, 8, 8, 8, 8, 8, 8, 8, 8, 8, 8, 8, 8, 8, 8, 8, 8, 8, 8, 8, 8, 8, 8, 8, 8, 8, 8, 8, 8, 8, 8, 8, 8, 8, 8, 8, 8, 8, 8, 8, 8, 8, 8, 8, 8, 8, 8, 8, 8, 8, 8, 8, 8, 8, 8, 8, 8, 8] (Int.toNat (cvI IntKind.u8 (shrI IntKind.u64 a0 16))))))))) (br (leI 256 a0) (gd (leI 0 (cvI IntKind.u8 (shrI IntKind.u64 a0 8)) && ltI (cvI IntKind.u8 (shrI IntKind.u64 a0 8)) 256) (K (addI IntKind.i64 8 (cvI IntKind.i64 (byteAt [0, 1, 2, 2, 3, 3, 3, 3, 4, 4, 4, 4, 4, 4, 4, 4, 5, 5, 5, 5, 5, 5, 5, 5, 5, 5, 5, 5, 5, 5, 5, 5, 6, 6, 6, 6, 6, 6, 6, 6, 6, 6, 6, 6, 6, 6, 6, 6, 6, 6, 6, 6, 6, 6, 6, 6, 6, 6, 6, 6, 6, 6, 6, 6, 7, 7, 7, 7, 7, 7, 7, 7, 7, 7, 7, 7, 7, 7, 7, 7, 7, 7, 7, 7, 7, 7, 7, 7, 7, 7, 7, 7, 7, 7, 7, 7, 7, 7, 7, 7, 7, 7, 7, 7, 7, 7, 7, 7, 7, 7, 7, 7, 7, 7, 7, 7, 7, 7, 7, 7, 7, 7, 7, 7, 7, 7, 7, 7, 8, 8, 8, 8, 8, 8, 8, 8, 8, 8, 8, 8, 8, 8, 8, 8, 8, 8, 8, 8, 8, 8, 8, 8, 8, 8, 8, 8, 8, 8, 8, 8, 8, 8, 8, 8, 8, 8, 8, 8, 8, 8, 8, 8, 8, 8, 8, 8, 8, 8, 8, 8, 8, 8, 8, 8, 8, 8, 8, 8, 8, 8, 8, 8, 8, 8, 8, 8, 8, 8, 8, 8, 8, 8, 8, 8, 8, 8, 8, 8, 8, 8, 8, 8, 8, 8, 8, 8, 8, 8, 8, 8, 8, 8, 8, 8, 8, 8, 8, 8, 8, 8, 8, 8, 8, 8, 8, 8, 8, 8, 8, 8, 8, 8, 8, 8, 8, 8, 8, 8, 8, 8, 8, 8, 8, 8, 8, 8] (Int.toNat (cvI IntKind.u8 (shrI IntKind.u64 a0 8)))))))) (gd (leI 0 (cvI IntKind.u8 a0) && ltI (cvI IntKind.u8 a0) 256) (K (addI IntKind.i64 0 (cvI IntKind.i64 (byteAt [0, 1, 2, 2, 3, 3, 3, 3, 4, 4, 4, 4, 4, 4, 4, 4, 5, 5, 5, 5, 5, 5, 5, 5, 5, 5, 5, 5, 5, 5, 5, 5, 6, 6, 6, 6, 6, 6, 6, 6, 6, 6, 6, 6, 6, 6, 6, 6, 6, 6, 6, 6, 6, 6, 6, 6, 6, 6, 6, 6, 6, 6, 6, 6, 7, 7, 7, 7, 7, 7, 7, 7, 7, 7, 7, 7, 7, 7, 7, 7, 7, 7, 7, 7, 7, 7, 7, 7, 7, 7, 7, 7, 7, 7, 7, 7, 7, 7, 7, 7, 7, 7, 7, 7, 7, 7, 7, 7, 7, 7, 7, 7, 7, 7, 7, 7, 7, 7, 7, 7, 7, 7, 7, 7, 7, 7, 7, 7, 8, 8, 8, 8, 8, 8, 8, 8, 8, 8, 8, 8, 8, 8, 8, 8, 8, 8, 8, 8, 8, 8, 8, 8, 8, 8, 8, 8, 8, 8, 8, 8, 8, 8, 8, 8, 8, 8, 8, 8, 8, 8, 8, 8, 8, 8, 8, 8, 8, 8, 8, 8, 8, 8, 8, 8, 8, 8, 8, 8, 8, 8, 8, 8, 8, 8, 8, 8, 8, 8, 8, 8, 8, 8, 8, 8, 8, 8, 8, 8, 8, 8, 8, 8, 8, 8, 8, 8, 8, 8, 8, 8, 8, 8, 8, 8, 8, 8, 8, 8, 8, 8, 8, 8, 8, 8, 8, 8, 8, 8, 8, 8, 8, 8, 8, 8, 8, 8, 8, 8, 8, 8, 8, 8, 8, 8, 8, 8] (Int.toNat (cvI IntKind.u8 a0)))))))))
noncomputable def bits_Len64 : Int → (Int → Prop) → Prop := Classical.choose (⟨bits_Len64.d, rfl⟩ : ∃ f, f = bits_Len64.d)
theorem bits_Len64.is : bits_Len64 = bits_Len64.d := Classical.choose_spec (⟨bits_Len64.d, rfl⟩ : ∃ f, f = bits_Len64.d)
def bits_TrailingZeros64.d (a0 : Int) (K : Int → Prop) : Prop :=
  br (eqI a0 0) (K 64) ((leI 0 (shrI IntKind.u64 (mulI IntKind.u64 (andI IntKind.u64 a0 (negI IntKind.u64 a0)) 285870213051353865) 58) && ltI (shrI IntKind.u64 (mulI IntKind.u64 (andI IntKind.u64 a0 (negI IntKind.u64 a0)) 285870213051353865) 58) 64) = true ∧ K (cvI IntKind.i64 (tab_deBruijn64tab (Int.toNat (shrI IntKind.u64 (mulI IntKind.u64 (andI IntKind.u64 a0 (negI IntKind.u64 a0)) 285870213051353865) 58)))))
noncomputable def bits_TrailingZeros64 : Int → (Int → Prop) → Prop := Classical.choose (⟨bits_TrailingZeros64.d, rfl⟩ : ∃ f, f = bits_TrailingZeros64.d)
theorem bits_TrailingZeros64.is : bits_TrailingZeros64 = bits_TrailingZeros64.d := Classical.choose_spec (⟨bits_TrailingZeros64.d, rfl⟩ : ∃ f, f = bits_TrailingZeros64.d)
end Go.Ev.S

/- The functions as the evaluator has them: what each comes to. -/
set_option maxRecDepth 100000
set_option linter.unusedVariables false
set_option linter.unusedSimpArgs false
namespace Go.Ev.S
open Go Go.Ev
def word_Len.d (a0 : Int) (K : Int → Prop) : Prop :=
  bits_Len64 a0 fun y0 => K y0
noncomputable def word_Len : Int → (Int → Prop) → Prop := Classical.choose (⟨word_Len.d, rfl⟩ : ∃ f, f = word_Len.d)
theorem word_Len.is : word_Len = word_Len.d := Classical.choose_spec (⟨word_Len.d, rfl⟩ : ∃ f, f = word_Len.d)
def word_Low.d (a0 : Int) (K : Int → Prop) : Prop :=
  bits_TrailingZeros64 a0 fun y0 => K y0
noncomputable def word_Low : Int → (Int → Prop) → Prop := Classical.choose (⟨word_Low.d, rfl⟩ : ∃ f, f = word_Low.d)
theorem word_Low.is : word_Low = word_Low.d := Classical.choose_spec (⟨word_Low.d, rfl⟩ : ∃ f, f = word_Low.d)
def word_count.d (a0 : Int) (K : Int → Prop) : Prop :=
  K (cvI IntKind.u64 (minI (maxI a0 0) 64))
noncomputable def word_count : Int → (Int → Prop) → Prop := Classical.choose (⟨word_count.d, rfl⟩ : ∃ f, f = word_count.d)
theorem word_count.is : word_count = word_count.d := Classical.choose_spec (⟨word_count.d, rfl⟩ : ∃ f, f = word_count.d)
def word_Mask.d (a0 : Int) (K : Int → Prop) : Prop :=
  word_count a0 fun y0 => gd (!ltI y0 0) (K (subI IntKind.u64 (shlI IntKind.u64 1 y0) 1))
noncomputable def word_Mask : Int → (Int → Prop) → Prop := Classical.choose (⟨word_Mask.d, rfl⟩ : ∃ f, f = word_Mask.d)
theorem word_Mask.is : word_Mask = word_Mask.d := Classical.choose_spec (⟨word_Mask.d, rfl⟩ : ∃ f, f = word_Mask.d)
end Go.Ev.S

/- The functions as the evaluator has them: what each comes to. -/
set_option maxRecDepth 100000
set_option linter.unusedVariables false
set_option linter.unusedSimpArgs false
namespace Go.Ev.S
open Go Go.Ev
def wide_And.l2.step (again : Int → (Nat → Int) → (Nat → Int) → (Nat → Int) → Prop) (k0 : (Nat → Int) → (Nat → Int) → Prop) (x0 : Int) (x1 : Nat → Int) (x2 : Nat → Int) (x3 : Nat → Int) : Prop :=
  br (ltI x0 6) (gd (leI 0 x0 && ltI x0 6) (gd (leI 0 x0 && ltI x0 6) (gd (leI 0 x0 && ltI x0 6) (again (addI IntKind.i64 x0 1) (upd x1 (Int.toNat x0) (andI IntKind.u64 (x1 (Int.toNat x0)) (x2 (Int.toNat x0)))) x2 x3)))) (k0 x1 x3)
def wide_And.l2 (k0 : (Nat → Int) → (Nat → Int) → Prop) : Nat → Int → (Nat → Int) → (Nat → Int) → (Nat → Int) → Prop
  | 0 => fun _ _ _ _ => False
  | n + 1 => wide_And.l2.step (wide_And.l2 k0 n) k0
def wide_And.l2.entry : LoopEntry := ⟨LV.mk 20 [(0, 20)] 16 0 false, 0, 19, fun vs H K => match vs, H with
  | [EV.ptr 0 [], EV.ptr 1 [], EV.ptr 2 [], EV.int IntKind.i64 x0], [some (EV.arr IntKind.u64 6 x1), some (EV.arr IntKind.u64 6 x2), some (EV.arr IntKind.u64 6 x3)] => ∃ n, wide_And.l2 (fun y0 y1 => K (.exit 0) [EV.ptr 0 [], EV.ptr 1 []] [some (EV.arr IntKind.u64 6 y0), some (EV.arr IntKind.u64 6 y1)]) n x0 x1 x2 x3
  | _, _ => False⟩
def wide_And.d (a0 : Nat → Int) (a1 : Nat → Int) (K : (Nat → Int) → Prop) : Prop :=
  ∃ n, wide_And.l2 (fun y0 y1 => K y0) n 0 a0 a1 fun x => 0
noncomputable def wide_And : (Nat → Int) → (Nat → Int) → ((Nat → Int) → Prop) → Prop := Classical.choose (⟨wide_And.d, rfl⟩ : ∃ f, f = wide_And.d)
theorem wide_And.is : wide_And = wide_And.d := Classical.choose_spec (⟨wide_And.d, rfl⟩ : ∃ f, f = wide_And.d)
def wide_Bit.d (a0 : Nat → Int) (a1 : Int) (K : Bool → Prop) : Prop :=
  br (leI 0 a1) (br (ltI a1 384) (gd (leI 0 (quoI IntKind.i64 a1 64) && ltI (quoI IntKind.i64 a1 64) 6) (gd (!ltI (cvI IntKind.u64 (remI IntKind.i64 a1 64)) 0) (K (eqI (andI IntKind.u64 (shrI IntKind.u64 (a0 (Int.toNat (quoI IntKind.i64 a1 64))) (cvI IntKind.u64 (remI IntKind.i64 a1 64))) 1) 1)))) (K false)) (K false)
noncomputable def wide_Bit : (Nat → Int) → Int → (Bool → Prop) → Prop := Classical.choose (⟨wide_Bit.d, rfl⟩ : ∃ f, f = wide_Bit.d)
theorem wide_Bit.is : wide_Bit = wide_Bit.d := Classical.choose_spec (⟨wide_Bit.d, rfl⟩ : ∃ f, f = wide_Bit.d)
def wide_Len.l2.step (again : Int → (Nat → Int) → Prop) (k0 : Int → Prop) (k1 : Prop) (x0 : Int) (x1 : Nat → Int) : Prop :=
  br (leI 0 x0) (gd (leI 0 x0 && ltI x0 6) (br (!eqI (x1 (Int.toNat x0)) 0) (gd (leI 0 x0 && ltI x0 6) (word_Len (x1 (Int.toNat x0)) fun y0 => k0 (addI IntKind.i64 (mulI IntKind.i64 64 x0) y0))) (again (subI IntKind.i64 x0 1) x1))) k1
def wide_Len.l2 (k0 : Int → Prop) (k1 : Prop) : Nat → Int → (Nat → Int) → Prop
  | 0 => fun _ _ => False
  | n + 1 => wide_Len.l2.step (wide_Len.l2 k0 k1 n) k0 k1
def wide_Len.l2.entry : LoopEntry := ⟨LV.mk 0 [(0, 0)] 4 0 false, 0, 19, fun vs H K => match vs, H with
  | [EV.ptr 0 [], EV.int IntKind.i64 x0], [some (EV.arr IntKind.u64 6 x1)] => ∃ n, wide_Len.l2 (fun y0 => K .ret [EV.int IntKind.i64 y0] []) (K (.exit 0) [] []) n x0 x1
  | _, _ => False⟩
def wide_Len.d (a0 : Nat → Int) (K : Int → Prop) : Prop :=
  ∃ n, wide_Len.l2 (fun y0 => K y0) (K 0) n 5 a0
noncomputable def wide_Len : (Nat → Int) → (Int → Prop) → Prop := Classical.choose (⟨wide_Len.d, rfl⟩ : ∃ f, f = wide_Len.d)
theorem wide_Len.is : wide_Len = wide_Len.d := Classical.choose_spec (⟨wide_Len.d, rfl⟩ : ∃ f, f = wide_Len.d)
def wide_count.d (a0 : Int) (K : Int → Prop) : Prop :=
  K (minI (maxI a0 0) 384)
noncomputable def wide_count : Int → (Int → Prop) → Prop := Classical.choose (⟨wide_count.d, rfl⟩ : ∃ f, f = wide_count.d)
theorem wide_count.is : wide_count = wide_count.d := Classical.choose_spec (⟨wide_count.d, rfl⟩ : ∃ f, f = wide_count.d)
def wide_Left.l5.step (again : Bool → Int → Int → Int → (Nat → Int) → (Nat → Int) → Prop) (k0 : Bool → (Nat → Int) → Prop) (x0 : Bool) (x1 : Int) (x2 : Int) (x3 : Int) (x4 : Nat → Int) (x5 : Nat → Int) : Prop :=
  br (leI x1 x3) (gd (leI 0 (subI IntKind.i64 x3 x1) && ltI (subI IntKind.i64 x3 x1) 6) (gd (!ltI x2 0) (gd (leI 0 x3 && ltI x3 6) (br (ltI x1 x3) (gd (leI 0 x3 && ltI x3 6) (gd (leI 0 (subI IntKind.i64 (subI IntKind.i64 x3 x1) 1) && ltI (subI IntKind.i64 (subI IntKind.i64 x3 x1) 1) 6) (gd (!ltI (subI IntKind.u64 64 x2) 0) (gd (leI 0 x3 && ltI x3 6) (again x0 x1 x2 (subI IntKind.i64 x3 1) x4 (upd (upd x5 (Int.toNat x3) (shlI IntKind.u64 (x4 (Int.toNat (subI IntKind.i64 x3 x1))) x2)) (Int.toNat x3) (orI IntKind.u64 (upd x5 (Int.toNat x3) (shlI IntKind.u64 (x4 (Int.toNat (subI IntKind.i64 x3 x1))) x2) (Int.toNat x3)) (shrI IntKind.u64 (x4 (Int.toNat (subI IntKind.i64 (subI IntKind.i64 x3 x1) 1))) (subI IntKind.u64 64 x2))))))))) (again x0 x1 x2 (subI IntKind.i64 x3 1) x4 (upd x5 (Int.toNat x3) (shlI IntKind.u64 (x4 (Int.toNat (subI IntKind.i64 x3 x1))) x2))))))) (k0 x0 x5)
def wide_Left.l5 (k0 : Bool → (Nat → Int) → Prop) : Nat → Bool → Int → Int → Int → (Nat → Int) → (Nat → Int) → Prop
  | 0 => fun _ _ _ _ _ _ => False
  | n + 1 => wide_Left.l5.step (wide_Left.l5 k0 n) k0
def wide_Left.l5.entry : LoopEntry := ⟨LV.mk 48 [(0, 48)] 48 0 false, 0, 59, fun vs H K => match vs, H with
  | [EV.ptr 0 [], EV.ptr 1 [], EV.bool x0, EV.int IntKind.i64 x1, EV.int IntKind.u64 x2, EV.int IntKind.i64 x3], [some (EV.arr IntKind.u64 6 x4), some (EV.arr IntKind.u64 6 x5)] => ∃ n, wide_Left.l5 (fun y0 y1 => K (.exit 0) [EV.ptr 0 [], EV.bool y0] [some (EV.arr IntKind.u64 6 y1)]) n x0 x1 x2 x3 x4 x5
  | _, _ => False⟩
def wide_Left.d (a0 : Nat → Int) (a1 : Int) (K : (Nat → Int) → Bool → Prop) : Prop :=
  wide_count a1 fun y0 => wide_Len a0 fun y0_1 => br (ltI 384 (addI IntKind.i64 y0_1 y0)) (∃ n, wide_Left.l5 (fun y0 y1 => K y1 y0) n (!eqN 6 a0 fun x => 0) (quoI IntKind.i64 y0 64) (cvI IntKind.u64 (remI IntKind.i64 y0 64)) 5 a0 fun x => 0) (∃ n, wide_Left.l5 (fun y0 y1 => K y1 y0) n false (quoI IntKind.i64 y0 64) (cvI IntKind.u64 (remI IntKind.i64 y0 64)) 5 a0 fun x => 0)
noncomputable def wide_Left : (Nat → Int) → Int → ((Nat → Int) → Bool → Prop) → Prop := Classical.choose (⟨wide_Left.d, rfl⟩ : ∃ f, f = wide_Left.d)
theorem wide_Left.is : wide_Left = wide_Left.d := Classical.choose_spec (⟨wide_Left.d, rfl⟩ : ∃ f, f = wide_Left.d)
def wide_Low.l2.step (again : (Nat → Int) → Int → Prop) (k0 : Int → Prop) (k1 : Prop) (x0 : Nat → Int) (x1 : Int) : Prop :=
  br (ltI x1 6) (gd (leI 0 x1 && ltI x1 6) (br (!eqI (x0 (Int.toNat x1)) 0) (word_Low (x0 (Int.toNat x1)) fun y0 => k0 (addI IntKind.i64 (mulI IntKind.i64 64 x1) y0)) (again x0 (addI IntKind.i64 x1 1)))) k1
def wide_Low.l2 (k0 : Int → Prop) (k1 : Prop) : Nat → (Nat → Int) → Int → Prop
  | 0 => fun _ _ => False
  | n + 1 => wide_Low.l2.step (wide_Low.l2 k0 k1 n) k0 k1
def wide_Low.l2.entry : LoopEntry := ⟨LV.mk 0 [(0, 0)] 4 0 false, 0, 18, fun vs H K => match vs, H with
  | [EV.arr IntKind.u64 6 x0, EV.int IntKind.i64 x1], [] => ∃ n, wide_Low.l2 (fun y0 => K .ret [EV.int IntKind.i64 y0] []) (K (.exit 0) [] []) n x0 x1
  | _, _ => False⟩
def wide_Low.d (a0 : Nat → Int) (K : Int → Prop) : Prop :=
  ∃ n, wide_Low.l2 (fun y0 => K y0) (K 384) n a0 0
noncomputable def wide_Low : (Nat → Int) → (Int → Prop) → Prop := Classical.choose (⟨wide_Low.d, rfl⟩ : ∃ f, f = wide_Low.d)
theorem wide_Low.is : wide_Low = wide_Low.d := Classical.choose_spec (⟨wide_Low.d, rfl⟩ : ∃ f, f = wide_Low.d)
def wide_Mask.l4.step (again : Int → Int → (Nat → Int) → (Nat → Int) → Prop) (k0 : (Nat → Int) → (Nat → Int) → Prop) (x0 : Int) (x1 : Int) (x2 : Nat → Int) (x3 : Nat → Int) : Prop :=
  br (ltI x1 6) (word_Mask (subI IntKind.i64 x0 (mulI IntKind.i64 64 x1)) fun y0 => gd (leI 0 x1 && ltI x1 6) (again x0 (addI IntKind.i64 x1 1) x2 (upd x3 (Int.toNat x1) y0))) (k0 x2 x3)
def wide_Mask.l4 (k0 : (Nat → Int) → (Nat → Int) → Prop) : Nat → Int → Int → (Nat → Int) → (Nat → Int) → Prop
  | 0 => fun _ _ _ _ => False
  | n + 1 => wide_Mask.l4.step (wide_Mask.l4 k0 n) k0
def wide_Mask.l4.entry : LoopEntry := ⟨LV.mk 12 [(0, 12)] 4 0 false, 0, 19, fun vs H K => match vs, H with
  | [EV.int IntKind.i64 x0, EV.ptr 0 [], EV.ptr 1 [], EV.int IntKind.i64 x1], [some (EV.arr IntKind.u64 6 x2), some (EV.arr IntKind.u64 6 x3)] => ∃ n, wide_Mask.l4 (fun y0 y1 => K (.exit 0) [EV.ptr 0 [], EV.ptr 1 []] [some (EV.arr IntKind.u64 6 y0), some (EV.arr IntKind.u64 6 y1)]) n x0 x1 x2 x3
  | _, _ => False⟩
def wide_Mask.d (a0 : Int) (K : (Nat → Int) → Prop) : Prop :=
  wide_count a0 fun y0 => ∃ n, wide_Mask.l4 (fun y0 y1 => K y1) n y0 0 (fun x => 0) fun x => 0
noncomputable def wide_Mask : Int → ((Nat → Int) → Prop) → Prop := Classical.choose (⟨wide_Mask.d, rfl⟩ : ∃ f, f = wide_Mask.d)
theorem wide_Mask.is : wide_Mask = wide_Mask.d := Classical.choose_spec (⟨wide_Mask.d, rfl⟩ : ∃ f, f = wide_Mask.d)
def wide_Of.d (a0 : Int) (K : (Nat → Int) → Prop) : Prop :=
  K (upd (fun x => 0) 0 a0)
noncomputable def wide_Of : Int → ((Nat → Int) → Prop) → Prop := Classical.choose (⟨wide_Of.d, rfl⟩ : ∃ f, f = wide_Of.d)
theorem wide_Of.is : wide_Of = wide_Of.d := Classical.choose_spec (⟨wide_Of.d, rfl⟩ : ∃ f, f = wide_Of.d)
def wide_OfBits.d (a0_0 : Int) (a0_1 : Int) (K : (Nat → Int) → Prop) : Prop :=
  K (upd (upd (fun x => 0) 0 a0_1) 1 a0_0)
noncomputable def wide_OfBits : Int → Int → ((Nat → Int) → Prop) → Prop := Classical.choose (⟨wide_OfBits.d, rfl⟩ : ∃ f, f = wide_OfBits.d)
theorem wide_OfBits.is : wide_OfBits = wide_OfBits.d := Classical.choose_spec (⟨wide_OfBits.d, rfl⟩ : ∃ f, f = wide_OfBits.d)
def wide_Or.l2.step (again : Int → (Nat → Int) → (Nat → Int) → (Nat → Int) → Prop) (k0 : (Nat → Int) → (Nat → Int) → Prop) (x0 : Int) (x1 : Nat → Int) (x2 : Nat → Int) (x3 : Nat → Int) : Prop :=
  br (ltI x0 6) (gd (leI 0 x0 && ltI x0 6) (gd (leI 0 x0 && ltI x0 6) (gd (leI 0 x0 && ltI x0 6) (again (addI IntKind.i64 x0 1) (upd x1 (Int.toNat x0) (orI IntKind.u64 (x1 (Int.toNat x0)) (x2 (Int.toNat x0)))) x2 x3)))) (k0 x1 x3)
def wide_Or.l2 (k0 : (Nat → Int) → (Nat → Int) → Prop) : Nat → Int → (Nat → Int) → (Nat → Int) → (Nat → Int) → Prop
  | 0 => fun _ _ _ _ => False
  | n + 1 => wide_Or.l2.step (wide_Or.l2 k0 n) k0
def wide_Or.l2.entry : LoopEntry := ⟨LV.mk 20 [(0, 20)] 16 0 false, 0, 19, fun vs H K => match vs, H with
  | [EV.ptr 0 [], EV.ptr 1 [], EV.ptr 2 [], EV.int IntKind.i64 x0], [some (EV.arr IntKind.u64 6 x1), some (EV.arr IntKind.u64 6 x2), some (EV.arr IntKind.u64 6 x3)] => ∃ n, wide_Or.l2 (fun y0 y1 => K (.exit 0) [EV.ptr 0 [], EV.ptr 1 []] [some (EV.arr IntKind.u64 6 y0), some (EV.arr IntKind.u64 6 y1)]) n x0 x1 x2 x3
  | _, _ => False⟩
def wide_Or.d (a0 : Nat → Int) (a1 : Nat → Int) (K : (Nat → Int) → Prop) : Prop :=
  ∃ n, wide_Or.l2 (fun y0 y1 => K y0) n 0 a0 a1 fun x => 0
noncomputable def wide_Or : (Nat → Int) → (Nat → Int) → ((Nat → Int) → Prop) → Prop := Classical.choose (⟨wide_Or.d, rfl⟩ : ∃ f, f = wide_Or.d)
theorem wide_Or.is : wide_Or = wide_Or.d := Classical.choose_spec (⟨wide_Or.d, rfl⟩ : ∃ f, f = wide_Or.d)
def wide_Right.l5.step (again : Bool → Int → Int → Int → (Nat → Int) → (Nat → Int) → Prop) (k0 : Bool → (Nat → Int) → Prop) (x0 : Bool) (x1 : Int) (x2 : Int) (x3 : Int) (x4 : Nat → Int) (x5 : Nat → Int) : Prop :=
  br (ltI (addI IntKind.i64 x3 x1) 6) (gd (leI 0 (addI IntKind.i64 x3 x1) && ltI (addI IntKind.i64 x3 x1) 6) (gd (!ltI x2 0) (gd (leI 0 x3 && ltI x3 6) (br (ltI (addI IntKind.i64 x3 x1) 5) (gd (leI 0 x3 && ltI x3 6) (gd (leI 0 (addI IntKind.i64 (addI IntKind.i64 x3 x1) 1) && ltI (addI IntKind.i64 (addI IntKind.i64 x3 x1) 1) 6) (gd (!ltI (subI IntKind.u64 64 x2) 0) (gd (leI 0 x3 && ltI x3 6) (again x0 x1 x2 (addI IntKind.i64 x3 1) x4 (upd (upd x5 (Int.toNat x3) (shrI IntKind.u64 (x4 (Int.toNat (addI IntKind.i64 x3 x1))) x2)) (Int.toNat x3) (orI IntKind.u64 (upd x5 (Int.toNat x3) (shrI IntKind.u64 (x4 (Int.toNat (addI IntKind.i64 x3 x1))) x2) (Int.toNat x3)) (shlI IntKind.u64 (x4 (Int.toNat (addI IntKind.i64 (addI IntKind.i64 x3 x1) 1))) (subI IntKind.u64 64 x2))))))))) (again x0 x1 x2 (addI IntKind.i64 x3 1) x4 (upd x5 (Int.toNat x3) (shrI IntKind.u64 (x4 (Int.toNat (addI IntKind.i64 x3 x1))) x2))))))) (k0 x0 x5)
def wide_Right.l5 (k0 : Bool → (Nat → Int) → Prop) : Nat → Bool → Int → Int → Int → (Nat → Int) → (Nat → Int) → Prop
  | 0 => fun _ _ _ _ _ _ => False
  | n + 1 => wide_Right.l5.step (wide_Right.l5 k0 n) k0
def wide_Right.l5.entry : LoopEntry := ⟨LV.mk 48 [(0, 48)] 48 0 false, 0, 60, fun vs H K => match vs, H with
  | [EV.ptr 0 [], EV.ptr 1 [], EV.bool x0, EV.int IntKind.i64 x1, EV.int IntKind.u64 x2, EV.int IntKind.i64 x3], [some (EV.arr IntKind.u64 6 x4), some (EV.arr IntKind.u64 6 x5)] => ∃ n, wide_Right.l5 (fun y0 y1 => K (.exit 0) [EV.ptr 0 [], EV.bool y0] [some (EV.arr IntKind.u64 6 y1)]) n x0 x1 x2 x3 x4 x5
  | _, _ => False⟩
def wide_Right.d (a0 : Nat → Int) (a1 : Int) (K : (Nat → Int) → Bool → Prop) : Prop :=
  wide_count a1 fun y0 => br (!eqN 6 a0 fun x => 0) (wide_Low a0 fun y0_1 => ∃ n, wide_Right.l5 (fun y0 y1 => K y1 y0) n (ltI y0_1 y0) (quoI IntKind.i64 y0 64) (cvI IntKind.u64 (remI IntKind.i64 y0 64)) 0 a0 fun x => 0) (∃ n, wide_Right.l5 (fun y0 y1 => K y1 y0) n false (quoI IntKind.i64 y0 64) (cvI IntKind.u64 (remI IntKind.i64 y0 64)) 0 a0 fun x => 0)
noncomputable def wide_Right : (Nat → Int) → Int → ((Nat → Int) → Bool → Prop) → Prop := Classical.choose (⟨wide_Right.d, rfl⟩ : ∃ f, f = wide_Right.d)
theorem wide_Right.is : wide_Right = wide_Right.d := Classical.choose_spec (⟨wide_Right.d, rfl⟩ : ∃ f, f = wide_Right.d)
def wide_ToBits.d (a0 : Nat → Int) (K : Int → Int → Bool → Prop) : Prop :=
  br (!eqI (orI IntKind.u64 (orI IntKind.u64 (orI IntKind.u64 (a0 2) (a0 3)) (a0 4)) (a0 5)) 0) (K 0 0 false) (K (a0 1) (a0 0) true)
noncomputable def wide_ToBits : (Nat → Int) → (Int → Int → Bool → Prop) → Prop := Classical.choose (⟨wide_ToBits.d, rfl⟩ : ∃ f, f = wide_ToBits.d)
theorem wide_ToBits.is : wide_ToBits = wide_ToBits.d := Classical.choose_spec (⟨wide_ToBits.d, rfl⟩ : ∃ f, f = wide_ToBits.d)
end Go.Ev.S

/- The functions as the evaluator has them: what each comes to. -/
set_option maxRecDepth 100000
set_option linter.unusedVariables false
set_option linter.unusedSimpArgs false
namespace Go.Ev.S
open Go Go.Ev
def nat_Check.d (a0 : List UInt8) (K : Int → Prop) : Prop :=
  br (ltI 16384 ↑(List.length a0)) (K 2) (br (!eqS a0 []) (gd (ltI 0 ↑(List.length a0)) (br (eqI (byteAt a0 0) 0) (K 2) (K 0))) (K 0))
noncomputable def nat_Check : List UInt8 → (Int → Prop) → Prop := Classical.choose (⟨nat_Check.d, rfl⟩ : ∃ f, f = nat_Check.d)
theorem nat_Check.is : nat_Check = nat_Check.d := Classical.choose_spec (⟨nat_Check.d, rfl⟩ : ∃ f, f = nat_Check.d)
def nat_right.d (a0 : List UInt8) (a1 : List UInt8) (K : Bool → Prop) : Prop :=
  nat_Check a0 fun y0 => br (eqI y0 0) (nat_Check a1 fun y0 => K (eqI y0 0)) (K false)
noncomputable def nat_right : List UInt8 → List UInt8 → (Bool → Prop) → Prop := Classical.choose (⟨nat_right.d, rfl⟩ : ∃ f, f = nat_right.d)
theorem nat_right.is : nat_right = nat_right.d := Classical.choose_spec (⟨nat_right.d, rfl⟩ : ∃ f, f = nat_right.d)
def nat_cut_o.l1.step (again : Nat → Nat → Nat → (Nat → Int) → Prop) (k0 : Nat → Nat → Nat → (Nat → Int) → Prop) (x0 : Nat) (x1 : Nat) (x2 : Nat) (x3 : Nat → Int) : Prop :=
  br (ltI 0 ↑x0) (gd (leI 0 (subI IntKind.i64 (↑x0) 1) && ltI (subI IntKind.i64 (↑x0) 1) ↑x0) (br (eqI (x3 (Int.toNat (subI IntKind.i64 (↑x0) 1))) 0) (gd (leI 0 (subI IntKind.i64 (↑x0) 1) && leI (subI IntKind.i64 (↑x0) 1) ↑x1) (again (Int.toNat (subI IntKind.i64 (↑x0) 1) - 0) (x1 - 0) x2 x3)) (k0 x0 x1 x2 x3))) (k0 x0 x1 x2 x3)
def nat_cut_o.l1 (k0 : Nat → Nat → Nat → (Nat → Int) → Prop) : Nat → Nat → Nat → Nat → (Nat → Int) → Prop
  | 0 => fun _ _ _ _ => False
  | n + 1 => nat_cut_o.l1.step (nat_cut_o.l1 k0 n) k0
def nat_cut_o.l1.entry : LoopEntry := ⟨LV.mk 1 [(0, 1)] 4 1 false, 1, 21, fun vs H K => match vs, H with
  | [EV.slice 0 0 x0 (some x1) 1], [some (EV.arr IntKind.u32 x2 x3)] => ∃ n, nat_cut_o.l1 (fun y0 y1 y2 y3 => K (.exit 0) [EV.slice 0 0 y0 (some y1) 1] [some (EV.arr IntKind.u32 y2 y3)]) n x0 x1 x2 x3
  | _, _ => False⟩
def nat_cut_o.d (a0l : Nat) (a0c : Nat) (a0n : Nat) (a0 : Nat → Int) (K : Nat → Nat → Nat → (Nat → Int) → Prop) : Prop :=
  ∃ n, nat_cut_o.l1 (fun y0 y1 y2 y3 => K y0 y1 y2 y3) n a0l a0c a0n a0
noncomputable def nat_cut_o : Nat → Nat → Nat → (Nat → Int) → (Nat → Nat → Nat → (Nat → Int) → Prop) → Prop := Classical.choose (⟨nat_cut_o.d, rfl⟩ : ∃ f, f = nat_cut_o.d)
theorem nat_cut_o.is : nat_cut_o = nat_cut_o.d := Classical.choose_spec (⟨nat_cut_o.d, rfl⟩ : ∃ f, f = nat_cut_o.d)
def nat_sum.l7.step (again : Nat → (Nat → Int) → Nat → Nat → Int → Int → Nat → (Nat → Int) → Prop) (k0 : Nat → Nat → Nat → (Nat → Int) → Prop) (x0 : Nat) (x1 : Nat → Int) (x2 : Nat) (x3 : Nat) (x4 : Int) (x5 : Int) (x6 : Nat) (x7 : Nat → Int) : Prop :=
  br (ltI x5 ↑x0) (gd (leI 0 x5 && ltI x5 ↑x2) (br (ltI x5 ↑x0) (gd (leI 0 x5 && ltI x5 ↑x0) (gd (leI 0 x5 && ltI x5 ↑x2) (again x0 x1 x2 x3 (shrI IntKind.u64 (addI IntKind.u64 (addI IntKind.u64 x4 (cvI IntKind.u64 (x7 (Int.toNat x5)))) (cvI IntKind.u64 (x1 (Int.toNat x5)))) 32) (addI IntKind.i64 x5 1) x6 (upd x7 (Int.toNat x5) (cvI IntKind.u32 (addI IntKind.u64 (addI IntKind.u64 x4 (cvI IntKind.u64 (x7 (Int.toNat x5)))) (cvI IntKind.u64 (x1 (Int.toNat x5))))))))) (gd (leI 0 x5 && ltI x5 ↑x2) (again x0 x1 x2 x3 (shrI IntKind.u64 (addI IntKind.u64 x4 (cvI IntKind.u64 (x7 (Int.toNat x5)))) 32) (addI IntKind.i64 x5 1) x6 (upd x7 (Int.toNat x5) (cvI IntKind.u32 (addI IntKind.u64 x4 (cvI IntKind.u64 (x7 (Int.toNat x5)))))))))) (br (ltI 0 x4) (gd (leI 0 x5 && ltI x5 ↑x2) (br (ltI x5 ↑x0) (gd (leI 0 x5 && ltI x5 ↑x0) (gd (leI 0 x5 && ltI x5 ↑x2) (again x0 x1 x2 x3 (shrI IntKind.u64 (addI IntKind.u64 (addI IntKind.u64 x4 (cvI IntKind.u64 (x7 (Int.toNat x5)))) (cvI IntKind.u64 (x1 (Int.toNat x5)))) 32) (addI IntKind.i64 x5 1) x6 (upd x7 (Int.toNat x5) (cvI IntKind.u32 (addI IntKind.u64 (addI IntKind.u64 x4 (cvI IntKind.u64 (x7 (Int.toNat x5)))) (cvI IntKind.u64 (x1 (Int.toNat x5))))))))) (gd (leI 0 x5 && ltI x5 ↑x2) (again x0 x1 x2 x3 (shrI IntKind.u64 (addI IntKind.u64 x4 (cvI IntKind.u64 (x7 (Int.toNat x5)))) 32) (addI IntKind.i64 x5 1) x6 (upd x7 (Int.toNat x5) (cvI IntKind.u32 (addI IntKind.u64 x4 (cvI IntKind.u64 (x7 (Int.toNat x5)))))))))) (k0 x2 x3 x6 x7))
def nat_sum.l7 (k0 : Nat → Nat → Nat → (Nat → Int) → Prop) : Nat → Nat → (Nat → Int) → Nat → Nat → Int → Int → Nat → (Nat → Int) → Prop
  | 0 => fun _ _ _ _ _ _ _ _ => False
  | n + 1 => nat_sum.l7.step (nat_sum.l7 k0 n) k0
def nat_sum.l7.entry : LoopEntry := ⟨LV.mk 32 [(0, 32)] 16 0 false, 0, 59, fun vs H K => match vs, H with
  | [EV.rsI IntKind.u32 x0 x1, EV.slice 0 0 x2 (some x3) 1, EV.int IntKind.u64 x4, EV.int IntKind.i64 x5], [some (EV.arr IntKind.u32 x6 x7)] => ∃ n, nat_sum.l7 (fun y0 y1 y2 y3 => K (.exit 0) [EV.slice 0 0 y0 (some y1) 1] [some (EV.arr IntKind.u32 y2 y3)]) n x0 x1 x2 x3 x4 x5 x6 x7
  | _, _ => False⟩
def nat_sum.d (a0n : Nat) (a0 : Nat → Int) (a1n : Nat) (a1 : Nat → Int) (K : Nat → (Nat → Int) → Prop) : Prop :=
  br (ltI ↑a0n ↑a1n) (gd (leI 0 (addI IntKind.i64 (↑a1n) 1) && (leI (addI IntKind.i64 (↑a1n) 1) (addI IntKind.i64 (↑a1n) 1) && leI (addI IntKind.i64 (↑a1n) 1) 1099511627776)) (∃ n, nat_sum.l7 (fun y0 y1 y2 y3 => nat_cut_o y0 y1 y2 y3 fun y0 y1 y2 y3 => K y0 y3) n a0n a0 (Int.toNat (addI IntKind.i64 (↑a1n) 1)) (Int.toNat (addI IntKind.i64 (↑a1n) 1)) 0 0 (Int.toNat (addI IntKind.i64 (↑a1n) 1)) (ovl 0 (minN a1n (Int.toNat (addI IntKind.i64 (↑a1n) 1))) a1 fun x => 0))) (gd (leI 0 (addI IntKind.i64 (↑a0n) 1) && (leI (addI IntKind.i64 (↑a0n) 1) (addI IntKind.i64 (↑a0n) 1) && leI (addI IntKind.i64 (↑a0n) 1) 1099511627776)) (∃ n, nat_sum.l7 (fun y0 y1 y2 y3 => nat_cut_o y0 y1 y2 y3 fun y0 y1 y2 y3 => K y0 y3) n a1n a1 (Int.toNat (addI IntKind.i64 (↑a0n) 1)) (Int.toNat (addI IntKind.i64 (↑a0n) 1)) 0 0 (Int.toNat (addI IntKind.i64 (↑a0n) 1)) (ovl 0 (minN a0n (Int.toNat (addI IntKind.i64 (↑a0n) 1))) a0 fun x => 0)))
noncomputable def nat_sum : Nat → (Nat → Int) → Nat → (Nat → Int) → (Nat → (Nat → Int) → Prop) → Prop := Classical.choose (⟨nat_sum.d, rfl⟩ : ∃ f, f = nat_sum.d)
theorem nat_sum.is : nat_sum = nat_sum.d := Classical.choose_spec (⟨nat_sum.d, rfl⟩ : ∃ f, f = nat_sum.d)
def nat_cut_r.l1.step (again : Nat → (Nat → Int) → Prop) (k0 : Nat → (Nat → Int) → Prop) (x0 : Nat) (x1 : Nat → Int) : Prop :=
  br (ltI 0 ↑x0) (gd (leI 0 (subI IntKind.i64 (↑x0) 1) && ltI (subI IntKind.i64 (↑x0) 1) ↑x0) (br (eqI (x1 (Int.toNat (subI IntKind.i64 (↑x0) 1))) 0) (gd (leI 0 (subI IntKind.i64 (↑x0) 1) && leI (subI IntKind.i64 (↑x0) 1) ↑x0) (again (Int.toNat (subI IntKind.i64 (↑x0) 1) - 0) x1)) (k0 x0 x1))) (k0 x0 x1)
def nat_cut_r.l1 (k0 : Nat → (Nat → Int) → Prop) : Nat → Nat → (Nat → Int) → Prop
  | 0 => fun _ _ => False
  | n + 1 => nat_cut_r.l1.step (nat_cut_r.l1 k0 n) k0
def nat_cut_r.l1.entry : LoopEntry := ⟨LV.mk 1 [(0, 1)] 4 0 false, 0, 21, fun vs H K => match vs, H with
  | [EV.rsI IntKind.u32 x0 x1], [] => ∃ n, nat_cut_r.l1 (fun y0 y1 => K (.exit 0) [EV.rsI IntKind.u32 y0 y1] []) n x0 x1
  | _, _ => False⟩
def nat_cut_r.d (a0n : Nat) (a0 : Nat → Int) (K : Nat → (Nat → Int) → Prop) : Prop :=
  ∃ n, nat_cut_r.l1 (fun y0 y1 => K y0 y1) n a0n a0
noncomputable def nat_cut_r : Nat → (Nat → Int) → (Nat → (Nat → Int) → Prop) → Prop := Classical.choose (⟨nat_cut_r.d, rfl⟩ : ∃ f, f = nat_cut_r.d)
theorem nat_cut_r.is : nat_cut_r = nat_cut_r.d := Classical.choose_spec (⟨nat_cut_r.d, rfl⟩ : ∃ f, f = nat_cut_r.d)
def nat_number.l4.step (again : Nat → (Nat → Int) → Nat → Nat → Int → Int → Nat → (Nat → Int) → Prop) (k0 : Nat → Nat → Nat → (Nat → Int) → Prop) (x0 : Nat) (x1 : Nat → Int) (x2 : Nat) (x3 : Nat) (x4 : Int) (x5 : Int) (x6 : Nat) (x7 : Nat → Int) : Prop :=
  br (ltI x5 x4) (gd (leI 0 (quoI IntKind.i64 x5 4) && ltI (quoI IntKind.i64 x5 4) ↑x0) (gd (!ltI (cvI IntKind.u64 (mulI IntKind.i64 8 (remI IntKind.i64 x5 4))) 0) (gd (leI 0 (subI IntKind.i64 (subI IntKind.i64 (↑x2) 1) x5) && ltI (subI IntKind.i64 (subI IntKind.i64 (↑x2) 1) x5) ↑x2) (again x0 x1 x2 x3 x4 (addI IntKind.i64 x5 1) x6 (upd x7 (Int.toNat (subI IntKind.i64 (subI IntKind.i64 (↑x2) 1) x5)) (cvI IntKind.u8 (shrI IntKind.u32 (x1 (Int.toNat (quoI IntKind.i64 x5 4))) (cvI IntKind.u64 (mulI IntKind.i64 8 (remI IntKind.i64 x5 4)))))))))) (k0 x2 x3 x6 x7)
def nat_number.l4 (k0 : Nat → Nat → Nat → (Nat → Int) → Prop) : Nat → Nat → (Nat → Int) → Nat → Nat → Int → Int → Nat → (Nat → Int) → Prop
  | 0 => fun _ _ _ _ _ _ _ _ => False
  | n + 1 => nat_number.l4.step (nat_number.l4 k0 n) k0
def nat_number.l4.entry : LoopEntry := ⟨LV.mk 8 [(0, 8)] 4 0 false, 0, 48, fun vs H K => match vs, H with
  | [EV.rsI IntKind.u32 x0 x1, EV.slice 0 0 x2 (some x3) 1, EV.int IntKind.i64 x4, EV.int IntKind.i64 x5], [some (EV.arr IntKind.u8 x6 x7)] => ∃ n, nat_number.l4 (fun y0 y1 y2 y3 => K (.exit 0) [EV.slice 0 0 y0 (some y1) 1] [some (EV.arr IntKind.u8 y2 y3)]) n x0 x1 x2 x3 x4 x5 x6 x7
  | _, _ => False⟩
def nat_number.l8.step (again : Nat → Nat → Nat → Nat → (Nat → Int) → Prop) (k0 : Nat → Nat → Nat → Nat → (Nat → Int) → Prop) (x0 : Nat) (x1 : Nat) (x2 : Nat) (x3 : Nat) (x4 : Nat → Int) : Prop :=
  br (ltI 0 ↑x1) (gd (ltI 0 ↑x1) (br (eqI (x4 (addOff x0 0)) 0) (gd (leI 1 ↑x1 && leI ↑x1 ↑x2) (again (addOff x0 1) (Int.toNat ↑x1 - 1) (x2 - 1) x3 x4)) (k0 x0 x1 x2 x3 x4))) (k0 x0 x1 x2 x3 x4)
def nat_number.l8 (k0 : Nat → Nat → Nat → Nat → (Nat → Int) → Prop) : Nat → Nat → Nat → Nat → Nat → (Nat → Int) → Prop
  | 0 => fun _ _ _ _ _ => False
  | n + 1 => nat_number.l8.step (nat_number.l8 k0 n) k0
def nat_number.l8.entry : LoopEntry := ⟨LV.mk 8 [(2, 8)] 4 0 false, 0, 48, fun vs H K => match vs, H with
  | [EV.slice 0 x0 x1 (some x2) 1], [some (EV.arr IntKind.u8 x3 x4)] => ∃ n, nat_number.l8 (fun y0 y1 y2 y3 y4 => K (.exit 2) [EV.slice 0 y0 y1 (some y2) 1] [some (EV.arr IntKind.u8 y3 y4)]) n x0 x1 x2 x3 x4
  | _, _ => False⟩
def nat_number.d (a0n : Nat) (a0 : Nat → Int) (K : List UInt8 → Prop) : Prop :=
  nat_cut_r a0n a0 fun y0 y1 => gd (leI 0 (mulI IntKind.i64 4 ↑y0) && (leI (mulI IntKind.i64 4 ↑y0) (mulI IntKind.i64 4 ↑y0) && leI (mulI IntKind.i64 4 ↑y0) 1099511627776)) (∃ n, nat_number.l4 (fun y0 y1 y2 y3 => ∃ n, nat_number.l8 (fun y0 y1 y2 y3 y4 => K (bytesOf y1 (shift y0 y4))) n 0 y0 y1 y2 y3) n y0 y1 (Int.toNat (mulI IntKind.i64 4 ↑y0)) (Int.toNat (mulI IntKind.i64 4 ↑y0)) (↑(Int.toNat (mulI IntKind.i64 4 ↑y0))) 0 (Int.toNat (mulI IntKind.i64 4 ↑y0)) fun x => 0)
noncomputable def nat_number : Nat → (Nat → Int) → (List UInt8 → Prop) → Prop := Classical.choose (⟨nat_number.d, rfl⟩ : ∃ f, f = nat_number.d)
theorem nat_number.is : nat_number = nat_number.d := Classical.choose_spec (⟨nat_number.d, rfl⟩ : ∃ f, f = nat_number.d)
def nat_told.d (a0n : Nat) (a0 : Nat → Int) (K : List UInt8 → Int → Prop) : Prop :=
  nat_number a0n a0 fun y0 => br (ltI 16384 ↑(List.length y0)) (K [] 4) (K y0 0)
noncomputable def nat_told : Nat → (Nat → Int) → (List UInt8 → Int → Prop) → Prop := Classical.choose (⟨nat_told.d, rfl⟩ : ∃ f, f = nat_told.d)
theorem nat_told.is : nat_told = nat_told.d := Classical.choose_spec (⟨nat_told.d, rfl⟩ : ∃ f, f = nat_told.d)
def nat_words.l3.step (again : List UInt8 → Nat → Nat → Int → Int → Nat → (Nat → Int) → Prop) (k0 : Nat → Nat → Nat → (Nat → Int) → Prop) (x0 : List UInt8) (x1 : Nat) (x2 : Nat) (x3 : Int) (x4 : Int) (x5 : Nat) (x6 : Nat → Int) : Prop :=
  br (ltI x4 x3) (gd (leI 0 (quoI IntKind.i64 x4 4) && ltI (quoI IntKind.i64 x4 4) ↑x1) (gd (leI 0 (subI IntKind.i64 (subI IntKind.i64 (↑(List.length x0)) 1) x4) && ltI (subI IntKind.i64 (subI IntKind.i64 (↑(List.length x0)) 1) x4) ↑(List.length x0)) (gd (!ltI (cvI IntKind.u64 (mulI IntKind.i64 8 (remI IntKind.i64 x4 4))) 0) (gd (leI 0 (quoI IntKind.i64 x4 4) && ltI (quoI IntKind.i64 x4 4) ↑x1) (again x0 x1 x2 x3 (addI IntKind.i64 x4 1) x5 (upd x6 (Int.toNat (quoI IntKind.i64 x4 4)) (orI IntKind.u32 (x6 (Int.toNat (quoI IntKind.i64 x4 4))) (shlI IntKind.u32 (cvI IntKind.u32 (byteAt x0 (Int.toNat (subI IntKind.i64 (subI IntKind.i64 (↑(List.length x0)) 1) x4)))) (cvI IntKind.u64 (mulI IntKind.i64 8 (remI IntKind.i64 x4 4))))))))))) (k0 x1 x2 x5 x6)
def nat_words.l3 (k0 : Nat → Nat → Nat → (Nat → Int) → Prop) : Nat → List UInt8 → Nat → Nat → Int → Int → Nat → (Nat → Int) → Prop
  | 0 => fun _ _ _ _ _ _ _ => False
  | n + 1 => nat_words.l3.step (nat_words.l3 k0 n) k0
def nat_words.l3.entry : LoopEntry := ⟨LV.mk 8 [(0, 8)] 4 0 false, 0, 37, fun vs H K => match vs, H with
  | [EV.str x0, EV.slice 0 0 x1 (some x2) 1, EV.int IntKind.i64 x3, EV.int IntKind.i64 x4], [some (EV.arr IntKind.u32 x5 x6)] => ∃ n, nat_words.l3 (fun y0 y1 y2 y3 => K (.exit 0) [EV.slice 0 0 y0 (some y1) 1] [some (EV.arr IntKind.u32 y2 y3)]) n x0 x1 x2 x3 x4 x5 x6
  | _, _ => False⟩
def nat_words.d (a0 : List UInt8) (K : Nat → (Nat → Int) → Prop) : Prop :=
  gd (leI 0 (quoI IntKind.i64 (addI IntKind.i64 (↑(List.length a0)) 3) 4) && (leI (quoI IntKind.i64 (addI IntKind.i64 (↑(List.length a0)) 3) 4) (quoI IntKind.i64 (addI IntKind.i64 (↑(List.length a0)) 3) 4) && leI (quoI IntKind.i64 (addI IntKind.i64 (↑(List.length a0)) 3) 4) 1099511627776)) (∃ n, nat_words.l3 (fun y0 y1 y2 y3 => K y0 y3) n a0 (Int.toNat (quoI IntKind.i64 (addI IntKind.i64 (↑(List.length a0)) 3) 4)) (Int.toNat (quoI IntKind.i64 (addI IntKind.i64 (↑(List.length a0)) 3) 4)) (↑(List.length a0)) 0 (Int.toNat (quoI IntKind.i64 (addI IntKind.i64 (↑(List.length a0)) 3) 4)) fun x => 0)
noncomputable def nat_words : List UInt8 → (Nat → (Nat → Int) → Prop) → Prop := Classical.choose (⟨nat_words.d, rfl⟩ : ∃ f, f = nat_words.d)
theorem nat_words.is : nat_words = nat_words.d := Classical.choose_spec (⟨nat_words.d, rfl⟩ : ∃ f, f = nat_words.d)
def nat_Add.d (a0 : List UInt8) (a1 : List UInt8) (K : List UInt8 → Int → Prop) : Prop :=
  nat_right a0 a1 fun y0 => br (!y0) (K [] 2) (nat_words a0 fun y0 y1 => nat_words a1 fun y0_1 y1_1 => nat_sum y0 y1 y0_1 y1_1 fun y0 y1 => nat_told y0 y1 fun y0 y1 => K y0 y1)
noncomputable def nat_Add : List UInt8 → List UInt8 → (List UInt8 → Int → Prop) → Prop := Classical.choose (⟨nat_Add.d, rfl⟩ : ∃ f, f = nat_Add.d)
theorem nat_Add.is : nat_Add = nat_Add.d := Classical.choose_spec (⟨nat_Add.d, rfl⟩ : ∃ f, f = nat_Add.d)
def nat_cmp.l6.step (again : Nat → (Nat → Int) → Nat → (Nat → Int) → Int → Prop) (k0 : Int → Prop) (k1 : Prop) (x0 : Nat) (x1 : Nat → Int) (x2 : Nat) (x3 : Nat → Int) (x4 : Int) : Prop :=
  br (leI 0 x4) (gd (leI 0 x4 && ltI x4 ↑x0) (gd (leI 0 x4 && ltI x4 ↑x2) (br (ltI (x1 (Int.toNat x4)) (x3 (Int.toNat x4))) (k0 (-1)) (gd (leI 0 x4 && ltI x4 ↑x0) (gd (leI 0 x4 && ltI x4 ↑x2) (br (ltI (x3 (Int.toNat x4)) (x1 (Int.toNat x4))) (k0 1) (again x0 x1 x2 x3 (subI IntKind.i64 x4 1)))))))) k1
def nat_cmp.l6 (k0 : Int → Prop) (k1 : Prop) : Nat → Nat → (Nat → Int) → Nat → (Nat → Int) → Int → Prop
  | 0 => fun _ _ _ _ _ => False
  | n + 1 => nat_cmp.l6.step (nat_cmp.l6 k0 k1 n) k0 k1
def nat_cmp.l6.entry : LoopEntry := ⟨LV.mk 0 [(1, 0)] 16 0 false, 0, 45, fun vs H K => match vs, H with
  | [EV.rsI IntKind.u32 x0 x1, EV.rsI IntKind.u32 x2 x3, EV.int IntKind.i64 x4], [] => ∃ n, nat_cmp.l6 (fun y0 => K .ret [EV.int IntKind.i64 y0] []) (K (.exit 1) [] []) n x0 x1 x2 x3 x4
  | _, _ => False⟩
def nat_cmp.d (a0n : Nat) (a0 : Nat → Int) (a1n : Nat) (a1 : Nat → Int) (K : Int → Prop) : Prop :=
  br (ltI ↑a0n ↑a1n) (K (-1)) (br (ltI ↑a1n ↑a0n) (K 1) (∃ n, nat_cmp.l6 (fun y0 => K y0) (K 0) n a0n a0 a1n a1 (subI IntKind.i64 (↑a0n) 1)))
noncomputable def nat_cmp : Nat → (Nat → Int) → Nat → (Nat → Int) → (Int → Prop) → Prop := Classical.choose (⟨nat_cmp.d, rfl⟩ : ∃ f, f = nat_cmp.d)
theorem nat_cmp.is : nat_cmp = nat_cmp.d := Classical.choose_spec (⟨nat_cmp.d, rfl⟩ : ∃ f, f = nat_cmp.d)
def nat_Cmp.d (a0 : List UInt8) (a1 : List UInt8) (K : Int → Int → Prop) : Prop :=
  nat_right a0 a1 fun y0 => br (!y0) (K 0 2) (nat_words a0 fun y0 y1 => nat_words a1 fun y0_1 y1_1 => nat_cmp y0 y1 y0_1 y1_1 fun y0 => K y0 0)
noncomputable def nat_Cmp : List UInt8 → List UInt8 → (Int → Int → Prop) → Prop := Classical.choose (⟨nat_Cmp.d, rfl⟩ : ∃ f, f = nat_Cmp.d)
theorem nat_Cmp.is : nat_Cmp = nat_Cmp.d := Classical.choose_spec (⟨nat_Cmp.d, rfl⟩ : ∃ f, f = nat_Cmp.d)
def nat_cut_n.l1.step (again : Nat → Nat → (Nat → Int) → Prop) (k0 : Nat → Nat → (Nat → Int) → Prop) (x0 : Nat) (x1 : Nat) (x2 : Nat → Int) : Prop :=
  br (ltI 0 ↑x0) (gd (leI 0 (subI IntKind.i64 (↑x0) 1) && ltI (subI IntKind.i64 (↑x0) 1) ↑x0) (br (eqI (x2 (Int.toNat (subI IntKind.i64 (↑x0) 1))) 0) (gd (leI 0 (subI IntKind.i64 (↑x0) 1) && leI (subI IntKind.i64 (↑x0) 1) ↑x0) (again (Int.toNat (subI IntKind.i64 (↑x0) 1) - 0) x1 x2)) (k0 x0 x1 x2))) (k0 x0 x1 x2)
def nat_cut_n.l1 (k0 : Nat → Nat → (Nat → Int) → Prop) : Nat → Nat → Nat → (Nat → Int) → Prop
  | 0 => fun _ _ _ => False
  | n + 1 => nat_cut_n.l1.step (nat_cut_n.l1 k0 n) k0
def nat_cut_n.l1.entry : LoopEntry := ⟨LV.mk 1 [(0, 1)] 4 1 false, 1, 21, fun vs H K => match vs, H with
  | [EV.slice 0 0 x0 none 1], [some (EV.arr IntKind.u32 x1 x2)] => ∃ n, nat_cut_n.l1 (fun y0 y1 y2 => K (.exit 0) [EV.slice 0 0 y0 none 1] [some (EV.arr IntKind.u32 y1 y2)]) n x0 x1 x2
  | _, _ => False⟩
def nat_cut_n.d (a0l : Nat) (a0n : Nat) (a0 : Nat → Int) (K : Nat → Nat → (Nat → Int) → Prop) : Prop :=
  ∃ n, nat_cut_n.l1 (fun y0 y1 y2 => K y0 y1 y2) n a0l a0n a0
noncomputable def nat_cut_n : Nat → Nat → (Nat → Int) → (Nat → Nat → (Nat → Int) → Prop) → Prop := Classical.choose (⟨nat_cut_n.d, rfl⟩ : ∃ f, f = nat_cut_n.d)
theorem nat_cut_n.is : nat_cut_n = nat_cut_n.d := Classical.choose_spec (⟨nat_cut_n.d, rfl⟩ : ∃ f, f = nat_cut_n.d)
def nat_down.l5.step (again : Nat → (Nat → Int) → Int → Nat → Nat → Int → Int → Nat → (Nat → Int) → Prop) (k0 : Nat → Nat → Nat → (Nat → Int) → Prop) (x0 : Nat) (x1 : Nat → Int) (x2 : Int) (x3 : Nat) (x4 : Nat) (x5 : Int) (x6 : Int) (x7 : Nat) (x8 : Nat → Int) : Prop :=
  br (ltI x6 x5) (gd (leI 0 (addI IntKind.i64 x6 (quoI IntKind.i64 x2 32)) && ltI (addI IntKind.i64 x6 (quoI IntKind.i64 x2 32)) ↑x0) (br (ltI (addI IntKind.i64 (addI IntKind.i64 x6 (quoI IntKind.i64 x2 32)) 1) ↑x0) (gd (leI 0 (addI IntKind.i64 (addI IntKind.i64 x6 (quoI IntKind.i64 x2 32)) 1) && ltI (addI IntKind.i64 (addI IntKind.i64 x6 (quoI IntKind.i64 x2 32)) 1) ↑x0) (gd (!ltI (cvI IntKind.u64 (remI IntKind.i64 x2 32)) 0) (gd (leI 0 x6 && ltI x6 ↑x3) (again x0 x1 x2 x3 x4 x5 (addI IntKind.i64 x6 1) x7 (upd x8 (Int.toNat x6) (cvI IntKind.u32 (shrI IntKind.u64 (orI IntKind.u64 (cvI IntKind.u64 (x1 (Int.toNat (addI IntKind.i64 x6 (quoI IntKind.i64 x2 32))))) (shlI IntKind.u64 (cvI IntKind.u64 (x1 (Int.toNat (addI IntKind.i64 (addI IntKind.i64 x6 (quoI IntKind.i64 x2 32)) 1)))) 32)) (cvI IntKind.u64 (remI IntKind.i64 x2 32))))))))) (gd (!ltI (cvI IntKind.u64 (remI IntKind.i64 x2 32)) 0) (gd (leI 0 x6 && ltI x6 ↑x3) (again x0 x1 x2 x3 x4 x5 (addI IntKind.i64 x6 1) x7 (upd x8 (Int.toNat x6) (cvI IntKind.u32 (shrI IntKind.u64 (cvI IntKind.u64 (x1 (Int.toNat (addI IntKind.i64 x6 (quoI IntKind.i64 x2 32))))) (cvI IntKind.u64 (remI IntKind.i64 x2 32)))))))))) (k0 x3 x4 x7 x8)
def nat_down.l5 (k0 : Nat → Nat → Nat → (Nat → Int) → Prop) : Nat → Nat → (Nat → Int) → Int → Nat → Nat → Int → Int → Nat → (Nat → Int) → Prop
  | 0 => fun _ _ _ _ _ _ _ _ _ => False
  | n + 1 => nat_down.l5.step (nat_down.l5 k0 n) k0
def nat_down.l5.entry : LoopEntry := ⟨LV.mk 32 [(0, 32)] 16 0 false, 0, 64, fun vs H K => match vs, H with
  | [EV.rsI IntKind.u32 x0 x1, EV.int IntKind.i64 x2, EV.slice 0 0 x3 (some x4) 1, EV.int IntKind.i64 x5, EV.int IntKind.i64 x6], [some (EV.arr IntKind.u32 x7 x8)] => ∃ n, nat_down.l5 (fun y0 y1 y2 y3 => K (.exit 0) [EV.slice 0 0 y0 (some y1) 1] [some (EV.arr IntKind.u32 y2 y3)]) n x0 x1 x2 x3 x4 x5 x6 x7 x8
  | _, _ => False⟩
def nat_down.d (a0n : Nat) (a0 : Nat → Int) (a1 : Int) (K : Nat → (Nat → Int) → Prop) : Prop :=
  br (leI (↑a0n) (quoI IntKind.i64 a1 32)) (K 0 fun x => 0) (gd (leI 0 (subI IntKind.i64 (↑a0n) (quoI IntKind.i64 a1 32)) && (leI (subI IntKind.i64 (↑a0n) (quoI IntKind.i64 a1 32)) (subI IntKind.i64 (↑a0n) (quoI IntKind.i64 a1 32)) && leI (subI IntKind.i64 (↑a0n) (quoI IntKind.i64 a1 32)) 1099511627776)) (∃ n, nat_down.l5 (fun y0 y1 y2 y3 => nat_cut_o y0 y1 y2 y3 fun y0 y1 y2 y3 => K y0 y3) n a0n a0 a1 (Int.toNat (subI IntKind.i64 (↑a0n) (quoI IntKind.i64 a1 32))) (Int.toNat (subI IntKind.i64 (↑a0n) (quoI IntKind.i64 a1 32))) (↑(Int.toNat (subI IntKind.i64 (↑a0n) (quoI IntKind.i64 a1 32)))) 0 (Int.toNat (subI IntKind.i64 (↑a0n) (quoI IntKind.i64 a1 32))) fun x => 0))
noncomputable def nat_down : Nat → (Nat → Int) → Int → (Nat → (Nat → Int) → Prop) → Prop := Classical.choose (⟨nat_down.d, rfl⟩ : ∃ f, f = nat_down.d)
theorem nat_down.is : nat_down = nat_down.d := Classical.choose_spec (⟨nat_down.d, rfl⟩ : ∃ f, f = nat_down.d)
def nat_up.l5.step (again : Int → Nat → Nat → Nat → (Nat → Int) → Int → Int → Nat → (Nat → Int) → Prop) (k0 : Nat → Nat → Nat → (Nat → Int) → Prop) (x0 : Int) (x1 : Nat) (x2 : Nat) (x3 : Nat) (x4 : Nat → Int) (x5 : Int) (x6 : Int) (x7 : Nat) (x8 : Nat → Int) : Prop :=
  br (ltI x6 x5) (gd (leI 0 x6 && ltI x6 ↑x3) (gd (!ltI (cvI IntKind.u64 (remI IntKind.i64 x0 32)) 0) (gd (leI 0 (addI IntKind.i64 x6 (quoI IntKind.i64 x0 32)) && ltI (addI IntKind.i64 x6 (quoI IntKind.i64 x0 32)) ↑x1) (gd (leI 0 (addI IntKind.i64 x6 (quoI IntKind.i64 x0 32)) && ltI (addI IntKind.i64 x6 (quoI IntKind.i64 x0 32)) ↑x1) (gd (leI 0 (addI IntKind.i64 (addI IntKind.i64 x6 (quoI IntKind.i64 x0 32)) 1) && ltI (addI IntKind.i64 (addI IntKind.i64 x6 (quoI IntKind.i64 x0 32)) 1) ↑x1) (gd (leI 0 (addI IntKind.i64 (addI IntKind.i64 x6 (quoI IntKind.i64 x0 32)) 1) && ltI (addI IntKind.i64 (addI IntKind.i64 x6 (quoI IntKind.i64 x0 32)) 1) ↑x1) (again x0 x1 x2 x3 x4 x5 (addI IntKind.i64 x6 1) x7 (upd (upd x8 (Int.toNat (addI IntKind.i64 x6 (quoI IntKind.i64 x0 32))) (orI IntKind.u32 (x8 (Int.toNat (addI IntKind.i64 x6 (quoI IntKind.i64 x0 32)))) (cvI IntKind.u32 (shlI IntKind.u64 (cvI IntKind.u64 (x4 (Int.toNat x6))) (cvI IntKind.u64 (remI IntKind.i64 x0 32)))))) (Int.toNat (addI IntKind.i64 (addI IntKind.i64 x6 (quoI IntKind.i64 x0 32)) 1)) (orI IntKind.u32 (upd x8 (Int.toNat (addI IntKind.i64 x6 (quoI IntKind.i64 x0 32))) (orI IntKind.u32 (x8 (Int.toNat (addI IntKind.i64 x6 (quoI IntKind.i64 x0 32)))) (cvI IntKind.u32 (shlI IntKind.u64 (cvI IntKind.u64 (x4 (Int.toNat x6))) (cvI IntKind.u64 (remI IntKind.i64 x0 32))))) (Int.toNat (addI IntKind.i64 (addI IntKind.i64 x6 (quoI IntKind.i64 x0 32)) 1))) (cvI IntKind.u32 (shrI IntKind.u64 (shlI IntKind.u64 (cvI IntKind.u64 (x4 (Int.toNat x6))) (cvI IntKind.u64 (remI IntKind.i64 x0 32))) 32))))))))))) (k0 x1 x2 x7 x8)
def nat_up.l5 (k0 : Nat → Nat → Nat → (Nat → Int) → Prop) : Nat → Int → Nat → Nat → Nat → (Nat → Int) → Int → Int → Nat → (Nat → Int) → Prop
  | 0 => fun _ _ _ _ _ _ _ _ _ => False
  | n + 1 => nat_up.l5.step (nat_up.l5 k0 n) k0
def nat_up.l5.entry : LoopEntry := ⟨LV.mk 32 [(0, 32)] 16 0 false, 0, 59, fun vs H K => match vs, H with
  | [EV.int IntKind.i64 x0, EV.slice 0 0 x1 (some x2) 1, EV.rsI IntKind.u32 x3 x4, EV.int IntKind.i64 x5, EV.int IntKind.i64 x6], [some (EV.arr IntKind.u32 x7 x8)] => ∃ n, nat_up.l5 (fun y0 y1 y2 y3 => K (.exit 0) [EV.slice 0 0 y0 (some y1) 1] [some (EV.arr IntKind.u32 y2 y3)]) n x0 x1 x2 x3 x4 x5 x6 x7 x8
  | _, _ => False⟩
def nat_up.d (a0n : Nat) (a0 : Nat → Int) (a1 : Int) (K0 : Prop) (K1 : Nat → Nat → Nat → (Nat → Int) → Prop) : Prop :=
  br (eqI (↑a0n) 0) K0 (gd (leI 0 (addI IntKind.i64 (addI IntKind.i64 (↑a0n) (quoI IntKind.i64 a1 32)) 1) && (leI (addI IntKind.i64 (addI IntKind.i64 (↑a0n) (quoI IntKind.i64 a1 32)) 1) (addI IntKind.i64 (addI IntKind.i64 (↑a0n) (quoI IntKind.i64 a1 32)) 1) && leI (addI IntKind.i64 (addI IntKind.i64 (↑a0n) (quoI IntKind.i64 a1 32)) 1) 1099511627776)) (∃ n, nat_up.l5 (fun y0 y1 y2 y3 => nat_cut_o y0 y1 y2 y3 fun y0 y1 y2 y3 => K1 y0 y1 y2 y3) n a1 (Int.toNat (addI IntKind.i64 (addI IntKind.i64 (↑a0n) (quoI IntKind.i64 a1 32)) 1)) (Int.toNat (addI IntKind.i64 (addI IntKind.i64 (↑a0n) (quoI IntKind.i64 a1 32)) 1)) a0n a0 (↑a0n) 0 (Int.toNat (addI IntKind.i64 (addI IntKind.i64 (↑a0n) (quoI IntKind.i64 a1 32)) 1)) fun x => 0))
noncomputable def nat_up : Nat → (Nat → Int) → Int → Prop → (Nat → Nat → Nat → (Nat → Int) → Prop) → Prop := Classical.choose (⟨nat_up.d, rfl⟩ : ∃ f, f = nat_up.d)
theorem nat_up.is : nat_up = nat_up.d := Classical.choose_spec (⟨nat_up.d, rfl⟩ : ∃ f, f = nat_up.d)
def nat_parts.l7.step (again : Nat → (Nat → Int) → Nat → (Nat → Int) → Nat → Int → Int → Nat → (Nat → Int) → Prop) (k0 : Nat → Int → Nat → (Nat → Int) → Prop) (x0 : Nat) (x1 : Nat → Int) (x2 : Nat) (x3 : Nat → Int) (x4 : Nat) (x5 : Int) (x6 : Int) (x7 : Nat) (x8 : Nat → Int) : Prop :=
  br (leI 0 x6) (gd (leI 0 x6 && ltI x6 ↑x0) (gd (ltI 0 ↑x2) (gd (!eqI (cvI IntKind.u64 (x3 0)) 0) (gd (leI 0 x6 && ltI x6 ↑x4) (gd (ltI 0 ↑x2) (gd (!eqI (cvI IntKind.u64 (x3 0)) 0) (again x0 x1 x2 x3 x4 (remI IntKind.u64 (orI IntKind.u64 (shlI IntKind.u64 x5 32) (cvI IntKind.u64 (x1 (Int.toNat x6)))) (cvI IntKind.u64 (x3 0))) (subI IntKind.i64 x6 1) x7 (upd x8 (Int.toNat x6) (cvI IntKind.u32 (quoI IntKind.u64 (orI IntKind.u64 (shlI IntKind.u64 x5 32) (cvI IntKind.u64 (x1 (Int.toNat x6)))) (cvI IntKind.u64 (x3 0)))))))))))) (k0 x4 x5 x7 x8)
def nat_parts.l7 (k0 : Nat → Int → Nat → (Nat → Int) → Prop) : Nat → Nat → (Nat → Int) → Nat → (Nat → Int) → Nat → Int → Int → Nat → (Nat → Int) → Prop
  | 0 => fun _ _ _ _ _ _ _ _ _ => False
  | n + 1 => nat_parts.l7.step (nat_parts.l7 k0 n) k0
def nat_parts.l7.entry : LoopEntry := ⟨LV.mk 80 [(0, 80)] 48 0 true, 0, 285, fun vs H K => match vs, H with
  | [EV.rsI IntKind.u32 x0 x1, EV.rsI IntKind.u32 x2 x3, EV.slice 0 0 x4 none 1, EV.int IntKind.u64 x5, EV.int IntKind.i64 x6], [some (EV.arr IntKind.u32 x7 x8)] => ∃ n, nat_parts.l7 (fun y0 y1 y2 y3 => K (.exit 0) [EV.slice 0 0 y0 none 1, EV.int IntKind.u64 y1] [some (EV.arr IntKind.u32 y2 y3)]) n x0 x1 x2 x3 x4 x5 x6 x7 x8
  | _, _ => False⟩
def nat_parts.l16.step (again : Nat → (Nat → Int) → Nat → Int → Nat → Nat → Nat → (Nat → Int) → Nat → (Nat → Int) → Nat → (Nat → Int) → Prop) (k0 : Nat → Int → Nat → Nat → Nat → (Nat → Int) → Nat → (Nat → Int) → Nat → (Nat → Int) → Prop) (x0 : Nat) (x1 : Nat → Int) (x2 : Nat) (x3 : Int) (x4 : Nat) (x5 : Nat) (x6 : Nat) (x7 : Nat → Int) (x8 : Nat) (x9 : Nat → Int) (x10 : Nat) (x11 : Nat → Int) : Prop :=
  br (ltI (↑x5) (addI IntKind.i64 (↑x0) 1)) (gd (leN (x5 + 1) 1099511627776) (again x0 x1 x2 x3 x4 (x5 + 1) x6 x7 x8 x9 (x5 + 1) (app x5 x11 (upd (fun x => 0) 0 0)))) (k0 x2 x3 x4 x5 x6 x7 x8 x9 x10 x11)
def nat_parts.l16 (k0 : Nat → Int → Nat → Nat → Nat → (Nat → Int) → Nat → (Nat → Int) → Nat → (Nat → Int) → Prop) : Nat → Nat → (Nat → Int) → Nat → Int → Nat → Nat → Nat → (Nat → Int) → Nat → (Nat → Int) → Nat → (Nat → Int) → Prop
  | 0 => fun _ _ _ _ _ _ _ _ _ _ _ _ => False
  | n + 1 => nat_parts.l16.step (nat_parts.l16 k0 n) k0
def nat_parts.l16.entry : LoopEntry := ⟨LV.mk 1808 [(2, 1808)] 48 0 true, 0, 285, fun vs H K => match vs, H with
  | [EV.rsI IntKind.u32 x0 x1, EV.slice 0 0 x2 none 1, EV.int IntKind.i64 x3, EV.slice 1 0 x4 none 1, EV.slice 2 0 x5 none 1], [some (EV.arr IntKind.u32 x6 x7), some (EV.arr IntKind.u32 x8 x9), some (EV.arr IntKind.u32 x10 x11)] => ∃ n, nat_parts.l16 (fun y0 y1 y2 y3 y4 y5 y6 y7 y8 y9 => K (.exit 2) [EV.slice 0 0 y0 none 1, EV.int IntKind.i64 y1, EV.slice 1 0 y2 none 1, EV.slice 2 0 y3 none 1] [some (EV.arr IntKind.u32 y4 y5), some (EV.arr IntKind.u32 y6 y7), some (EV.arr IntKind.u32 y8 y9)]) n x0 x1 x2 x3 x4 x5 x6 x7 x8 x9 x10 x11
  | _, _ => False⟩
def nat_parts.l24.step (again : Nat → Int → Nat → Nat → Int → Int → Int → Int → Nat → (Nat → Int) → Nat → (Nat → Int) → Nat → (Nat → Int) → Prop) (k0 : Nat → Int → Nat → Nat → Int → Int → Int → Nat → (Nat → Int) → Nat → (Nat → Int) → Nat → (Nat → Int) → Prop) (x0 : Nat) (x1 : Int) (x2 : Nat) (x3 : Nat) (x4 : Int) (x5 : Int) (x6 : Int) (x7 : Int) (x8 : Nat) (x9 : Nat → Int) (x10 : Nat) (x11 : Nat → Int) (x12 : Nat) (x13 : Nat → Int) : Prop :=
  br (leI 4294967296 x6) (gd (leI 0 (subI IntKind.i64 x4 1) && ltI (subI IntKind.i64 x4 1) ↑x2) (br (leI 4294967296 (addI IntKind.u64 x7 (cvI IntKind.u64 (x11 (Int.toNat (subI IntKind.i64 x4 1)))))) (k0 x0 x1 x2 x3 x4 x5 (subI IntKind.u64 x6 1) x8 x9 x10 x11 x12 x13) (again x0 x1 x2 x3 x4 x5 (subI IntKind.u64 x6 1) (addI IntKind.u64 x7 (cvI IntKind.u64 (x11 (Int.toNat (subI IntKind.i64 x4 1))))) x8 x9 x10 x11 x12 x13))) (gd (leI 0 (subI IntKind.i64 x4 2) && ltI (subI IntKind.i64 x4 2) ↑x2) (gd (leI 0 (subI IntKind.i64 (addI IntKind.i64 x5 x4) 2) && ltI (subI IntKind.i64 (addI IntKind.i64 x5 x4) 2) ↑x3) (br (ltI (orI IntKind.u64 (shlI IntKind.u64 x7 32) (cvI IntKind.u64 (x13 (Int.toNat (subI IntKind.i64 (addI IntKind.i64 x5 x4) 2))))) (mulI IntKind.u64 x6 (cvI IntKind.u64 (x11 (Int.toNat (subI IntKind.i64 x4 2)))))) (gd (leI 0 (subI IntKind.i64 x4 1) && ltI (subI IntKind.i64 x4 1) ↑x2) (br (leI 4294967296 (addI IntKind.u64 x7 (cvI IntKind.u64 (x11 (Int.toNat (subI IntKind.i64 x4 1)))))) (k0 x0 x1 x2 x3 x4 x5 (subI IntKind.u64 x6 1) x8 x9 x10 x11 x12 x13) (again x0 x1 x2 x3 x4 x5 (subI IntKind.u64 x6 1) (addI IntKind.u64 x7 (cvI IntKind.u64 (x11 (Int.toNat (subI IntKind.i64 x4 1))))) x8 x9 x10 x11 x12 x13))) (k0 x0 x1 x2 x3 x4 x5 x6 x8 x9 x10 x11 x12 x13))))
def nat_parts.l24 (k0 : Nat → Int → Nat → Nat → Int → Int → Int → Nat → (Nat → Int) → Nat → (Nat → Int) → Nat → (Nat → Int) → Prop) : Nat → Nat → Int → Nat → Nat → Int → Int → Int → Int → Nat → (Nat → Int) → Nat → (Nat → Int) → Nat → (Nat → Int) → Prop
  | 0 => fun _ _ _ _ _ _ _ _ _ _ _ _ _ _ => False
  | n + 1 => nat_parts.l24.step (nat_parts.l24 k0 n) k0
def nat_parts.l24.entry : LoopEntry := ⟨LV.mk 24336 [(6, 24336), (5, 7952), (4, 1296)] 48 0 true, 0, 285, fun vs H K => match vs, H with
  | [EV.slice 0 0 x0 none 1, EV.int IntKind.i64 x1, EV.slice 1 0 x2 none 1, EV.slice 2 0 x3 none 1, EV.int IntKind.i64 x4, EV.int IntKind.i64 x5, EV.int IntKind.u64 x6, EV.int IntKind.u64 x7], [some (EV.arr IntKind.u32 x8 x9), some (EV.arr IntKind.u32 x10 x11), some (EV.arr IntKind.u32 x12 x13)] => ∃ n, nat_parts.l24 (fun y0 y1 y2 y3 y4 y5 y6 y7 y8 y9 y10 y11 y12 => K (.exit 6) [EV.slice 0 0 y0 none 1, EV.int IntKind.i64 y1, EV.slice 1 0 y2 none 1, EV.slice 2 0 y3 none 1, EV.int IntKind.i64 y4, EV.int IntKind.i64 y5, EV.int IntKind.u64 y6] [some (EV.arr IntKind.u32 y7 y8), some (EV.arr IntKind.u32 y9 y10), some (EV.arr IntKind.u32 y11 y12)]) n x0 x1 x2 x3 x4 x5 x6 x7 x8 x9 x10 x11 x12 x13
  | _, _ => False⟩
def nat_parts.l31.step (again : Nat → Int → Nat → Nat → Int → Int → Int → Int → Int → Int → Int → Nat → (Nat → Int) → Nat → (Nat → Int) → Nat → (Nat → Int) → Prop) (k0 : Nat → Int → Nat → Nat → Int → Int → Int → Int → Int → Nat → (Nat → Int) → Nat → (Nat → Int) → Nat → (Nat → Int) → Prop) (x0 : Nat) (x1 : Int) (x2 : Nat) (x3 : Nat) (x4 : Int) (x5 : Int) (x6 : Int) (x7 : Int) (x8 : Int) (x9 : Int) (x10 : Int) (x11 : Nat) (x12 : Nat → Int) (x13 : Nat) (x14 : Nat → Int) (x15 : Nat) (x16 : Nat → Int) : Prop :=
  br (ltI x10 x9) (gd (leI 0 x10 && ltI x10 ↑x2) (gd (leI 0 (addI IntKind.i64 x5 x10) && ltI (addI IntKind.i64 x5 x10) ↑x3) (gd (leI 0 (addI IntKind.i64 x5 x10) && ltI (addI IntKind.i64 x5 x10) ↑x3) (again x0 x1 x2 x3 x4 x5 x6 (shrI IntKind.u64 (addI IntKind.u64 x7 (mulI IntKind.u64 x6 (cvI IntKind.u64 (x14 (Int.toNat x10))))) 32) (shrI IntKind.i64 (addI IntKind.i64 x8 (subI IntKind.i64 (cvI IntKind.i64 (x16 (Int.toNat (addI IntKind.i64 x5 x10)))) (cvI IntKind.i64 (cvI IntKind.u32 (addI IntKind.u64 x7 (mulI IntKind.u64 x6 (cvI IntKind.u64 (x14 (Int.toNat x10))))))))) 32) x9 (addI IntKind.i64 x10 1) x11 x12 x13 x14 x15 (upd x16 (Int.toNat (addI IntKind.i64 x5 x10)) (cvI IntKind.u32 (addI IntKind.i64 x8 (subI IntKind.i64 (cvI IntKind.i64 (x16 (Int.toNat (addI IntKind.i64 x5 x10)))) (cvI IntKind.i64 (cvI IntKind.u32 (addI IntKind.u64 x7 (mulI IntKind.u64 x6 (cvI IntKind.u64 (x14 (Int.toNat x10))))))))))))))) (k0 x0 x1 x2 x3 x4 x5 x6 x7 x8 x11 x12 x13 x14 x15 x16)
def nat_parts.l31 (k0 : Nat → Int → Nat → Nat → Int → Int → Int → Int → Int → Nat → (Nat → Int) → Nat → (Nat → Int) → Nat → (Nat → Int) → Prop) : Nat → Nat → Int → Nat → Nat → Int → Int → Int → Int → Int → Int → Int → Nat → (Nat → Int) → Nat → (Nat → Int) → Nat → (Nat → Int) → Prop
  | 0 => fun _ _ _ _ _ _ _ _ _ _ _ _ _ _ _ _ _ => False
  | n + 1 => nat_parts.l31.step (nat_parts.l31 k0 n) k0
def nat_parts.l31.entry : LoopEntry := ⟨LV.mk 220944 [(8, 220944), (5, 7952), (4, 1296)] 48 0 true, 0, 285, fun vs H K => match vs, H with
  | [EV.slice 0 0 x0 none 1, EV.int IntKind.i64 x1, EV.slice 1 0 x2 none 1, EV.slice 2 0 x3 none 1, EV.int IntKind.i64 x4, EV.int IntKind.i64 x5, EV.int IntKind.u64 x6, EV.int IntKind.u64 x7, EV.int IntKind.i64 x8, EV.int IntKind.i64 x9, EV.int IntKind.i64 x10], [some (EV.arr IntKind.u32 x11 x12), some (EV.arr IntKind.u32 x13 x14), some (EV.arr IntKind.u32 x15 x16)] => ∃ n, nat_parts.l31 (fun y0 y1 y2 y3 y4 y5 y6 y7 y8 y9 y10 y11 y12 y13 y14 => K (.exit 8) [EV.slice 0 0 y0 none 1, EV.int IntKind.i64 y1, EV.slice 1 0 y2 none 1, EV.slice 2 0 y3 none 1, EV.int IntKind.i64 y4, EV.int IntKind.i64 y5, EV.int IntKind.u64 y6, EV.int IntKind.u64 y7, EV.int IntKind.i64 y8] [some (EV.arr IntKind.u32 y9 y10), some (EV.arr IntKind.u32 y11 y12), some (EV.arr IntKind.u32 y13 y14)]) n x0 x1 x2 x3 x4 x5 x6 x7 x8 x9 x10 x11 x12 x13 x14 x15 x16
  | _, _ => False⟩
def nat_parts.l45.step (again : Nat → Int → Nat → Nat → Int → Int → Int → Int → Int → Int → Nat → (Nat → Int) → Nat → (Nat → Int) → Nat → (Nat → Int) → Prop) (k0 : Nat → Int → Nat → Nat → Int → Int → Int → Int → Nat → (Nat → Int) → Nat → (Nat → Int) → Nat → (Nat → Int) → Prop) (x0 : Nat) (x1 : Int) (x2 : Nat) (x3 : Nat) (x4 : Int) (x5 : Int) (x6 : Int) (x7 : Int) (x8 : Int) (x9 : Int) (x10 : Nat) (x11 : Nat → Int) (x12 : Nat) (x13 : Nat → Int) (x14 : Nat) (x15 : Nat → Int) : Prop :=
  br (ltI x9 x8) (gd (leI 0 (addI IntKind.i64 x5 x9) && ltI (addI IntKind.i64 x5 x9) ↑x3) (gd (leI 0 x9 && ltI x9 ↑x2) (gd (leI 0 (addI IntKind.i64 x5 x9) && ltI (addI IntKind.i64 x5 x9) ↑x3) (again x0 x1 x2 x3 x4 x5 x6 (shrI IntKind.u64 (addI IntKind.u64 x7 (addI IntKind.u64 (cvI IntKind.u64 (x15 (Int.toNat (addI IntKind.i64 x5 x9)))) (cvI IntKind.u64 (x13 (Int.toNat x9))))) 32) x8 (addI IntKind.i64 x9 1) x10 x11 x12 x13 x14 (upd x15 (Int.toNat (addI IntKind.i64 x5 x9)) (cvI IntKind.u32 (addI IntKind.u64 x7 (addI IntKind.u64 (cvI IntKind.u64 (x15 (Int.toNat (addI IntKind.i64 x5 x9)))) (cvI IntKind.u64 (x13 (Int.toNat x9))))))))))) (k0 x0 x1 x2 x3 x4 x5 x6 x7 x10 x11 x12 x13 x14 x15)
def nat_parts.l45 (k0 : Nat → Int → Nat → Nat → Int → Int → Int → Int → Nat → (Nat → Int) → Nat → (Nat → Int) → Nat → (Nat → Int) → Prop) : Nat → Nat → Int → Nat → Nat → Int → Int → Int → Int → Int → Int → Nat → (Nat → Int) → Nat → (Nat → Int) → Nat → (Nat → Int) → Prop
  | 0 => fun _ _ _ _ _ _ _ _ _ _ _ _ _ _ _ _ => False
  | n + 1 => nat_parts.l45.step (nat_parts.l45 k0 n) k0
def nat_parts.l45.entry : LoopEntry := ⟨LV.mk 89872 [(10, 89872), (5, 7952), (4, 1296)] 48 0 true, 0, 285, fun vs H K => match vs, H with
  | [EV.slice 0 0 x0 none 1, EV.int IntKind.i64 x1, EV.slice 1 0 x2 none 1, EV.slice 2 0 x3 none 1, EV.int IntKind.i64 x4, EV.int IntKind.i64 x5, EV.int IntKind.u64 x6, EV.int IntKind.u64 x7, EV.int IntKind.i64 x8, EV.int IntKind.i64 x9], [some (EV.arr IntKind.u32 x10 x11), some (EV.arr IntKind.u32 x12 x13), some (EV.arr IntKind.u32 x14 x15)] => ∃ n, nat_parts.l45 (fun y0 y1 y2 y3 y4 y5 y6 y7 y8 y9 y10 y11 y12 y13 => K (.exit 10) [EV.slice 0 0 y0 none 1, EV.int IntKind.i64 y1, EV.slice 1 0 y2 none 1, EV.slice 2 0 y3 none 1, EV.int IntKind.i64 y4, EV.int IntKind.i64 y5, EV.int IntKind.u64 y6, EV.int IntKind.u64 y7] [some (EV.arr IntKind.u32 y8 y9), some (EV.arr IntKind.u32 y10 y11), some (EV.arr IntKind.u32 y12 y13)]) n x0 x1 x2 x3 x4 x5 x6 x7 x8 x9 x10 x11 x12 x13 x14 x15
  | _, _ => False⟩
def nat_parts.l20.step (again : Nat → Int → Nat → Nat → Int → Int → Nat → (Nat → Int) → Nat → (Nat → Int) → Nat → (Nat → Int) → Prop) (k0 : Nat → Int → Nat → Nat → (Nat → Int) → Nat → (Nat → Int) → Prop) (x0 : Nat) (x1 : Int) (x2 : Nat) (x3 : Nat) (x4 : Int) (x5 : Int) (x6 : Nat) (x7 : Nat → Int) (x8 : Nat) (x9 : Nat → Int) (x10 : Nat) (x11 : Nat → Int) : Prop :=
  br (leI 0 x5) (gd (leI 0 (addI IntKind.i64 x5 x4) && ltI (addI IntKind.i64 x5 x4) ↑x3) (gd (leI 0 (subI IntKind.i64 (addI IntKind.i64 x5 x4) 1) && ltI (subI IntKind.i64 (addI IntKind.i64 x5 x4) 1) ↑x3) (gd (leI 0 (subI IntKind.i64 x4 1) && ltI (subI IntKind.i64 x4 1) ↑x2) (gd (!eqI (cvI IntKind.u64 (x9 (Int.toNat (subI IntKind.i64 x4 1)))) 0) (gd (leI 0 (subI IntKind.i64 x4 1) && ltI (subI IntKind.i64 x4 1) ↑x2) (gd (!eqI (cvI IntKind.u64 (x9 (Int.toNat (subI IntKind.i64 x4 1)))) 0) (∃ n, nat_parts.l24 (fun y0 y1 y2 y3 y4 y5 y6 y7 y8 y9 y10 y11 y12 => ∃ n, nat_parts.l31 (fun y0 y1 y2 y3 y4 y5 y6 y7 y8 y9 y10 y11 y12 y13 y14 => gd (leI 0 (addI IntKind.i64 y5 y4) && ltI (addI IntKind.i64 y5 y4) ↑y3) (gd (leI 0 (addI IntKind.i64 y5 y4) && ltI (addI IntKind.i64 y5 y4) ↑y3) (br (ltI (addI IntKind.i64 y8 (subI IntKind.i64 (cvI IntKind.i64 (y14 (Int.toNat (addI IntKind.i64 y5 y4)))) (cvI IntKind.i64 y7))) 0) (∃ n, nat_parts.l45 (fun y0 y1 y2 y3 y4 y5 y6 y7 y8 y9 y10 y11 y12 y13 => gd (leI 0 (addI IntKind.i64 y5 y4) && ltI (addI IntKind.i64 y5 y4) ↑y3) (gd (leI 0 (addI IntKind.i64 y5 y4) && ltI (addI IntKind.i64 y5 y4) ↑y3) (gd (leI 0 y5 && ltI y5 ↑y0) (again y0 y1 y2 y3 y4 (subI IntKind.i64 y5 1) y8 (upd y9 (Int.toNat y5) (cvI IntKind.u32 y6)) y10 y11 y12 (upd y13 (Int.toNat (addI IntKind.i64 y5 y4)) (addI IntKind.u32 (y13 (Int.toNat (addI IntKind.i64 y5 y4))) (cvI IntKind.u32 y7))))))) n y0 y1 y2 y3 y4 y5 (subI IntKind.u64 y6 1) 0 y4 0 y9 y10 y11 y12 y13 (upd y14 (Int.toNat (addI IntKind.i64 y5 y4)) (cvI IntKind.u32 (addI IntKind.i64 y8 (subI IntKind.i64 (cvI IntKind.i64 (y14 (Int.toNat (addI IntKind.i64 y5 y4)))) (cvI IntKind.i64 y7)))))) (gd (leI 0 y5 && ltI y5 ↑y0) (again y0 y1 y2 y3 y4 (subI IntKind.i64 y5 1) y9 (upd y10 (Int.toNat y5) (cvI IntKind.u32 y6)) y11 y12 y13 (upd y14 (Int.toNat (addI IntKind.i64 y5 y4)) (cvI IntKind.u32 (addI IntKind.i64 y8 (subI IntKind.i64 (cvI IntKind.i64 (y14 (Int.toNat (addI IntKind.i64 y5 y4)))) (cvI IntKind.i64 y7)))))))))) n y0 y1 y2 y3 y4 y5 y6 0 0 y4 0 y7 y8 y9 y10 y11 y12) n x0 x1 x2 x3 x4 x5 (quoI IntKind.u64 (orI IntKind.u64 (shlI IntKind.u64 (cvI IntKind.u64 (x11 (Int.toNat (addI IntKind.i64 x5 x4)))) 32) (cvI IntKind.u64 (x11 (Int.toNat (subI IntKind.i64 (addI IntKind.i64 x5 x4) 1))))) (cvI IntKind.u64 (x9 (Int.toNat (subI IntKind.i64 x4 1))))) (remI IntKind.u64 (orI IntKind.u64 (shlI IntKind.u64 (cvI IntKind.u64 (x11 (Int.toNat (addI IntKind.i64 x5 x4)))) 32) (cvI IntKind.u64 (x11 (Int.toNat (subI IntKind.i64 (addI IntKind.i64 x5 x4) 1))))) (cvI IntKind.u64 (x9 (Int.toNat (subI IntKind.i64 x4 1))))) x6 x7 x8 x9 x10 x11))))))) (k0 x0 x1 x3 x6 x7 x10 x11)
def nat_parts.l20 (k0 : Nat → Int → Nat → Nat → (Nat → Int) → Nat → (Nat → Int) → Prop) : Nat → Nat → Int → Nat → Nat → Int → Int → Nat → (Nat → Int) → Nat → (Nat → Int) → Nat → (Nat → Int) → Prop
  | 0 => fun _ _ _ _ _ _ _ _ _ _ _ _ => False
  | n + 1 => nat_parts.l20.step (nat_parts.l20 k0 n) k0
def nat_parts.l20.entry : LoopEntry := ⟨LV.mk 1296 [(4, 1296)] 48 0 true, 0, 285, fun vs H K => match vs, H with
  | [EV.slice 0 0 x0 none 1, EV.int IntKind.i64 x1, EV.slice 1 0 x2 none 1, EV.slice 2 0 x3 none 1, EV.int IntKind.i64 x4, EV.int IntKind.i64 x5], [some (EV.arr IntKind.u32 x6 x7), some (EV.arr IntKind.u32 x8 x9), some (EV.arr IntKind.u32 x10 x11)] => ∃ n, nat_parts.l20 (fun y0 y1 y2 y3 y4 y5 y6 => K (.exit 4) [EV.slice 0 0 y0 none 1, EV.int IntKind.i64 y1, EV.slice 1 0 y2 none 1] [some (EV.arr IntKind.u32 y3 y4), some (EV.arr IntKind.u32 y5 y6)]) n x0 x1 x2 x3 x4 x5 x6 x7 x8 x9 x10 x11
  | _, _ => False⟩
def nat_parts.d (a0n : Nat) (a0 : Nat → Int) (a1n : Nat) (a1 : Nat → Int) (K : Nat → (Nat → Int) → Nat → (Nat → Int) → Prop) : Prop :=
  nat_cmp a0n a0 a1n a1 fun y0 => br (ltI y0 0) (K 0 (fun x => 0) a0n a0) (gd (leI 0 ↑a0n && (leI ↑a0n ↑a0n && leI (↑a0n) 1099511627776)) (br (eqI (↑a1n) 1) (∃ n, nat_parts.l7 (fun y0 y1 y2 y3 => nat_cut_n y0 y2 y3 fun y0 y1_1 y2 => nat_cut_o 1 1 1 (upd (fun x => 0) 0 (cvI IntKind.u32 y1)) fun y0_1 y1 y2_1 y3 => K y0 y2 y0_1 y3) n a0n a0 a1n a1 (Int.toNat ↑a0n) 0 (subI IntKind.i64 (↑a0n) 1) (Int.toNat ↑a0n) fun x => 0) (gd (leI 0 (subI IntKind.i64 (↑a1n) 1) && ltI (subI IntKind.i64 (↑a1n) 1) ↑a1n) (word_Len (cvI IntKind.u64 (a1 (Int.toNat (subI IntKind.i64 (↑a1n) 1)))) fun y0 => nat_up a1n a1 (subI IntKind.i64 32 y0) False fun y0_1 y1 y2 y3 => nat_up a0n a0 (subI IntKind.i64 32 y0) False fun y0_2 y1 y2_1 y3_1 => gd (leN (y0_2 + 1) 1099511627776) (∃ n, nat_parts.l16 (fun y0 y1 y2 y3 y4 y5 y6 y7 y8 y9 => ∃ n, nat_parts.l20 (fun y0 y1 y2 y3 y4 y5 y6 => nat_cut_n y0 y3 y4 fun y0 y1_1 y2_2 => nat_cut_n y2 y5 y6 fun y0_3 y1_2 y2 => nat_down y0_3 y2 y1 fun y0_4 y1 => K y0 y2_2 y0_4 y1) n y0 y1 y2 y3 (↑y2) (subI IntKind.i64 (subI IntKind.i64 ↑y3 ↑y2) 1) y4 y5 y6 y7 y8 y9) n a0n a0 (Int.toNat ↑a0n) (subI IntKind.i64 32 y0) y0_1 (y0_2 + 1) (Int.toNat ↑a0n) (fun x => 0) y2 y3 (y0_2 + 1) (app y0_2 y3_1 (upd (fun x => 0) 0 0)))))))
noncomputable def nat_parts : Nat → (Nat → Int) → Nat → (Nat → Int) → (Nat → (Nat → Int) → Nat → (Nat → Int) → Prop) → Prop := Classical.choose (⟨nat_parts.d, rfl⟩ : ∃ f, f = nat_parts.d)
theorem nat_parts.is : nat_parts = nat_parts.d := Classical.choose_spec (⟨nat_parts.d, rfl⟩ : ∃ f, f = nat_parts.d)
def nat_Div.d (a0 : List UInt8) (a1 : List UInt8) (K : List UInt8 → List UInt8 → Int → Prop) : Prop :=
  nat_right a0 a1 fun y0 => br (!y0) (K [] [] 2) (br (eqS a1 []) (K [] [] 2) (nat_words a0 fun y0 y1 => nat_words a1 fun y0_1 y1_1 => nat_parts y0 y1 y0_1 y1_1 fun y0 y1 y2 y3 => nat_number y0 y1 fun y0 => nat_number y2 y3 fun y0_2 => K y0 y0_2 0))
noncomputable def nat_Div : List UInt8 → List UInt8 → (List UInt8 → List UInt8 → Int → Prop) → Prop := Classical.choose (⟨nat_Div.d, rfl⟩ : ∃ f, f = nat_Div.d)
theorem nat_Div.is : nat_Div = nat_Div.d := Classical.choose_spec (⟨nat_Div.d, rfl⟩ : ∃ f, f = nat_Div.d)
def nat_Gcd.l4.step (again : Nat → (Nat → Int) → Nat → (Nat → Int) → Prop) (k0 : Nat → (Nat → Int) → Prop) (x0 : Nat) (x1 : Nat → Int) (x2 : Nat) (x3 : Nat → Int) : Prop :=
  br (ltI 0 ↑x2) (nat_parts x0 x1 x2 x3 fun y0 y1 y2 y3 => again x2 x3 y2 y3) (k0 x0 x1)
def nat_Gcd.l4 (k0 : Nat → (Nat → Int) → Prop) : Nat → Nat → (Nat → Int) → Nat → (Nat → Int) → Prop
  | 0 => fun _ _ _ _ => False
  | n + 1 => nat_Gcd.l4.step (nat_Gcd.l4 k0 n) k0
def nat_Gcd.l4.entry : LoopEntry := ⟨LV.mk 64 [(0, 64)] 48 0 false, 0, 31, fun vs H K => match vs, H with
  | [EV.rsI IntKind.u32 x0 x1, EV.rsI IntKind.u32 x2 x3], [] => ∃ n, nat_Gcd.l4 (fun y0 y1 => K (.exit 0) [EV.rsI IntKind.u32 y0 y1] []) n x0 x1 x2 x3
  | _, _ => False⟩
def nat_Gcd.d (a0 : List UInt8) (a1 : List UInt8) (K : List UInt8 → Int → Prop) : Prop :=
  nat_right a0 a1 fun y0 => br (!y0) (K [] 2) (nat_words a0 fun y0 y1 => nat_words a1 fun y0_1 y1_1 => ∃ n, nat_Gcd.l4 (fun y0 y1 => nat_number y0 y1 fun y0 => K y0 0) n y0 y1 y0_1 y1_1)
noncomputable def nat_Gcd : List UInt8 → List UInt8 → (List UInt8 → Int → Prop) → Prop := Classical.choose (⟨nat_Gcd.d, rfl⟩ : ∃ f, f = nat_Gcd.d)
theorem nat_Gcd.is : nat_Gcd = nat_Gcd.d := Classical.choose_spec (⟨nat_Gcd.d, rfl⟩ : ∃ f, f = nat_Gcd.d)
def nat_Len.d (a0 : List UInt8) (K : Int → Prop) : Prop :=
  nat_Check a0 fun y0 => br (!eqI y0 0) (K 0) (br (eqS a0 []) (K 0) (gd (ltI 0 ↑(List.length a0)) (word_Len (cvI IntKind.u64 (byteAt a0 0)) fun y0 => K (addI IntKind.i64 (mulI IntKind.i64 8 (subI IntKind.i64 (↑(List.length a0)) 1)) y0))))
noncomputable def nat_Len : List UInt8 → (Int → Prop) → Prop := Classical.choose (⟨nat_Len.d, rfl⟩ : ∃ f, f = nat_Len.d)
theorem nat_Len.is : nat_Len = nat_Len.d := Classical.choose_spec (⟨nat_Len.d, rfl⟩ : ∃ f, f = nat_Len.d)
def nat_Left.d (a0 : List UInt8) (a1 : Int) (K : List UInt8 → Int → Prop) : Prop :=
  nat_Check a0 fun y0 => br (!eqI y0 0) (K [] 2) (br (ltI a1 0) (K [] 2) (br (eqS a0 []) (K [] 0) (nat_Len a0 fun y0 => br (ltI (subI IntKind.i64 131072 y0) a1) (K [] 4) (nat_words a0 fun y0 y1 => nat_up y0 y1 a1 (nat_told 0 (fun x => 0) fun y0 y1 => K y0 y1) fun y0 y1 y2 y3 => nat_told y0 y3 fun y0 y1 => K y0 y1))))
noncomputable def nat_Left : List UInt8 → Int → (List UInt8 → Int → Prop) → Prop := Classical.choose (⟨nat_Left.d, rfl⟩ : ∃ f, f = nat_Left.d)
theorem nat_Left.is : nat_Left = nat_Left.d := Classical.choose_spec (⟨nat_Left.d, rfl⟩ : ∃ f, f = nat_Left.d)
def nat_Low.l4.step (again : List UInt8 → Int → Prop) (k0 : Int → Prop) (k1 : Prop) (x0 : List UInt8) (x1 : Int) : Prop :=
  br (leI 0 x1) (gd (leI 0 x1 && ltI x1 ↑(List.length x0)) (br (!eqI (byteAt x0 (Int.toNat x1)) 0) (gd (leI 0 x1 && ltI x1 ↑(List.length x0)) (word_Low (cvI IntKind.u64 (byteAt x0 (Int.toNat x1))) fun y0 => k0 (addI IntKind.i64 (mulI IntKind.i64 8 (subI IntKind.i64 (subI IntKind.i64 (↑(List.length x0)) 1) x1)) y0))) (again x0 (subI IntKind.i64 x1 1)))) k1
def nat_Low.l4 (k0 : Int → Prop) (k1 : Prop) : Nat → List UInt8 → Int → Prop
  | 0 => fun _ _ => False
  | n + 1 => nat_Low.l4.step (nat_Low.l4 k0 k1 n) k0 k1
def nat_Low.l4.entry : LoopEntry := ⟨LV.mk 0 [(0, 0)] 4 0 false, 0, 30, fun vs H K => match vs, H with
  | [EV.str x0, EV.int IntKind.i64 x1], [] => ∃ n, nat_Low.l4 (fun y0 => K .ret [EV.int IntKind.i64 y0] []) (K (.exit 0) [] []) n x0 x1
  | _, _ => False⟩
def nat_Low.d (a0 : List UInt8) (K : Int → Prop) : Prop :=
  nat_Check a0 fun y0 => br (!eqI y0 0) (K 0) (∃ n, nat_Low.l4 (fun y0 => K y0) (K 0) n a0 (subI IntKind.i64 (↑(List.length a0)) 1))
noncomputable def nat_Low : List UInt8 → (Int → Prop) → Prop := Classical.choose (⟨nat_Low.d, rfl⟩ : ∃ f, f = nat_Low.d)
theorem nat_Low.is : nat_Low = nat_Low.d := Classical.choose_spec (⟨nat_Low.d, rfl⟩ : ∃ f, f = nat_Low.d)
def nat_times.l7.step (again : Nat → (Nat → Int) → Nat → Nat → Int → Int → Int → Nat → (Nat → Int) → Int → Int → Nat → (Nat → Int) → Int → Int → Nat → (Nat → Int) → Prop) (k0 : Nat → (Nat → Int) → Nat → Nat → Int → Int → Nat → (Nat → Int) → Int → Int → Nat → (Nat → Int) → Prop) (x0 : Nat) (x1 : Nat → Int) (x2 : Nat) (x3 : Nat) (x4 : Int) (x5 : Int) (x6 : Int) (x7 : Nat) (x8 : Nat → Int) (x9 : Int) (x10 : Int) (x11 : Nat) (x12 : Nat → Int) (x13 : Int) (x14 : Int) (x15 : Nat) (x16 : Nat → Int) : Prop :=
  br (ltI x14 x13) (gd (leI 0 x14 && ltI x14 ↑x11) (gd (leI 0 (addI IntKind.i64 x4 x14) && ltI (addI IntKind.i64 x4 x14) ↑x2) (gd (leI 0 (addI IntKind.i64 x4 x14) && ltI (addI IntKind.i64 x4 x14) ↑x2) (again x0 x1 x2 x3 x4 x5 (shrI IntKind.u64 (addI IntKind.u64 x6 (addI IntKind.u64 (mulI IntKind.u64 (cvI IntKind.u64 x5) (cvI IntKind.u64 (x12 (Int.toNat x14)))) (cvI IntKind.u64 (x16 (Int.toNat (addI IntKind.i64 x4 x14)))))) 32) x7 x8 x9 x10 x11 x12 x13 (addI IntKind.i64 x14 1) x15 (upd x16 (Int.toNat (addI IntKind.i64 x4 x14)) (cvI IntKind.u32 (addI IntKind.u64 x6 (addI IntKind.u64 (mulI IntKind.u64 (cvI IntKind.u64 x5) (cvI IntKind.u64 (x12 (Int.toNat x14)))) (cvI IntKind.u64 (x16 (Int.toNat (addI IntKind.i64 x4 x14)))))))))))) (k0 x0 x1 x2 x3 x4 x6 x7 x8 x9 x10 x15 x16)
def nat_times.l7 (k0 : Nat → (Nat → Int) → Nat → Nat → Int → Int → Nat → (Nat → Int) → Int → Int → Nat → (Nat → Int) → Prop) : Nat → Nat → (Nat → Int) → Nat → Nat → Int → Int → Int → Nat → (Nat → Int) → Int → Int → Nat → (Nat → Int) → Int → Int → Nat → (Nat → Int) → Prop
  | 0 => fun _ _ _ _ _ _ _ _ _ _ _ _ _ _ _ _ _ => False
  | n + 1 => nat_times.l7.step (nat_times.l7 k0 n) k0
def nat_times.l7.entry : LoopEntry := ⟨LV.mk 917858 [(2, 917858), (1, 917538), (0, 32)] 16 0 false, 0, 67, fun vs H K => match vs, H with
  | [EV.rsI IntKind.u32 x0 x1, EV.slice 0 0 x2 (some x3) 1, EV.int IntKind.i64 x4, EV.int IntKind.u32 x5, EV.int IntKind.u64 x6, EV.rsI IntKind.u32 x7 x8, EV.int IntKind.i64 x9, EV.int IntKind.i64 x10, EV.rsI IntKind.u32 x11 x12, EV.int IntKind.i64 x13, EV.int IntKind.i64 x14], [some (EV.arr IntKind.u32 x15 x16)] => ∃ n, nat_times.l7 (fun y0 y1 y2 y3 y4 y5 y6 y7 y8 y9 y10 y11 => K (.exit 2) [EV.rsI IntKind.u32 y0 y1, EV.slice 0 0 y2 (some y3) 1, EV.int IntKind.i64 y4, EV.int IntKind.u64 y5, EV.rsI IntKind.u32 y6 y7, EV.int IntKind.i64 y8, EV.int IntKind.i64 y9] [some (EV.arr IntKind.u32 y10 y11)]) n x0 x1 x2 x3 x4 x5 x6 x7 x8 x9 x10 x11 x12 x13 x14 x15 x16
  | _, _ => False⟩
def nat_times.l3.step (again : Nat → (Nat → Int) → Nat → Nat → Nat → (Nat → Int) → Int → Int → Nat → (Nat → Int) → Prop) (k0 : Nat → Nat → Nat → (Nat → Int) → Prop) (x0 : Nat) (x1 : Nat → Int) (x2 : Nat) (x3 : Nat) (x4 : Nat) (x5 : Nat → Int) (x6 : Int) (x7 : Int) (x8 : Nat) (x9 : Nat → Int) : Prop :=
  br (ltI x7 x6) (gd (leI 0 x7 && ltI x7 ↑x4) (∃ n, nat_times.l7 (fun y0 y1 y2 y3 y4 y5 y6 y7 y8 y9 y10 y11 => gd (leI 0 (addI IntKind.i64 y4 ↑y0) && ltI (addI IntKind.i64 y4 ↑y0) ↑y2) (again y0 y1 y2 y3 y6 y7 y8 (addI IntKind.i64 y9 1) y10 (upd y11 (Int.toNat (addI IntKind.i64 y4 ↑y0)) (cvI IntKind.u32 y5)))) n x0 x1 x2 x3 x7 (x5 (Int.toNat x7)) 0 x4 x5 x6 x7 x0 x1 (↑x0) 0 x8 x9)) (k0 x2 x3 x8 x9)
def nat_times.l3 (k0 : Nat → Nat → Nat → (Nat → Int) → Prop) : Nat → Nat → (Nat → Int) → Nat → Nat → Nat → (Nat → Int) → Int → Int → Nat → (Nat → Int) → Prop
  | 0 => fun _ _ _ _ _ _ _ _ _ _ => False
  | n + 1 => nat_times.l3.step (nat_times.l3 k0 n) k0
def nat_times.l3.entry : LoopEntry := ⟨LV.mk 32 [(0, 32)] 16 0 false, 0, 67, fun vs H K => match vs, H with
  | [EV.rsI IntKind.u32 x0 x1, EV.slice 0 0 x2 (some x3) 1, EV.rsI IntKind.u32 x4 x5, EV.int IntKind.i64 x6, EV.int IntKind.i64 x7], [some (EV.arr IntKind.u32 x8 x9)] => ∃ n, nat_times.l3 (fun y0 y1 y2 y3 => K (.exit 0) [EV.slice 0 0 y0 (some y1) 1] [some (EV.arr IntKind.u32 y2 y3)]) n x0 x1 x2 x3 x4 x5 x6 x7 x8 x9
  | _, _ => False⟩
def nat_times.d (a0n : Nat) (a0 : Nat → Int) (a1n : Nat) (a1 : Nat → Int) (K : Nat → (Nat → Int) → Prop) : Prop :=
  gd (leI 0 (addI IntKind.i64 ↑a0n ↑a1n) && (leI (addI IntKind.i64 ↑a0n ↑a1n) (addI IntKind.i64 ↑a0n ↑a1n) && leI (addI IntKind.i64 ↑a0n ↑a1n) 1099511627776)) (∃ n, nat_times.l3 (fun y0 y1 y2 y3 => nat_cut_o y0 y1 y2 y3 fun y0 y1 y2 y3 => K y0 y3) n a1n a1 (Int.toNat (addI IntKind.i64 ↑a0n ↑a1n)) (Int.toNat (addI IntKind.i64 ↑a0n ↑a1n)) a0n a0 (↑a0n) 0 (Int.toNat (addI IntKind.i64 ↑a0n ↑a1n)) fun x => 0)
noncomputable def nat_times : Nat → (Nat → Int) → Nat → (Nat → Int) → (Nat → (Nat → Int) → Prop) → Prop := Classical.choose (⟨nat_times.d, rfl⟩ : ∃ f, f = nat_times.d)
theorem nat_times.is : nat_times = nat_times.d := Classical.choose_spec (⟨nat_times.d, rfl⟩ : ∃ f, f = nat_times.d)
def nat_Mul.d (a0 : List UInt8) (a1 : List UInt8) (K : List UInt8 → Int → Prop) : Prop :=
  nat_right a0 a1 fun y0 => br (!y0) (K [] 2) (br (eqS a0 []) (K [] 0) (br (eqS a1 []) (K [] 0) (br (ltI 16385 (addI IntKind.i64 ↑(List.length a0) ↑(List.length a1))) (K [] 4) (nat_words a0 fun y0 y1 => nat_words a1 fun y0_1 y1_1 => nat_times y0 y1 y0_1 y1_1 fun y0 y1 => nat_told y0 y1 fun y0 y1 => K y0 y1))))
noncomputable def nat_Mul : List UInt8 → List UInt8 → (List UInt8 → Int → Prop) → Prop := Classical.choose (⟨nat_Mul.d, rfl⟩ : ∃ f, f = nat_Mul.d)
theorem nat_Mul.is : nat_Mul = nat_Mul.d := Classical.choose_spec (⟨nat_Mul.d, rfl⟩ : ∃ f, f = nat_Mul.d)
def nat_OfWide.d (a0 : Nat → Int) (K : List UInt8 → Prop) : Prop :=
  nat_number 12 (app 10 (app 8 (app 6 (app 4 (app 2 (upd (upd (fun x => 0) 0 (cvI IntKind.u32 (a0 0))) 1 (cvI IntKind.u32 (shrI IntKind.u64 (a0 0) 32))) (upd (upd (fun x => 0) 0 (cvI IntKind.u32 (a0 1))) 1 (cvI IntKind.u32 (shrI IntKind.u64 (a0 1) 32)))) (upd (upd (fun x => 0) 0 (cvI IntKind.u32 (a0 2))) 1 (cvI IntKind.u32 (shrI IntKind.u64 (a0 2) 32)))) (upd (upd (fun x => 0) 0 (cvI IntKind.u32 (a0 3))) 1 (cvI IntKind.u32 (shrI IntKind.u64 (a0 3) 32)))) (upd (upd (fun x => 0) 0 (cvI IntKind.u32 (a0 4))) 1 (cvI IntKind.u32 (shrI IntKind.u64 (a0 4) 32)))) (upd (upd (fun x => 0) 0 (cvI IntKind.u32 (a0 5))) 1 (cvI IntKind.u32 (shrI IntKind.u64 (a0 5) 32)))) fun y0 => K y0
noncomputable def nat_OfWide : (Nat → Int) → (List UInt8 → Prop) → Prop := Classical.choose (⟨nat_OfWide.d, rfl⟩ : ∃ f, f = nat_OfWide.d)
theorem nat_OfWide.is : nat_OfWide = nat_OfWide.d := Classical.choose_spec (⟨nat_OfWide.d, rfl⟩ : ∃ f, f = nat_OfWide.d)
def nat_Right.d (a0 : List UInt8) (a1 : Int) (K : List UInt8 → Bool → Int → Prop) : Prop :=
  nat_Check a0 fun y0 => br (!eqI y0 0) (K [] false 2) (br (ltI a1 0) (K [] false 2) (br (eqS a0 []) (K [] false 0) (nat_words a0 fun y0 y1 => nat_down y0 y1 a1 fun y0 y1 => nat_number y0 y1 fun y0 => nat_Low a0 fun y0_1 => K y0 (ltI y0_1 a1) 0)))
noncomputable def nat_Right : List UInt8 → Int → (List UInt8 → Bool → Int → Prop) → Prop := Classical.choose (⟨nat_Right.d, rfl⟩ : ∃ f, f = nat_Right.d)
theorem nat_Right.is : nat_Right = nat_Right.d := Classical.choose_spec (⟨nat_Right.d, rfl⟩ : ∃ f, f = nat_Right.d)
def nat_less.l4.step (again : Nat → (Nat → Int) → Nat → (Nat → Int) → Nat → Nat → Int → Int → Int → Nat → (Nat → Int) → Prop) (k0 : Nat → Nat → Nat → (Nat → Int) → Prop) (x0 : Nat) (x1 : Nat → Int) (x2 : Nat) (x3 : Nat → Int) (x4 : Nat) (x5 : Nat) (x6 : Int) (x7 : Int) (x8 : Int) (x9 : Nat) (x10 : Nat → Int) : Prop :=
  br (ltI x8 x7) (gd (leI 0 x8 && ltI x8 ↑x0) (br (ltI x8 ↑x2) (gd (leI 0 x8 && ltI x8 ↑x2) (gd (leI 0 x8 && ltI x8 ↑x4) (again x0 x1 x2 x3 x4 x5 (shrI IntKind.i64 (subI IntKind.i64 (addI IntKind.i64 x6 (cvI IntKind.i64 (x1 (Int.toNat x8)))) (cvI IntKind.i64 (x3 (Int.toNat x8)))) 32) x7 (addI IntKind.i64 x8 1) x9 (upd x10 (Int.toNat x8) (cvI IntKind.u32 (subI IntKind.i64 (addI IntKind.i64 x6 (cvI IntKind.i64 (x1 (Int.toNat x8)))) (cvI IntKind.i64 (x3 (Int.toNat x8))))))))) (gd (leI 0 x8 && ltI x8 ↑x4) (again x0 x1 x2 x3 x4 x5 (shrI IntKind.i64 (addI IntKind.i64 x6 (cvI IntKind.i64 (x1 (Int.toNat x8)))) 32) x7 (addI IntKind.i64 x8 1) x9 (upd x10 (Int.toNat x8) (cvI IntKind.u32 (addI IntKind.i64 x6 (cvI IntKind.i64 (x1 (Int.toNat x8)))))))))) (k0 x4 x5 x9 x10)
def nat_less.l4 (k0 : Nat → Nat → Nat → (Nat → Int) → Prop) : Nat → Nat → (Nat → Int) → Nat → (Nat → Int) → Nat → Nat → Int → Int → Int → Nat → (Nat → Int) → Prop
  | 0 => fun _ _ _ _ _ _ _ _ _ _ _ => False
  | n + 1 => nat_less.l4.step (nat_less.l4 k0 n) k0
def nat_less.l4.entry : LoopEntry := ⟨LV.mk 32 [(0, 32)] 16 0 false, 0, 44, fun vs H K => match vs, H with
  | [EV.rsI IntKind.u32 x0 x1, EV.rsI IntKind.u32 x2 x3, EV.slice 0 0 x4 (some x5) 1, EV.int IntKind.i64 x6, EV.int IntKind.i64 x7, EV.int IntKind.i64 x8], [some (EV.arr IntKind.u32 x9 x10)] => ∃ n, nat_less.l4 (fun y0 y1 y2 y3 => K (.exit 0) [EV.slice 0 0 y0 (some y1) 1] [some (EV.arr IntKind.u32 y2 y3)]) n x0 x1 x2 x3 x4 x5 x6 x7 x8 x9 x10
  | _, _ => False⟩
def nat_less.d (a0n : Nat) (a0 : Nat → Int) (a1n : Nat) (a1 : Nat → Int) (K : Nat → (Nat → Int) → Prop) : Prop :=
  gd (leI 0 ↑a0n && (leI ↑a0n ↑a0n && leI (↑a0n) 1099511627776)) (∃ n, nat_less.l4 (fun y0 y1 y2 y3 => nat_cut_o y0 y1 y2 y3 fun y0 y1 y2 y3 => K y0 y3) n a0n a0 a1n a1 (Int.toNat ↑a0n) (Int.toNat ↑a0n) 0 (↑a0n) 0 (Int.toNat ↑a0n) fun x => 0)
noncomputable def nat_less : Nat → (Nat → Int) → Nat → (Nat → Int) → (Nat → (Nat → Int) → Prop) → Prop := Classical.choose (⟨nat_less.d, rfl⟩ : ∃ f, f = nat_less.d)
theorem nat_less.is : nat_less = nat_less.d := Classical.choose_spec (⟨nat_less.d, rfl⟩ : ∃ f, f = nat_less.d)
def nat_Sub.d (a0 : List UInt8) (a1 : List UInt8) (K : List UInt8 → Int → Prop) : Prop :=
  nat_Cmp a0 a1 fun y0 y1 => br (!eqI y1 0) (K [] 2) (br (ltI y0 0) (K [] 2) (nat_words a0 fun y0 y1 => nat_words a1 fun y0_1 y1_1 => nat_less y0 y1 y0_1 y1_1 fun y0 y1 => nat_told y0 y1 fun y0 y1 => K y0 y1))
noncomputable def nat_Sub : List UInt8 → List UInt8 → (List UInt8 → Int → Prop) → Prop := Classical.choose (⟨nat_Sub.d, rfl⟩ : ∃ f, f = nat_Sub.d)
theorem nat_Sub.is : nat_Sub = nat_Sub.d := Classical.choose_spec (⟨nat_Sub.d, rfl⟩ : ∃ f, f = nat_Sub.d)
def nat_ToWide.l4.step (again : List UInt8 → Nat → (Nat → Int) → Int → Int → (Nat → Int) → Prop) (k0 : List UInt8 → (Nat → Int) → Prop) (x0 : List UInt8) (x1 : Nat) (x2 : Nat → Int) (x3 : Int) (x4 : Int) (x5 : Nat → Int) : Prop :=
  br (ltI x4 x3) (gd (leI 0 x4 && ltI x4 ↑x1) (gd (leI 0 (quoI IntKind.i64 x4 2) && ltI (quoI IntKind.i64 x4 2) 6) (gd (!ltI (cvI IntKind.u64 (mulI IntKind.i64 32 (remI IntKind.i64 x4 2))) 0) (gd (leI 0 (quoI IntKind.i64 x4 2) && ltI (quoI IntKind.i64 x4 2) 6) (again x0 x1 x2 x3 (addI IntKind.i64 x4 1) (upd x5 (Int.toNat (quoI IntKind.i64 x4 2)) (orI IntKind.u64 (x5 (Int.toNat (quoI IntKind.i64 x4 2))) (shlI IntKind.u64 (cvI IntKind.u64 (x2 (Int.toNat x4))) (cvI IntKind.u64 (mulI IntKind.i64 32 (remI IntKind.i64 x4 2))))))))))) (k0 x0 x5)
def nat_ToWide.l4 (k0 : List UInt8 → (Nat → Int) → Prop) : Nat → List UInt8 → Nat → (Nat → Int) → Int → Int → (Nat → Int) → Prop
  | 0 => fun _ _ _ _ _ _ => False
  | n + 1 => nat_ToWide.l4.step (nat_ToWide.l4 k0 n) k0
def nat_ToWide.l4.entry : LoopEntry := ⟨LV.mk 5 [(0, 5)] 12 0 false, 0, 43, fun vs H K => match vs, H with
  | [EV.str x0, EV.ptr 0 [], EV.rsI IntKind.u32 x1 x2, EV.int IntKind.i64 x3, EV.int IntKind.i64 x4], [some (EV.arr IntKind.u64 6 x5)] => ∃ n, nat_ToWide.l4 (fun y0 y1 => K (.exit 0) [EV.str y0, EV.ptr 0 []] [some (EV.arr IntKind.u64 6 y1)]) n x0 x1 x2 x3 x4 x5
  | _, _ => False⟩
def nat_ToWide.d (a0 : List UInt8) (K : (Nat → Int) → Bool → Prop) : Prop :=
  nat_Check a0 fun y0 => br (!eqI y0 0) (K (fun x => 0) false) (br (ltI 48 ↑(List.length a0)) (K (fun x => 0) false) (nat_words a0 fun y0 y1 => ∃ n, nat_ToWide.l4 (fun y0 y1 => wide_Len y1 fun y0_1 => nat_Len y0 fun y0 => K y1 (eqI y0_1 y0)) n a0 y0 y1 (↑y0) 0 fun x => 0))
noncomputable def nat_ToWide : List UInt8 → ((Nat → Int) → Bool → Prop) → Prop := Classical.choose (⟨nat_ToWide.d, rfl⟩ : ∃ f, f = nat_ToWide.d)
theorem nat_ToWide.is : nat_ToWide = nat_ToWide.d := Classical.choose_spec (⟨nat_ToWide.d, rfl⟩ : ∃ f, f = nat_ToWide.d)
end Go.Ev.S

/- The functions as the evaluator has them: what each comes to. -/
set_option maxRecDepth 100000
set_option linter.unusedVariables false
set_option linter.unusedSimpArgs false
namespace Go.Ev.S
open Go Go.Ev
end Go.Ev.S

/- The functions as the evaluator has them: what each comes to. -/
set_option maxRecDepth 100000
set_option linter.unusedVariables false
set_option linter.unusedSimpArgs false
namespace Go.Ev.S
open Go Go.Ev
end Go.Ev.S

/- The functions as the evaluator has them: what each comes to. -/
set_option maxRecDepth 100000
set_option linter.unusedVariables false
set_option linter.unusedSimpArgs false
namespace Go.Ev.S
open Go Go.Ev
end Go.Ev.S

/- The functions as the evaluator has them: what each comes to. -/
set_option maxRecDepth 100000
set_option linter.unusedVariables false
set_option linter.unusedSimpArgs false
namespace Go.Ev.S
open Go Go.Ev
def exact_null.d (K : Bool → List UInt8 → List UInt8 → Int → Prop) : Prop :=
  K false [] [1] 0
noncomputable def exact_null : (Bool → List UInt8 → List UInt8 → Int → Prop) → Prop := Classical.choose (⟨exact_null.d, rfl⟩ : ∃ f, f = exact_null.d)
theorem exact_null.is : exact_null = exact_null.d := Classical.choose_spec (⟨exact_null.d, rfl⟩ : ∃ f, f = exact_null.d)
def exact_odd.d (a0 : List UInt8) (K : Bool → Prop) : Prop :=
  br (!eqS a0 []) (gd (leI 0 (subI IntKind.i64 (↑(List.length a0)) 1) && ltI (subI IntKind.i64 (↑(List.length a0)) 1) ↑(List.length a0)) (K (eqI (andI IntKind.u8 (byteAt a0 (Int.toNat (subI IntKind.i64 (↑(List.length a0)) 1))) 1) 1))) (K false)
noncomputable def exact_odd : List UInt8 → (Bool → Prop) → Prop := Classical.choose (⟨exact_odd.d, rfl⟩ : ∃ f, f = exact_odd.d)
theorem exact_odd.is : exact_odd = exact_odd.d := Classical.choose_spec (⟨exact_odd.d, rfl⟩ : ∃ f, f = exact_odd.d)
def exact_within.d (a0 : Int) (K : Bool → Prop) : Prop :=
  br (leI (-1048576) a0) (K (leI a0 1048576)) (K false)
noncomputable def exact_within : Int → (Bool → Prop) → Prop := Classical.choose (⟨exact_within.d, rfl⟩ : ∃ f, f = exact_within.d)
theorem exact_within.is : exact_within = exact_within.d := Classical.choose_spec (⟨exact_within.d, rfl⟩ : ∃ f, f = exact_within.d)
def exact_Check.d (a0_0 : Bool) (a0_1 : List UInt8) (a0_2 : List UInt8) (a0_3 : Int) (K : Int → Prop) : Prop :=
  nat_Check a0_1 fun y0 => br (!eqI y0 0) (K 2) (nat_Check a0_2 fun y0 => br (!eqI y0 0) (K 2) (exact_odd a0_2 fun y0 => br (!y0) (K 2) (exact_within a0_3 fun y0 => br (!y0) (K 2) (br (eqS a0_1 []) (exact_null fun y0 y1 y2 y3 => br (!(beqB a0_0 y0 && (eqS a0_1 y1 && (eqS a0_2 y2 && eqI a0_3 y3)))) (K 2) (K 0)) (nat_Gcd a0_1 a0_2 fun y0 y1 => exact_odd a0_1 fun y0_1 => br (!y0_1) (K 2) (br (!eqS y0 [1]) (K 2) (K 0)))))))
noncomputable def exact_Check : Bool → List UInt8 → List UInt8 → Int → (Int → Prop) → Prop := Classical.choose (⟨exact_Check.d, rfl⟩ : ∃ f, f = exact_Check.d)
theorem exact_Check.is : exact_Check = exact_Check.d := Classical.choose_spec (⟨exact_Check.d, rfl⟩ : ∃ f, f = exact_Check.d)
def exact_Make.d (a0 : Bool) (a1 : List UInt8) (a2 : List UInt8) (a3 : Int) (K : Bool → List UInt8 → List UInt8 → Int → Int → Prop) : Prop :=
  nat_Check a1 fun y0 => br (!eqI y0 0) (K false [] [] 0 2) (nat_Check a2 fun y0 => br (!eqI y0 0) (K false [] [] 0 2) (br (eqS a2 []) (K false [] [] 0 2) (exact_within a3 fun y0 => br (!y0) (K false [] [] 0 2) (br (eqS a1 []) (exact_null fun y0 y1 y2 y3 => K y0 y1 y2 y3 0) (nat_Low a1 fun y0 => nat_Low a2 fun y0_1 => nat_Right a1 y0 fun y0_2 y1 y2 => nat_Right a2 y0_1 fun y0_3 y1 y2 => nat_Gcd y0_2 y0_3 fun y0_4 y1 => br (!eqS y0_4 [1]) (nat_Div y0_2 y0_4 fun y0_5 y1 y2 => nat_Div y0_3 y0_4 fun y0_6 y1 y2 => exact_within (addI IntKind.i64 a3 (subI IntKind.i64 y0 y0_1)) fun y0_7 => br (!y0_7) (K false [] [] 0 4) (K a0 y0_5 y0_6 (addI IntKind.i64 a3 (subI IntKind.i64 y0 y0_1)) 0)) (exact_within (addI IntKind.i64 a3 (subI IntKind.i64 y0 y0_1)) fun y0_5 => br (!y0_5) (K false [] [] 0 4) (K a0 y0_2 y0_3 (addI IntKind.i64 a3 (subI IntKind.i64 y0 y0_1)) 0)))))))
noncomputable def exact_Make : Bool → List UInt8 → List UInt8 → Int → (Bool → List UInt8 → List UInt8 → Int → Int → Prop) → Prop := Classical.choose (⟨exact_Make.d, rfl⟩ : ∃ f, f = exact_Make.d)
theorem exact_Make.is : exact_Make = exact_Make.d := Classical.choose_spec (⟨exact_Make.d, rfl⟩ : ∃ f, f = exact_Make.d)
def exact_firm_nat.d (a0_0 : Int) (a1 : List UInt8) (a2 : Int) (K : List UInt8 → Int → Prop) : Prop :=
  br (eqI a0_0 0) (K a1 a2) (K a1 a0_0)
noncomputable def exact_firm_nat : Int → List UInt8 → Int → (List UInt8 → Int → Prop) → Prop := Classical.choose (⟨exact_firm_nat.d, rfl⟩ : ∃ f, f = exact_firm_nat.d)
theorem exact_firm_nat.is : exact_firm_nat = exact_firm_nat.d := Classical.choose_spec (⟨exact_firm_nat.d, rfl⟩ : ∃ f, f = exact_firm_nat.d)
def exact_level.d (a0_0 : Bool) (a0_1 : List UInt8) (a0_2 : List UInt8) (a0_3 : Int) (a1_0 : Bool) (a1_1 : List UInt8) (a1_2 : List UInt8) (a1_3 : Int) (K : List UInt8 → List UInt8 → Int → Int → Prop) : Prop :=
  nat_Mul a0_1 a1_2 fun y0 y1 => exact_firm_nat 0 y0 y1 fun y0 y1 => nat_Mul a1_1 a0_2 fun y0_1 y1_1 => exact_firm_nat y1 y0_1 y1_1 fun y0_2 y1 => nat_Left y0 (subI IntKind.i64 a0_3 (minI a0_3 a1_3)) fun y0 y1_2 => exact_firm_nat y1 y0 y1_2 fun y0 y1 => nat_Left y0_2 (subI IntKind.i64 a1_3 (minI a0_3 a1_3)) fun y0_3 y1_3 => exact_firm_nat y1 y0_3 y1_3 fun y0_4 y1 => K y0 y0_4 (minI a0_3 a1_3) y1
noncomputable def exact_level : Bool → List UInt8 → List UInt8 → Int → Bool → List UInt8 → List UInt8 → Int → (List UInt8 → List UInt8 → Int → Int → Prop) → Prop := Classical.choose (⟨exact_level.d, rfl⟩ : ∃ f, f = exact_level.d)
theorem exact_level.is : exact_level = exact_level.d := Classical.choose_spec (⟨exact_level.d, rfl⟩ : ∃ f, f = exact_level.d)
def exact_right.d (a0_0 : Bool) (a0_1 : List UInt8) (a0_2 : List UInt8) (a0_3 : Int) (a1_0 : Bool) (a1_1 : List UInt8) (a1_2 : List UInt8) (a1_3 : Int) (K : Bool → Prop) : Prop :=
  exact_Check a0_0 a0_1 a0_2 a0_3 fun y0 => br (eqI y0 0) (exact_Check a1_0 a1_1 a1_2 a1_3 fun y0 => K (eqI y0 0)) (K false)
noncomputable def exact_right : Bool → List UInt8 → List UInt8 → Int → Bool → List UInt8 → List UInt8 → Int → (Bool → Prop) → Prop := Classical.choose (⟨exact_right.d, rfl⟩ : ∃ f, f = exact_right.d)
theorem exact_right.is : exact_right = exact_right.d := Classical.choose_spec (⟨exact_right.d, rfl⟩ : ∃ f, f = exact_right.d)
def exact_Add.d (a0_0 : Bool) (a0_1 : List UInt8) (a0_2 : List UInt8) (a0_3 : Int) (a1_0 : Bool) (a1_1 : List UInt8) (a1_2 : List UInt8) (a1_3 : Int) (K : Bool → List UInt8 → List UInt8 → Int → Int → Prop) : Prop :=
  exact_right a0_0 a0_1 a0_2 a0_3 a1_0 a1_1 a1_2 a1_3 fun y0 => br (!y0) (K false [] [] 0 2) (br (eqS a0_1 []) (K a1_0 a1_1 a1_2 a1_3 0) (br (eqS a1_1 []) (K a0_0 a0_1 a0_2 a0_3 0) (exact_level a0_0 a0_1 a0_2 a0_3 a1_0 a1_1 a1_2 a1_3 fun y0 y1 y2 y3 => br (!eqI y3 0) (K false [] [] 0 y3) (nat_Mul a0_2 a1_2 fun y0_1 y1_1 => exact_firm_nat 0 y0_1 y1_1 fun y0_2 y1_2 => br (beqB a0_0 a1_0) (nat_Add y0 y1 fun y0 y1 => exact_firm_nat y1_2 y0 y1 fun y0 y1 => br (!eqI y1 0) (K false [] [] 0 y1) (exact_Make a0_0 y0 y0_2 y2 fun y0 y1 y2 y3 y4 => K y0 y1 y2 y3 y4)) (nat_Cmp y0 y1 fun y0_3 y1_3 => br (leI 0 y0_3) (nat_Sub y0 y1 fun y0 y1 => exact_firm_nat y1_2 y0 y1 fun y0 y1 => br (!eqI y1 0) (K false [] [] 0 y1) (exact_Make a0_0 y0 y0_2 y2 fun y0 y1 y2 y3 y4 => K y0 y1 y2 y3 y4)) (nat_Sub y1 y0 fun y0 y1 => exact_firm_nat y1_2 y0 y1 fun y0 y1 => br (!eqI y1 0) (K false [] [] 0 y1) (exact_Make a1_0 y0 y0_2 y2 fun y0 y1 y2 y3 y4 => K y0 y1 y2 y3 y4)))))))
noncomputable def exact_Add : Bool → List UInt8 → List UInt8 → Int → Bool → List UInt8 → List UInt8 → Int → (Bool → List UInt8 → List UInt8 → Int → Int → Prop) → Prop := Classical.choose (⟨exact_Add.d, rfl⟩ : ∃ f, f = exact_Add.d)
theorem exact_Add.is : exact_Add = exact_Add.d := Classical.choose_spec (⟨exact_Add.d, rfl⟩ : ∃ f, f = exact_Add.d)
def exact_Sign.d (a0_0 : Bool) (a0_1 : List UInt8) (a0_2 : List UInt8) (a0_3 : Int) (K : Int → Prop) : Prop :=
  exact_Check a0_0 a0_1 a0_2 a0_3 fun y0 => br (!eqI y0 0) (K 0) (br (eqS a0_1 []) (K 0) (br a0_0 (K (-1)) (K 1)))
noncomputable def exact_Sign : Bool → List UInt8 → List UInt8 → Int → (Int → Prop) → Prop := Classical.choose (⟨exact_Sign.d, rfl⟩ : ∃ f, f = exact_Sign.d)
theorem exact_Sign.is : exact_Sign = exact_Sign.d := Classical.choose_spec (⟨exact_Sign.d, rfl⟩ : ∃ f, f = exact_Sign.d)
def exact_Cmp.d (a0_0 : Bool) (a0_1 : List UInt8) (a0_2 : List UInt8) (a0_3 : Int) (a1_0 : Bool) (a1_1 : List UInt8) (a1_2 : List UInt8) (a1_3 : Int) (K : Int → Int → Prop) : Prop :=
  exact_right a0_0 a0_1 a0_2 a0_3 a1_0 a1_1 a1_2 a1_3 fun y0 => br (!y0) (K 0 2) (exact_Sign a0_0 a0_1 a0_2 a0_3 fun y0 => exact_Sign a1_0 a1_1 a1_2 a1_3 fun y0_1 => br (ltI y0 y0_1) (K (-1) 0) (br (ltI y0_1 y0) (K 1 0) (br (eqI y0 0) (K 0 0) (exact_level a0_0 a0_1 a0_2 a0_3 a1_0 a1_1 a1_2 a1_3 fun y0_2 y1 y2 y3 => br (!eqI y3 0) (K 0 y3) (nat_Cmp y0_2 y1 fun y0_3 y1 => K (mulI IntKind.i64 y0 y0_3) 0)))))
noncomputable def exact_Cmp : Bool → List UInt8 → List UInt8 → Int → Bool → List UInt8 → List UInt8 → Int → (Int → Int → Prop) → Prop := Classical.choose (⟨exact_Cmp.d, rfl⟩ : ∃ f, f = exact_Cmp.d)
theorem exact_Cmp.is : exact_Cmp = exact_Cmp.d := Classical.choose_spec (⟨exact_Cmp.d, rfl⟩ : ∃ f, f = exact_Cmp.d)
def exact_top.d (a0_0 : Bool) (a0_1 : List UInt8) (a0_2 : List UInt8) (a0_3 : Int) (K : Int → Prop) : Prop :=
  nat_Len a0_1 fun y0 => nat_Len a0_2 fun y0_1 => br (leI 0 (subI IntKind.i64 y0 y0_1)) (nat_Left a0_2 (subI IntKind.i64 y0 y0_1) fun y0_2 y1 => nat_Cmp a0_1 y0_2 fun y0_3 y1 => br (ltI y0_3 0) (K (addI IntKind.i64 (subI IntKind.i64 (subI IntKind.i64 y0 y0_1) 1) a0_3)) (K (addI IntKind.i64 (subI IntKind.i64 y0 y0_1) a0_3))) (nat_Left a0_1 (negI IntKind.i64 (subI IntKind.i64 y0 y0_1)) fun y0_2 y1 => nat_Cmp y0_2 a0_2 fun y0_3 y1 => br (ltI y0_3 0) (K (addI IntKind.i64 (subI IntKind.i64 (subI IntKind.i64 y0 y0_1) 1) a0_3)) (K (addI IntKind.i64 (subI IntKind.i64 y0 y0_1) a0_3)))
noncomputable def exact_top : Bool → List UInt8 → List UInt8 → Int → (Int → Prop) → Prop := Classical.choose (⟨exact_top.d, rfl⟩ : ∃ f, f = exact_top.d)
theorem exact_top.is : exact_top = exact_top.d := Classical.choose_spec (⟨exact_top.d, rfl⟩ : ∃ f, f = exact_top.d)
def exact_Floor.d (a0_0 : Bool) (a0_1 : List UInt8) (a0_2 : List UInt8) (a0_3 : Int) (a1 : Int) (K : List UInt8 → Bool → Int → Prop) : Prop :=
  exact_Check a0_0 a0_1 a0_2 a0_3 fun y0 => br (!eqI y0 0) (K [] false 2) (br (ltI a1 (-2097152)) (K [] false 2) (br (ltI 2097152 a1) (K [] false 2) (br (eqS a0_1 []) (K [] true 0) (br (leI a1 a0_3) (nat_Left a0_1 (subI IntKind.i64 a0_3 a1) fun y0 y1 => br (!eqI y1 0) (K [] false y1) (nat_Div y0 a0_2 fun y0 y1 y2 => K y0 (eqS y1 []) 0)) (exact_top a0_0 a0_1 a0_2 a0_3 fun y0 => br (ltI y0 a1) (K [] false 0) (nat_Left a0_2 (subI IntKind.i64 a1 a0_3) fun y0 y1 => nat_Div a0_1 y0 fun y0 y1 y2 => K y0 (eqS y1 []) 0))))))
noncomputable def exact_Floor : Bool → List UInt8 → List UInt8 → Int → Int → (List UInt8 → Bool → Int → Prop) → Prop := Classical.choose (⟨exact_Floor.d, rfl⟩ : ∃ f, f = exact_Floor.d)
theorem exact_Floor.is : exact_Floor = exact_Floor.d := Classical.choose_spec (⟨exact_Floor.d, rfl⟩ : ∃ f, f = exact_Floor.d)
def exact_Scale.d (a0_0 : Bool) (a0_1 : List UInt8) (a0_2 : List UInt8) (a0_3 : Int) (a1 : Int) (K : Bool → List UInt8 → List UInt8 → Int → Int → Prop) : Prop :=
  exact_Check a0_0 a0_1 a0_2 a0_3 fun y0 => br (!eqI y0 0) (K false [] [] 0 2) (br (eqS a0_1 []) (K a0_0 a0_1 a0_2 a0_3 0) (br (ltI 2097152 a1) (K false [] [] 0 4) (br (ltI a1 (-2097152)) (K false [] [] 0 4) (exact_within (addI IntKind.i64 a0_3 a1) fun y0 => br (!y0) (K false [] [] 0 4) (K a0_0 a0_1 a0_2 (addI IntKind.i64 a0_3 a1) 0)))))
noncomputable def exact_Scale : Bool → List UInt8 → List UInt8 → Int → Int → (Bool → List UInt8 → List UInt8 → Int → Int → Prop) → Prop := Classical.choose (⟨exact_Scale.d, rfl⟩ : ∃ f, f = exact_Scale.d)
theorem exact_Scale.is : exact_Scale = exact_Scale.d := Classical.choose_spec (⟨exact_Scale.d, rfl⟩ : ∃ f, f = exact_Scale.d)
def exact_Top.d (a0_0 : Bool) (a0_1 : List UInt8) (a0_2 : List UInt8) (a0_3 : Int) (K : Int → Int → Prop) : Prop :=
  exact_Check a0_0 a0_1 a0_2 a0_3 fun y0 => br (!eqI y0 0) (K 0 2) (br (eqS a0_1 []) (K 0 2) (exact_top a0_0 a0_1 a0_2 a0_3 fun y0 => K y0 0))
noncomputable def exact_Top : Bool → List UInt8 → List UInt8 → Int → (Int → Int → Prop) → Prop := Classical.choose (⟨exact_Top.d, rfl⟩ : ∃ f, f = exact_Top.d)
theorem exact_Top.is : exact_Top = exact_Top.d := Classical.choose_spec (⟨exact_Top.d, rfl⟩ : ∃ f, f = exact_Top.d)
end Go.Ev.S

/- The functions as the evaluator has them: what each comes to. -/
set_option maxRecDepth 100000
set_option linter.unusedVariables false
set_option linter.unusedSimpArgs false
namespace Go.Ev.S
open Go Go.Ev
def shape_Check.d (a0 : Int) (K : Int → Prop) : Prop :=
  br (ltI 3 a0) (K 2) (K 0)
noncomputable def shape_Check : Int → (Int → Prop) → Prop := Classical.choose (⟨shape_Check.d, rfl⟩ : ∃ f, f = shape_Check.d)
theorem shape_Check.is : shape_Check = shape_Check.d := Classical.choose_spec (⟨shape_Check.d, rfl⟩ : ∃ f, f = shape_Check.d)
def shape_numbers.d (a0 : Int) (K : Int → Int → Int → List UInt8 → Prop) : Prop :=
  br (leI 4 (cvI IntKind.i64 a0)) (K 0 0 0 []) (br (eqI a0 0) (br (eqI a0 0) (br (eqI a0 0) (br (eqI a0 0) (K 32 24 127 [115]) (br (eqI a0 1) (K 32 24 127 [100]) (br (eqI a0 2) (K 32 24 127 [104]) (br (eqI a0 3) (K 32 24 127 [113]) False)))) (br (eqI a0 1) (br (eqI a0 0) (K 32 24 1023 [115]) (br (eqI a0 1) (K 32 24 1023 [100]) (br (eqI a0 2) (K 32 24 1023 [104]) (br (eqI a0 3) (K 32 24 1023 [113]) False)))) (br (eqI a0 2) (br (eqI a0 0) (K 32 24 15 [115]) (br (eqI a0 1) (K 32 24 15 [100]) (br (eqI a0 2) (K 32 24 15 [104]) (br (eqI a0 3) (K 32 24 15 [113]) False)))) (br (eqI a0 3) (br (eqI a0 0) (K 32 24 16383 [115]) (br (eqI a0 1) (K 32 24 16383 [100]) (br (eqI a0 2) (K 32 24 16383 [104]) (br (eqI a0 3) (K 32 24 16383 [113]) False)))) False)))) (br (eqI a0 1) (br (eqI a0 0) (br (eqI a0 0) (K 32 53 127 [115]) (br (eqI a0 1) (K 32 53 127 [100]) (br (eqI a0 2) (K 32 53 127 [104]) (br (eqI a0 3) (K 32 53 127 [113]) False)))) (br (eqI a0 1) (br (eqI a0 0) (K 32 53 1023 [115]) (br (eqI a0 1) (K 32 53 1023 [100]) (br (eqI a0 2) (K 32 53 1023 [104]) (br (eqI a0 3) (K 32 53 1023 [113]) False)))) (br (eqI a0 2) (br (eqI a0 0) (K 32 53 15 [115]) (br (eqI a0 1) (K 32 53 15 [100]) (br (eqI a0 2) (K 32 53 15 [104]) (br (eqI a0 3) (K 32 53 15 [113]) False)))) (br (eqI a0 3) (br (eqI a0 0) (K 32 53 16383 [115]) (br (eqI a0 1) (K 32 53 16383 [100]) (br (eqI a0 2) (K 32 53 16383 [104]) (br (eqI a0 3) (K 32 53 16383 [113]) False)))) False)))) (br (eqI a0 2) (br (eqI a0 0) (br (eqI a0 0) (K 32 11 127 [115]) (br (eqI a0 1) (K 32 11 127 [100]) (br (eqI a0 2) (K 32 11 127 [104]) (br (eqI a0 3) (K 32 11 127 [113]) False)))) (br (eqI a0 1) (br (eqI a0 0) (K 32 11 1023 [115]) (br (eqI a0 1) (K 32 11 1023 [100]) (br (eqI a0 2) (K 32 11 1023 [104]) (br (eqI a0 3) (K 32 11 1023 [113]) False)))) (br (eqI a0 2) (br (eqI a0 0) (K 32 11 15 [115]) (br (eqI a0 1) (K 32 11 15 [100]) (br (eqI a0 2) (K 32 11 15 [104]) (br (eqI a0 3) (K 32 11 15 [113]) False)))) (br (eqI a0 3) (br (eqI a0 0) (K 32 11 16383 [115]) (br (eqI a0 1) (K 32 11 16383 [100]) (br (eqI a0 2) (K 32 11 16383 [104]) (br (eqI a0 3) (K 32 11 16383 [113]) False)))) False)))) (br (eqI a0 3) (br (eqI a0 0) (br (eqI a0 0) (K 32 113 127 [115]) (br (eqI a0 1) (K 32 113 127 [100]) (br (eqI a0 2) (K 32 113 127 [104]) (br (eqI a0 3) (K 32 113 127 [113]) False)))) (br (eqI a0 1) (br (eqI a0 0) (K 32 113 1023 [115]) (br (eqI a0 1) (K 32 113 1023 [100]) (br (eqI a0 2) (K 32 113 1023 [104]) (br (eqI a0 3) (K 32 113 1023 [113]) False)))) (br (eqI a0 2) (br (eqI a0 0) (K 32 113 15 [115]) (br (eqI a0 1) (K 32 113 15 [100]) (br (eqI a0 2) (K 32 113 15 [104]) (br (eqI a0 3) (K 32 113 15 [113]) False)))) (br (eqI a0 3) (br (eqI a0 0) (K 32 113 16383 [115]) (br (eqI a0 1) (K 32 113 16383 [100]) (br (eqI a0 2) (K 32 113 16383 [104]) (br (eqI a0 3) (K 32 113 16383 [113]) False)))) False)))) False)))) (br (eqI a0 1) (br (eqI a0 0) (br (eqI a0 0) (br (eqI a0 0) (K 64 24 127 [115]) (br (eqI a0 1) (K 64 24 127 [100]) (br (eqI a0 2) (K 64 24 127 [104]) (br (eqI a0 3) (K 64 24 127 [113]) False)))) (br (eqI a0 1) (br (eqI a0 0) (K 64 24 1023 [115]) (br (eqI a0 1) (K 64 24 1023 [100]) (br (eqI a0 2) (K 64 24 1023 [104]) (br (eqI a0 3) (K 64 24 1023 [113]) False)))) (br (eqI a0 2) (br (eqI a0 0) (K 64 24 15 [115]) (br (eqI a0 1) (K 64 24 15 [100]) (br (eqI a0 2) (K 64 24 15 [104]) (br (eqI a0 3) (K 64 24 15 [113]) False)))) (br (eqI a0 3) (br (eqI a0 0) (K 64 24 16383 [115]) (br (eqI a0 1) (K 64 24 16383 [100]) (br (eqI a0 2) (K 64 24 16383 [104]) (br (eqI a0 3) (K 64 24 16383 [113]) False)))) False)))) (br (eqI a0 1) (br (eqI a0 0) (br (eqI a0 0) (K 64 53 127 [115]) (br (eqI a0 1) (K 64 53 127 [100]) (br (eqI a0 2) (K 64 53 127 [104]) (br (eqI a0 3) (K 64 53 127 [113]) False)))) (br (eqI a0 1) (br (eqI a0 0) (K 64 53 1023 [115]) (br (eqI a0 1) (K 64 53 1023 [100]) (br (eqI a0 2) (K 64 53 1023 [104]) (br (eqI a0 3) (K 64 53 1023 [113]) False)))) (br (eqI a0 2) (br (eqI a0 0) (K 64 53 15 [115]) (br (eqI a0 1) (K 64 53 15 [100]) (br (eqI a0 2) (K 64 53 15 [104]) (br (eqI a0 3) (K 64 53 15 [113]) False)))) (br (eqI a0 3) (br (eqI a0 0) (K 64 53 16383 [115]) (br (eqI a0 1) (K 64 53 16383 [100]) (br (eqI a0 2) (K 64 53 16383 [104]) (br (eqI a0 3) (K 64 53 16383 [113]) False)))) False)))) (br (eqI a0 2) (br (eqI a0 0) (br (eqI a0 0) (K 64 11 127 [115]) (br (eqI a0 1) (K 64 11 127 [100]) (br (eqI a0 2) (K 64 11 127 [104]) (br (eqI a0 3) (K 64 11 127 [113]) False)))) (br (eqI a0 1) (br (eqI a0 0) (K 64 11 1023 [115]) (br (eqI a0 1) (K 64 11 1023 [100]) (br (eqI a0 2) (K 64 11 1023 [104]) (br (eqI a0 3) (K 64 11 1023 [113]) False)))) (br (eqI a0 2) (br (eqI a0 0) (K 64 11 15 [115]) (br (eqI a0 1) (K 64 11 15 [100]) (br (eqI a0 2) (K 64 11 15 [104]) (br (eqI a0 3) (K 64 11 15 [113]) False)))) (br (eqI a0 3) (br (eqI a0 0) (K 64 11 16383 [115]) (br (eqI a0 1) (K 64 11 16383 [100]) (br (eqI a0 2) (K 64 11 16383 [104]) (br (eqI a0 3) (K 64 11 16383 [113]) False)))) False)))) (br (eqI a0 3) (br (eqI a0 0) (br (eqI a0 0) (K 64 113 127 [115]) (br (eqI a0 1) (K 64 113 127 [100]) (br (eqI a0 2) (K 64 113 127 [104]) (br (eqI a0 3) (K 64 113 127 [113]) False)))) (br (eqI a0 1) (br (eqI a0 0) (K 64 113 1023 [115]) (br (eqI a0 1) (K 64 113 1023 [100]) (br (eqI a0 2) (K 64 113 1023 [104]) (br (eqI a0 3) (K 64 113 1023 [113]) False)))) (br (eqI a0 2) (br (eqI a0 0) (K 64 113 15 [115]) (br (eqI a0 1) (K 64 113 15 [100]) (br (eqI a0 2) (K 64 113 15 [104]) (br (eqI a0 3) (K 64 113 15 [113]) False)))) (br (eqI a0 3) (br (eqI a0 0) (K 64 113 16383 [115]) (br (eqI a0 1) (K 64 113 16383 [100]) (br (eqI a0 2) (K 64 113 16383 [104]) (br (eqI a0 3) (K 64 113 16383 [113]) False)))) False)))) False)))) (br (eqI a0 2) (br (eqI a0 0) (br (eqI a0 0) (br (eqI a0 0) (K 16 24 127 [115]) (br (eqI a0 1) (K 16 24 127 [100]) (br (eqI a0 2) (K 16 24 127 [104]) (br (eqI a0 3) (K 16 24 127 [113]) False)))) (br (eqI a0 1) (br (eqI a0 0) (K 16 24 1023 [115]) (br (eqI a0 1) (K 16 24 1023 [100]) (br (eqI a0 2) (K 16 24 1023 [104]) (br (eqI a0 3) (K 16 24 1023 [113]) False)))) (br (eqI a0 2) (br (eqI a0 0) (K 16 24 15 [115]) (br (eqI a0 1) (K 16 24 15 [100]) (br (eqI a0 2) (K 16 24 15 [104]) (br (eqI a0 3) (K 16 24 15 [113]) False)))) (br (eqI a0 3) (br (eqI a0 0) (K 16 24 16383 [115]) (br (eqI a0 1) (K 16 24 16383 [100]) (br (eqI a0 2) (K 16 24 16383 [104]) (br (eqI a0 3) (K 16 24 16383 [113]) False)))) False)))) (br (eqI a0 1) (br (eqI a0 0) (br (eqI a0 0) (K 16 53 127 [115]) (br (eqI a0 1) (K 16 53 127 [100]) (br (eqI a0 2) (K 16 53 127 [104]) (br (eqI a0 3) (K 16 53 127 [113]) False)))) (br (eqI a0 1) (br (eqI a0 0) (K 16 53 1023 [115]) (br (eqI a0 1) (K 16 53 1023 [100]) (br (eqI a0 2) (K 16 53 1023 [104]) (br (eqI a0 3) (K 16 53 1023 [113]) False)))) (br (eqI a0 2) (br (eqI a0 0) (K 16 53 15 [115]) (br (eqI a0 1) (K 16 53 15 [100]) (br (eqI a0 2) (K 16 53 15 [104]) (br (eqI a0 3) (K 16 53 15 [113]) False)))) (br (eqI a0 3) (br (eqI a0 0) (K 16 53 16383 [115]) (br (eqI a0 1) (K 16 53 16383 [100]) (br (eqI a0 2) (K 16 53 16383 [104]) (br (eqI a0 3) (K 16 53 16383 [113]) False)))) False)))) (br (eqI a0 2) (br (eqI a0 0) (br (eqI a0 0) (K 16 11 127 [115]) (br (eqI a0 1) (K 16 11 127 [100]) (br (eqI a0 2) (K 16 11 127 [104]) (br (eqI a0 3) (K 16 11 127 [113]) False)))) (br (eqI a0 1) (br (eqI a0 0) (K 16 11 1023 [115]) (br (eqI a0 1) (K 16 11 1023 [100]) (br (eqI a0 2) (K 16 11 1023 [104]) (br (eqI a0 3) (K 16 11 1023 [113]) False)))) (br (eqI a0 2) (br (eqI a0 0) (K 16 11 15 [115]) (br (eqI a0 1) (K 16 11 15 [100]) (br (eqI a0 2) (K 16 11 15 [104]) (br (eqI a0 3) (K 16 11 15 [113]) False)))) (br (eqI a0 3) (br (eqI a0 0) (K 16 11 16383 [115]) (br (eqI a0 1) (K 16 11 16383 [100]) (br (eqI a0 2) (K 16 11 16383 [104]) (br (eqI a0 3) (K 16 11 16383 [113]) False)))) False)))) (br (eqI a0 3) (br (eqI a0 0) (br (eqI a0 0) (K 16 113 127 [115]) (br (eqI a0 1) (K 16 113 127 [100]) (br (eqI a0 2) (K 16 113 127 [104]) (br (eqI a0 3) (K 16 113 127 [113]) False)))) (br (eqI a0 1) (br (eqI a0 0) (K 16 113 1023 [115]) (br (eqI a0 1) (K 16 113 1023 [100]) (br (eqI a0 2) (K 16 113 1023 [104]) (br (eqI a0 3) (K 16 113 1023 [113]) False)))) (br (eqI a0 2) (br (eqI a0 0) (K 16 113 15 [115]) (br (eqI a0 1) (K 16 113 15 [100]) (br (eqI a0 2) (K 16 113 15 [104]) (br (eqI a0 3) (K 16 113 15 [113]) False)))) (br (eqI a0 3) (br (eqI a0 0) (K 16 113 16383 [115]) (br (eqI a0 1) (K 16 113 16383 [100]) (br (eqI a0 2) (K 16 113 16383 [104]) (br (eqI a0 3) (K 16 113 16383 [113]) False)))) False)))) False)))) (br (eqI a0 3) (br (eqI a0 0) (br (eqI a0 0) (br (eqI a0 0) (K 128 24 127 [115]) (br (eqI a0 1) (K 128 24 127 [100]) (br (eqI a0 2) (K 128 24 127 [104]) (br (eqI a0 3) (K 128 24 127 [113]) False)))) (br (eqI a0 1) (br (eqI a0 0) (K 128 24 1023 [115]) (br (eqI a0 1) (K 128 24 1023 [100]) (br (eqI a0 2) (K 128 24 1023 [104]) (br (eqI a0 3) (K 128 24 1023 [113]) False)))) (br (eqI a0 2) (br (eqI a0 0) (K 128 24 15 [115]) (br (eqI a0 1) (K 128 24 15 [100]) (br (eqI a0 2) (K 128 24 15 [104]) (br (eqI a0 3) (K 128 24 15 [113]) False)))) (br (eqI a0 3) (br (eqI a0 0) (K 128 24 16383 [115]) (br (eqI a0 1) (K 128 24 16383 [100]) (br (eqI a0 2) (K 128 24 16383 [104]) (br (eqI a0 3) (K 128 24 16383 [113]) False)))) False)))) (br (eqI a0 1) (br (eqI a0 0) (br (eqI a0 0) (K 128 53 127 [115]) (br (eqI a0 1) (K 128 53 127 [100]) (br (eqI a0 2) (K 128 53 127 [104]) (br (eqI a0 3) (K 128 53 127 [113]) False)))) (br (eqI a0 1) (br (eqI a0 0) (K 128 53 1023 [115]) (br (eqI a0 1) (K 128 53 1023 [100]) (br (eqI a0 2) (K 128 53 1023 [104]) (br (eqI a0 3) (K 128 53 1023 [113]) False)))) (br (eqI a0 2) (br (eqI a0 0) (K 128 53 15 [115]) (br (eqI a0 1) (K 128 53 15 [100]) (br (eqI a0 2) (K 128 53 15 [104]) (br (eqI a0 3) (K 128 53 15 [113]) False)))) (br (eqI a0 3) (br (eqI a0 0) (K 128 53 16383 [115]) (br (eqI a0 1) (K 128 53 16383 [100]) (br (eqI a0 2) (K 128 53 16383 [104]) (br (eqI a0 3) (K 128 53 16383 [113]) False)))) False)))) (br (eqI a0 2) (br (eqI a0 0) (br (eqI a0 0) (K 128 11 127 [115]) (br (eqI a0 1) (K 128 11 127 [100]) (br (eqI a0 2) (K 128 11 127 [104]) (br (eqI a0 3) (K 128 11 127 [113]) False)))) (br (eqI a0 1) (br (eqI a0 0) (K 128 11 1023 [115]) (br (eqI a0 1) (K 128 11 1023 [100]) (br (eqI a0 2) (K 128 11 1023 [104]) (br (eqI a0 3) (K 128 11 1023 [113]) False)))) (br (eqI a0 2) (br (eqI a0 0) (K 128 11 15 [115]) (br (eqI a0 1) (K 128 11 15 [100]) (br (eqI a0 2) (K 128 11 15 [104]) (br (eqI a0 3) (K 128 11 15 [113]) False)))) (br (eqI a0 3) (br (eqI a0 0) (K 128 11 16383 [115]) (br (eqI a0 1) (K 128 11 16383 [100]) (br (eqI a0 2) (K 128 11 16383 [104]) (br (eqI a0 3) (K 128 11 16383 [113]) False)))) False)))) (br (eqI a0 3) (br (eqI a0 0) (br (eqI a0 0) (K 128 113 127 [115]) (br (eqI a0 1) (K 128 113 127 [100]) (br (eqI a0 2) (K 128 113 127 [104]) (br (eqI a0 3) (K 128 113 127 [113]) False)))) (br (eqI a0 1) (br (eqI a0 0) (K 128 113 1023 [115]) (br (eqI a0 1) (K 128 113 1023 [100]) (br (eqI a0 2) (K 128 113 1023 [104]) (br (eqI a0 3) (K 128 113 1023 [113]) False)))) (br (eqI a0 2) (br (eqI a0 0) (K 128 113 15 [115]) (br (eqI a0 1) (K 128 113 15 [100]) (br (eqI a0 2) (K 128 113 15 [104]) (br (eqI a0 3) (K 128 113 15 [113]) False)))) (br (eqI a0 3) (br (eqI a0 0) (K 128 113 16383 [115]) (br (eqI a0 1) (K 128 113 16383 [100]) (br (eqI a0 2) (K 128 113 16383 [104]) (br (eqI a0 3) (K 128 113 16383 [113]) False)))) False)))) False)))) False))))
noncomputable def shape_numbers : Int → (Int → Int → Int → List UInt8 → Prop) → Prop := Classical.choose (⟨shape_numbers.d, rfl⟩ : ∃ f, f = shape_numbers.d)
theorem shape_numbers.is : shape_numbers = shape_numbers.d := Classical.choose_spec (⟨shape_numbers.d, rfl⟩ : ∃ f, f = shape_numbers.d)
def shape_Emax.d (a0 : Int) (K : Int → Prop) : Prop :=
  shape_numbers a0 fun y0 y1 y2 y3 => K y2
noncomputable def shape_Emax : Int → (Int → Prop) → Prop := Classical.choose (⟨shape_Emax.d, rfl⟩ : ∃ f, f = shape_Emax.d)
theorem shape_Emax.is : shape_Emax = shape_Emax.d := Classical.choose_spec (⟨shape_Emax.d, rfl⟩ : ∃ f, f = shape_Emax.d)
def shape_Emin.d (a0 : Int) (K : Int → Prop) : Prop :=
  shape_Check a0 fun y0 => br (!eqI y0 0) (K 0) (shape_Emax a0 fun y0 => K (subI IntKind.i64 1 y0))
noncomputable def shape_Emin : Int → (Int → Prop) → Prop := Classical.choose (⟨shape_Emin.d, rfl⟩ : ∃ f, f = shape_Emin.d)
theorem shape_Emin.is : shape_Emin = shape_Emin.d := Classical.choose_spec (⟨shape_Emin.d, rfl⟩ : ∃ f, f = shape_Emin.d)
def shape_Width.d (a0 : Int) (K : Int → Prop) : Prop :=
  shape_numbers a0 fun y0 y1 y2 y3 => K y0
noncomputable def shape_Width : Int → (Int → Prop) → Prop := Classical.choose (⟨shape_Width.d, rfl⟩ : ∃ f, f = shape_Width.d)
theorem shape_Width.is : shape_Width = shape_Width.d := Classical.choose_spec (⟨shape_Width.d, rfl⟩ : ∃ f, f = shape_Width.d)
def shape_Fits.d (a0 : Int) (a1_0 : Int) (a1_1 : Int) (K : Bool → Prop) : Prop :=
  br (eqI a0 3) (K true) (br (eqI a0 1) (K (eqI a1_0 0)) (br (eqI a0 0) (br (eqI a0 0) (br (eqI a1_0 0) (shape_Width a0 fun y0 => gd (!ltI (cvI IntKind.u64 y0) 0) (K (eqI (shrI IntKind.u64 a1_1 (cvI IntKind.u64 y0)) 0))) (K false)) (K false)) (br (eqI a0 2) (br (eqI a1_0 0) (shape_Width a0 fun y0 => gd (!ltI (cvI IntKind.u64 y0) 0) (K (eqI (shrI IntKind.u64 a1_1 (cvI IntKind.u64 y0)) 0))) (K false)) (K false))))
noncomputable def shape_Fits : Int → Int → Int → (Bool → Prop) → Prop := Classical.choose (⟨shape_Fits.d, rfl⟩ : ∃ f, f = shape_Fits.d)
theorem shape_Fits.is : shape_Fits = shape_Fits.d := Classical.choose_spec (⟨shape_Fits.d, rfl⟩ : ∃ f, f = shape_Fits.d)
def shape_Precision.d (a0 : Int) (K : Int → Prop) : Prop :=
  shape_numbers a0 fun y0 y1 y2 y3 => K y1
noncomputable def shape_Precision : Int → (Int → Prop) → Prop := Classical.choose (⟨shape_Precision.d, rfl⟩ : ∃ f, f = shape_Precision.d)
theorem shape_Precision.is : shape_Precision = shape_Precision.d := Classical.choose_spec (⟨shape_Precision.d, rfl⟩ : ∃ f, f = shape_Precision.d)
def shape_at.d (a0 : Int) (a1 : Int) (K : Int → Int → Prop) : Prop :=
  br (leI 64 a1) (gd (!ltI (cvI IntKind.u64 (subI IntKind.i64 a1 64)) 0) (K (shlI IntKind.u64 a0 (cvI IntKind.u64 (subI IntKind.i64 a1 64))) 0)) (gd (!ltI (cvI IntKind.u64 a1) 0) (br (ltI 0 a1) (gd (!ltI (cvI IntKind.u64 (subI IntKind.i64 64 a1)) 0) (K (shrI IntKind.u64 a0 (cvI IntKind.u64 (subI IntKind.i64 64 a1))) (shlI IntKind.u64 a0 (cvI IntKind.u64 a1)))) (K 0 (shlI IntKind.u64 a0 (cvI IntKind.u64 a1)))))
noncomputable def shape_at : Int → Int → (Int → Int → Prop) → Prop := Classical.choose (⟨shape_at.d, rfl⟩ : ∃ f, f = shape_at.d)
theorem shape_at.is : shape_at = shape_at.d := Classical.choose_spec (⟨shape_at.d, rfl⟩ : ∃ f, f = shape_at.d)
def shape_field.d (a0 : Int) (a1 : Int) (K : Int → Int → Prop) : Prop :=
  shape_Precision a0 fun y0 => shape_at (cvI IntKind.u64 a1) (subI IntKind.i64 y0 1) fun y0 y1 => K y0 y1
noncomputable def shape_field : Int → Int → (Int → Int → Prop) → Prop := Classical.choose (⟨shape_field.d, rfl⟩ : ∃ f, f = shape_field.d)
theorem shape_field.is : shape_field = shape_field.d := Classical.choose_spec (⟨shape_field.d, rfl⟩ : ∃ f, f = shape_field.d)
def shape_with.d (a0 : Int) (a1_0 : Int) (a1_1 : Int) (a2 : Bool) (K : Int → Int → Prop) : Prop :=
  shape_Check a0 fun y0 => br (!eqI y0 0) (K 0 0) (br a2 (shape_Width a0 fun y0 => shape_at 1 (subI IntKind.i64 y0 1) fun y0 y1 => K (orI IntKind.u64 a1_0 y0) (orI IntKind.u64 a1_1 y1)) (K a1_0 a1_1))
noncomputable def shape_with : Int → Int → Int → Bool → (Int → Int → Prop) → Prop := Classical.choose (⟨shape_with.d, rfl⟩ : ∃ f, f = shape_with.d)
theorem shape_with.is : shape_with = shape_with.d := Classical.choose_spec (⟨shape_with.d, rfl⟩ : ∃ f, f = shape_with.d)
def shape_Inf.d (a0 : Int) (a1 : Bool) (K : Int → Int → Prop) : Prop :=
  shape_Check a0 fun y0 => br (!eqI y0 0) (K 0 0) (shape_Emax a0 fun y0 => shape_field a0 (addI IntKind.i64 (mulI IntKind.i64 2 y0) 1) fun y0 y1 => shape_with a0 y0 y1 a1 fun y0 y1 => K y0 y1)
noncomputable def shape_Inf : Int → Bool → (Int → Int → Prop) → Prop := Classical.choose (⟨shape_Inf.d, rfl⟩ : ∃ f, f = shape_Inf.d)
theorem shape_Inf.is : shape_Inf = shape_Inf.d := Classical.choose_spec (⟨shape_Inf.d, rfl⟩ : ∃ f, f = shape_Inf.d)
def shape_Least.d (a0 : Int) (a1 : Bool) (K : Int → Int → Prop) : Prop :=
  shape_with a0 0 1 a1 fun y0 y1 => K y0 y1
noncomputable def shape_Least : Int → Bool → (Int → Int → Prop) → Prop := Classical.choose (⟨shape_Least.d, rfl⟩ : ∃ f, f = shape_Least.d)
theorem shape_Least.is : shape_Least = shape_Least.d := Classical.choose_spec (⟨shape_Least.d, rfl⟩ : ∃ f, f = shape_Least.d)
def shape_Zero.d (a0 : Int) (a1 : Bool) (K : Int → Int → Prop) : Prop :=
  shape_with a0 0 0 a1 fun y0 y1 => K y0 y1
noncomputable def shape_Zero : Int → Bool → (Int → Int → Prop) → Prop := Classical.choose (⟨shape_Zero.d, rfl⟩ : ∃ f, f = shape_Zero.d)
theorem shape_Zero.is : shape_Zero = shape_Zero.d := Classical.choose_spec (⟨shape_Zero.d, rfl⟩ : ∃ f, f = shape_Zero.d)
end Go.Ev.S

/- The functions as the evaluator has them: what each comes to. -/
set_option maxRecDepth 100000
set_option linter.unusedVariables false
set_option linter.unusedSimpArgs false
namespace Go.Ev.S
open Go Go.Ev
def kind_fields.d (a0 : Int) (a1_0 : Int) (a1_1 : Int) (K : Bool → Int → (Nat → Int) → Prop) : Prop :=
  wide_OfBits a1_0 a1_1 fun y0 => shape_Precision a0 fun y0_1 => shape_Width a0 fun y0_2 => wide_Mask (subI IntKind.i64 y0_1 1) fun y0_3 => wide_And y0 y0_3 fun y0_4 => wide_Right y0 (subI IntKind.i64 y0_1 1) fun y0_5 y1 => wide_Bit y0 (subI IntKind.i64 y0_2 1) fun y0 => gd (!ltI (cvI IntKind.u64 (subI IntKind.i64 y0_2 y0_1)) 0) (K y0 (andI IntKind.i64 (cvI IntKind.i64 (y0_5 0)) (subI IntKind.i64 (shlI IntKind.i64 1 (cvI IntKind.u64 (subI IntKind.i64 y0_2 y0_1))) 1)) y0_4)
noncomputable def kind_fields : Int → Int → Int → (Bool → Int → (Nat → Int) → Prop) → Prop := Classical.choose (⟨kind_fields.d, rfl⟩ : ∃ f, f = kind_fields.d)
theorem kind_fields.is : kind_fields = kind_fields.d := Classical.choose_spec (⟨kind_fields.d, rfl⟩ : ∃ f, f = kind_fields.d)
def kind_class.d (a0 : Int) (a1_0 : Int) (a1_1 : Int) (K : Int → Prop) : Prop :=
  kind_fields a0 a1_0 a1_1 fun y0 y1 y2 => shape_Emax a0 fun y0_1 => br (eqI y1 (addI IntKind.i64 (mulI IntKind.i64 2 y0_1) 1)) (br (!eqN 6 y2 fun x => 0) (shape_Precision a0 fun y0 => wide_Bit y2 (subI IntKind.i64 y0 2) fun y0 => br y0 (K 9) (K 8)) (br (!eqI y1 0) (br (eqN 6 y2 fun x => 0) (shape_Emax a0 fun y0_2 => br (eqI y1 (addI IntKind.i64 (mulI IntKind.i64 2 y0_2) 1)) (br y0 (K 0) (K 7)) (br (!eqI y1 0) (br y0 (K 1) (K 6)) (br (!eqN 6 y2 fun x => 0) (br y0 (K 2) (K 5)) (br y0 (K 3) (K 4))))) (br (!eqI y1 0) (br y0 (K 1) (K 6)) (br (!eqN 6 y2 fun x => 0) (br y0 (K 2) (K 5)) (br y0 (K 3) (K 4))))) (br (!eqI y1 0) (br y0 (K 1) (K 6)) (br (!eqN 6 y2 fun x => 0) (br y0 (K 2) (K 5)) (br y0 (K 3) (K 4)))))) (br (!eqI y1 0) (br (eqN 6 y2 fun x => 0) (shape_Emax a0 fun y0_2 => br (eqI y1 (addI IntKind.i64 (mulI IntKind.i64 2 y0_2) 1)) (br y0 (K 0) (K 7)) (br (!eqI y1 0) (br y0 (K 1) (K 6)) (br (!eqN 6 y2 fun x => 0) (br y0 (K 2) (K 5)) (br y0 (K 3) (K 4))))) (br (!eqI y1 0) (br y0 (K 1) (K 6)) (br (!eqN 6 y2 fun x => 0) (br y0 (K 2) (K 5)) (br y0 (K 3) (K 4))))) (br (!eqI y1 0) (br y0 (K 1) (K 6)) (br (!eqN 6 y2 fun x => 0) (br y0 (K 2) (K 5)) (br y0 (K 3) (K 4)))))
noncomputable def kind_class : Int → Int → Int → (Int → Prop) → Prop := Classical.choose (⟨kind_class.d, rfl⟩ : ∃ f, f = kind_class.d)
theorem kind_class.is : kind_class = kind_class.d := Classical.choose_spec (⟨kind_class.d, rfl⟩ : ∃ f, f = kind_class.d)
def kind_Class.d (a0 : Int) (a1_0 : Int) (a1_1 : Int) (K : Int → Int → Prop) : Prop :=
  shape_Fits a0 a1_0 a1_1 fun y0 => br (!y0) (K 0 2) (kind_class a0 a1_0 a1_1 fun y0 => K y0 0)
noncomputable def kind_Class : Int → Int → Int → (Int → Int → Prop) → Prop := Classical.choose (⟨kind_Class.d, rfl⟩ : ∃ f, f = kind_Class.d)
theorem kind_Class.is : kind_Class = kind_Class.d := Classical.choose_spec (⟨kind_Class.d, rfl⟩ : ∃ f, f = kind_Class.d)
def kind_Next.d (a0 : Int) (a1_0 : Int) (a1_1 : Int) (K : Int → Int → Int → Prop) : Prop :=
  shape_Fits a0 a1_0 a1_1 fun y0 => br (!y0) (K 0 0 2) (kind_class a0 a1_0 a1_1 fun y0 => br (leI 7 y0) (K 0 0 80) (br (eqI y0 3) (shape_Least a0 false fun y0 y1 => K y0 y1 0) (br (ltI y0 4) (br (eqI a1_1 0) (K (subI IntKind.u64 a1_0 1) (subI IntKind.u64 a1_1 1) 0) (K a1_0 (subI IntKind.u64 a1_1 1) 0)) (br (eqI (addI IntKind.u64 a1_1 1) 0) (K (addI IntKind.u64 a1_0 1) (addI IntKind.u64 a1_1 1) 0) (K a1_0 (addI IntKind.u64 a1_1 1) 0)))))
noncomputable def kind_Next : Int → Int → Int → (Int → Int → Int → Prop) → Prop := Classical.choose (⟨kind_Next.d, rfl⟩ : ∃ f, f = kind_Next.d)
theorem kind_Next.is : kind_Next = kind_Next.d := Classical.choose_spec (⟨kind_Next.d, rfl⟩ : ∃ f, f = kind_Next.d)
def kind_build.d (a0 : Int) (a1 : Bool) (a2 : Int) (a3 : Nat → Int) (K : Int → Int → Prop) : Prop :=
  wide_Of (cvI IntKind.u64 a2) fun y0 => shape_Precision a0 fun y0_1 => wide_Left y0 (subI IntKind.i64 y0_1 1) fun y0 y1 => wide_Or y0 a3 fun y0 => br a1 (shape_Width a0 fun y0_2 => gd (leI 0 (quoI IntKind.i64 (subI IntKind.i64 y0_2 1) 64) && ltI (quoI IntKind.i64 (subI IntKind.i64 y0_2 1) 64) 6) (gd (!ltI (cvI IntKind.u64 (remI IntKind.i64 (subI IntKind.i64 y0_2 1) 64)) 0) (gd (leI 0 (quoI IntKind.i64 (subI IntKind.i64 y0_2 1) 64) && ltI (quoI IntKind.i64 (subI IntKind.i64 y0_2 1) 64) 6) (wide_ToBits (upd y0 (Int.toNat (quoI IntKind.i64 (subI IntKind.i64 y0_2 1) 64)) (orI IntKind.u64 (y0 (Int.toNat (quoI IntKind.i64 (subI IntKind.i64 y0_2 1) 64))) (shlI IntKind.u64 1 (cvI IntKind.u64 (remI IntKind.i64 (subI IntKind.i64 y0_2 1) 64))))) fun y0 y1 y2 => K y0 y1)))) (wide_ToBits y0 fun y0 y1 y2 => K y0 y1)
noncomputable def kind_build : Int → Bool → Int → (Nat → Int) → (Int → Int → Prop) → Prop := Classical.choose (⟨kind_build.d, rfl⟩ : ∃ f, f = kind_build.d)
theorem kind_build.is : kind_build = kind_build.d := Classical.choose_spec (⟨kind_build.d, rfl⟩ : ∃ f, f = kind_build.d)
def kind_Of.d (a0 : Int) (a1_0 : Bool) (a1_1 : List UInt8) (a1_2 : List UInt8) (a1_3 : Int) (K : Int → Int → Bool → Int → Prop) : Prop :=
  shape_Check a0 fun y0 => br (!eqI y0 0) (K 0 0 false 2) (exact_Check a1_0 a1_1 a1_2 a1_3 fun y0 => br (!eqI y0 0) (K 0 0 false 2) (br (eqS a1_1 []) (K 0 0 true 0) (shape_Precision a0 fun y0 => exact_Top a1_0 a1_1 a1_2 a1_3 fun y0_1 y1 => shape_Emin a0 fun y0_2 => br (!eqS a1_2 [1]) (K 0 0 false 0) (shape_Emax a0 fun y0_3 => br (ltI y0_3 y0_1) (K 0 0 false 0) (br (ltI a1_3 (addI IntKind.i64 (subI IntKind.i64 (maxI y0_1 y0_2) y0) 1)) (K 0 0 false 0) (exact_Floor a1_0 a1_1 a1_2 a1_3 (addI IntKind.i64 (subI IntKind.i64 (maxI y0_1 y0_2) y0) 1) fun y0_4 y1 y2 => nat_ToWide y0_4 fun y0_5 y1 => wide_Bit y0_5 (subI IntKind.i64 y0 1) fun y0_6 => br y0_6 (shape_Emin a0 fun y0_7 => wide_Mask (subI IntKind.i64 y0 1) fun y0_8 => wide_And y0_5 y0_8 fun y0_9 => kind_build a0 a1_0 (addI IntKind.i64 (subI IntKind.i64 (addI IntKind.i64 (subI IntKind.i64 (maxI y0_1 y0_2) y0) 1) y0_7) y0) y0_9 fun y0 y1 => K y0 y1 true 0) (wide_Mask (subI IntKind.i64 y0 1) fun y0 => wide_And y0_5 y0 fun y0 => kind_build a0 a1_0 0 y0 fun y0 y1 => K y0 y1 true 0)))))))
noncomputable def kind_Of : Int → Bool → List UInt8 → List UInt8 → Int → (Int → Int → Bool → Int → Prop) → Prop := Classical.choose (⟨kind_Of.d, rfl⟩ : ∃ f, f = kind_Of.d)
theorem kind_Of.is : kind_Of = kind_Of.d := Classical.choose_spec (⟨kind_Of.d, rfl⟩ : ∃ f, f = kind_Of.d)
def kind_Unpack.d (a0 : Int) (a1_0 : Int) (a1_1 : Int) (K : Int → (Nat → Int) → Int → (Nat → Int) → Int → Prop) : Prop :=
  shape_Fits a0 a1_0 a1_1 fun y0 => br (!y0) (K 0 (fun x => 0) 0 (fun x => 0) 2) (shape_Precision a0 fun y0 => kind_fields a0 a1_0 a1_1 fun y0_1 y1 y2 => kind_class a0 a1_0 a1_1 fun y0_2 => br (eqI y0_2 8) (br (eqI y0_2 8) (K y0_2 (fun x => 0) 0 y2 0) (br (eqI y0_2 1) (br (eqI y0_2 1) (gd (leI 0 (quoI IntKind.i64 (subI IntKind.i64 y0 1) 64) && ltI (quoI IntKind.i64 (subI IntKind.i64 y0 1) 64) 6) (gd (!ltI (cvI IntKind.u64 (remI IntKind.i64 (subI IntKind.i64 y0 1) 64)) 0) (gd (leI 0 (quoI IntKind.i64 (subI IntKind.i64 y0 1) 64) && ltI (quoI IntKind.i64 (subI IntKind.i64 y0 1) 64) 6) (shape_Emin a0 fun y0_3 => K y0_2 (upd y2 (Int.toNat (quoI IntKind.i64 (subI IntKind.i64 y0 1) 64)) (orI IntKind.u64 (y2 (Int.toNat (quoI IntKind.i64 (subI IntKind.i64 y0 1) 64))) (shlI IntKind.u64 1 (cvI IntKind.u64 (remI IntKind.i64 (subI IntKind.i64 y0 1) 64))))) (addI IntKind.i64 (subI IntKind.i64 (addI IntKind.i64 (subI IntKind.i64 y1 1) y0_3) y0) 1) (fun x => 0) 0)))) (br (eqI y0_2 2) (br (eqI y0_2 2) (shape_Emin a0 fun y0_3 => K y0_2 y2 (addI IntKind.i64 (subI IntKind.i64 (addI IntKind.i64 y1 y0_3) y0) 1) (fun x => 0) 0) (K y0_2 (fun x => 0) 0 (fun x => 0) 0)) (br (eqI y0_2 5) (shape_Emin a0 fun y0_3 => K y0_2 y2 (addI IntKind.i64 (subI IntKind.i64 (addI IntKind.i64 y1 y0_3) y0) 1) (fun x => 0) 0) (K y0_2 (fun x => 0) 0 (fun x => 0) 0)))) (br (eqI y0_2 6) (gd (leI 0 (quoI IntKind.i64 (subI IntKind.i64 y0 1) 64) && ltI (quoI IntKind.i64 (subI IntKind.i64 y0 1) 64) 6) (gd (!ltI (cvI IntKind.u64 (remI IntKind.i64 (subI IntKind.i64 y0 1) 64)) 0) (gd (leI 0 (quoI IntKind.i64 (subI IntKind.i64 y0 1) 64) && ltI (quoI IntKind.i64 (subI IntKind.i64 y0 1) 64) 6) (shape_Emin a0 fun y0_3 => K y0_2 (upd y2 (Int.toNat (quoI IntKind.i64 (subI IntKind.i64 y0 1) 64)) (orI IntKind.u64 (y2 (Int.toNat (quoI IntKind.i64 (subI IntKind.i64 y0 1) 64))) (shlI IntKind.u64 1 (cvI IntKind.u64 (remI IntKind.i64 (subI IntKind.i64 y0 1) 64))))) (addI IntKind.i64 (subI IntKind.i64 (addI IntKind.i64 (subI IntKind.i64 y1 1) y0_3) y0) 1) (fun x => 0) 0)))) (br (eqI y0_2 2) (br (eqI y0_2 2) (shape_Emin a0 fun y0_3 => K y0_2 y2 (addI IntKind.i64 (subI IntKind.i64 (addI IntKind.i64 y1 y0_3) y0) 1) (fun x => 0) 0) (K y0_2 (fun x => 0) 0 (fun x => 0) 0)) (br (eqI y0_2 5) (shape_Emin a0 fun y0_3 => K y0_2 y2 (addI IntKind.i64 (subI IntKind.i64 (addI IntKind.i64 y1 y0_3) y0) 1) (fun x => 0) 0) (K y0_2 (fun x => 0) 0 (fun x => 0) 0)))))) (br (eqI y0_2 9) (K y0_2 (fun x => 0) 0 y2 0) (br (eqI y0_2 1) (br (eqI y0_2 1) (gd (leI 0 (quoI IntKind.i64 (subI IntKind.i64 y0 1) 64) && ltI (quoI IntKind.i64 (subI IntKind.i64 y0 1) 64) 6) (gd (!ltI (cvI IntKind.u64 (remI IntKind.i64 (subI IntKind.i64 y0 1) 64)) 0) (gd (leI 0 (quoI IntKind.i64 (subI IntKind.i64 y0 1) 64) && ltI (quoI IntKind.i64 (subI IntKind.i64 y0 1) 64) 6) (shape_Emin a0 fun y0_3 => K y0_2 (upd y2 (Int.toNat (quoI IntKind.i64 (subI IntKind.i64 y0 1) 64)) (orI IntKind.u64 (y2 (Int.toNat (quoI IntKind.i64 (subI IntKind.i64 y0 1) 64))) (shlI IntKind.u64 1 (cvI IntKind.u64 (remI IntKind.i64 (subI IntKind.i64 y0 1) 64))))) (addI IntKind.i64 (subI IntKind.i64 (addI IntKind.i64 (subI IntKind.i64 y1 1) y0_3) y0) 1) (fun x => 0) 0)))) (br (eqI y0_2 2) (br (eqI y0_2 2) (shape_Emin a0 fun y0_3 => K y0_2 y2 (addI IntKind.i64 (subI IntKind.i64 (addI IntKind.i64 y1 y0_3) y0) 1) (fun x => 0) 0) (K y0_2 (fun x => 0) 0 (fun x => 0) 0)) (br (eqI y0_2 5) (shape_Emin a0 fun y0_3 => K y0_2 y2 (addI IntKind.i64 (subI IntKind.i64 (addI IntKind.i64 y1 y0_3) y0) 1) (fun x => 0) 0) (K y0_2 (fun x => 0) 0 (fun x => 0) 0)))) (br (eqI y0_2 6) (gd (leI 0 (quoI IntKind.i64 (subI IntKind.i64 y0 1) 64) && ltI (quoI IntKind.i64 (subI IntKind.i64 y0 1) 64) 6) (gd (!ltI (cvI IntKind.u64 (remI IntKind.i64 (subI IntKind.i64 y0 1) 64)) 0) (gd (leI 0 (quoI IntKind.i64 (subI IntKind.i64 y0 1) 64) && ltI (quoI IntKind.i64 (subI IntKind.i64 y0 1) 64) 6) (shape_Emin a0 fun y0_3 => K y0_2 (upd y2 (Int.toNat (quoI IntKind.i64 (subI IntKind.i64 y0 1) 64)) (orI IntKind.u64 (y2 (Int.toNat (quoI IntKind.i64 (subI IntKind.i64 y0 1) 64))) (shlI IntKind.u64 1 (cvI IntKind.u64 (remI IntKind.i64 (subI IntKind.i64 y0 1) 64))))) (addI IntKind.i64 (subI IntKind.i64 (addI IntKind.i64 (subI IntKind.i64 y1 1) y0_3) y0) 1) (fun x => 0) 0)))) (br (eqI y0_2 2) (br (eqI y0_2 2) (shape_Emin a0 fun y0_3 => K y0_2 y2 (addI IntKind.i64 (subI IntKind.i64 (addI IntKind.i64 y1 y0_3) y0) 1) (fun x => 0) 0) (K y0_2 (fun x => 0) 0 (fun x => 0) 0)) (br (eqI y0_2 5) (shape_Emin a0 fun y0_3 => K y0_2 y2 (addI IntKind.i64 (subI IntKind.i64 (addI IntKind.i64 y1 y0_3) y0) 1) (fun x => 0) 0) (K y0_2 (fun x => 0) 0 (fun x => 0) 0)))))))
noncomputable def kind_Unpack : Int → Int → Int → (Int → (Nat → Int) → Int → (Nat → Int) → Int → Prop) → Prop := Classical.choose (⟨kind_Unpack.d, rfl⟩ : ∃ f, f = kind_Unpack.d)
theorem kind_Unpack.is : kind_Unpack = kind_Unpack.d := Classical.choose_spec (⟨kind_Unpack.d, rfl⟩ : ∃ f, f = kind_Unpack.d)
def kind_Value.d (a0 : Int) (a1_0 : Int) (a1_1 : Int) (K : Bool → List UInt8 → List UInt8 → Int → Int → Prop) : Prop :=
  kind_Unpack a0 a1_0 a1_1 fun y0 y1 y2 y3 y4 => br (!eqI y4 0) (K false [] [] 0 y4) (br (eqI y0 0) (K false [] [] 0 80) (br (leI 7 y0) (K false [] [] 0 80) (nat_OfWide y1 fun y0_1 => exact_Make (ltI y0 4) y0_1 [1] y2 fun y0 y1 y2 y3 y4 => K y0 y1 y2 y3 y4)))
noncomputable def kind_Value : Int → Int → Int → (Bool → List UInt8 → List UInt8 → Int → Int → Prop) → Prop := Classical.choose (⟨kind_Value.d, rfl⟩ : ∃ f, f = kind_Value.d)
theorem kind_Value.is : kind_Value = kind_Value.d := Classical.choose_spec (⟨kind_Value.d, rfl⟩ : ∃ f, f = kind_Value.d)
end Go.Ev.S

/- The functions as the evaluator has them: what each comes to. -/
set_option maxRecDepth 100000
set_option linter.unusedVariables false
set_option linter.unusedSimpArgs false
namespace Go.Ev.S
open Go Go.Ev
end Go.Ev.S

/- The functions as the evaluator has them: what each comes to. -/
set_option maxRecDepth 100000
set_option linter.unusedVariables false
set_option linter.unusedSimpArgs false
namespace Go.Ev.S
open Go Go.Ev
end Go.Ev.S

/- The functions as the evaluator has them: what each comes to. -/
set_option maxRecDepth 100000
set_option linter.unusedVariables false
set_option linter.unusedSimpArgs false
namespace Go.Ev.S
open Go Go.Ev
end Go.Ev.S

/- The functions as the evaluator has them: what each comes to. -/
set_option maxRecDepth 100000
set_option linter.unusedVariables false
set_option linter.unusedSimpArgs false
namespace Go.Ev.S
open Go Go.Ev
end Go.Ev.S

/- The functions as the evaluator has them: what each comes to. -/
set_option maxRecDepth 100000
set_option linter.unusedVariables false
set_option linter.unusedSimpArgs false
namespace Go.Ev.S
open Go Go.Ev
end Go.Ev.S

/- The functions as the evaluator has them: what each comes to. -/
set_option maxRecDepth 100000
set_option linter.unusedVariables false
set_option linter.unusedSimpArgs false
namespace Go.Ev.S
open Go Go.Ev
end Go.Ev.S

/- The functions as the evaluator has them: what each comes to. -/
set_option maxRecDepth 100000
set_option linter.unusedVariables false
set_option linter.unusedSimpArgs false
namespace Go.Ev.S
open Go Go.Ev
def law08_alive.d (K : Bool → Prop) : Prop :=
  kind_Class 2 0 32768 fun y0 y1 => kind_Unpack 2 0 15360 fun y0_1 y1_1 y2 y3 y4 => kind_Class 4 0 0 fun y0_2 y1_2 => br (eqI y0 3) (br (eqI y1 0) (br (eqI y4 0) (br (eqN 6 y1_1 (upd (fun x => 0) 0 1024)) (br (eqI y2 (-10)) (K (eqI y1_2 2)) (K false)) (K false)) (K false)) (K false)) (K false)
noncomputable def law08_alive : (Bool → Prop) → Prop := Classical.choose (⟨law08_alive.d, rfl⟩ : ∃ f, f = law08_alive.d)
theorem law08_alive.is : law08_alive = law08_alive.d := Classical.choose_spec (⟨law08_alive.d, rfl⟩ : ∃ f, f = law08_alive.d)
def law08_KindNext.d (a0 : Int) (a1_0 : Int) (a1_1 : Int) (K : Bool → Prop) : Prop :=
  kind_Next a0 a1_0 a1_1 fun y0 y1 y2 => br (!eqI y2 0) (law08_alive fun y0 => K y0) (kind_Value a0 a1_0 a1_1 fun y0_1 y1_1 y2 y3 y4 => kind_Value a0 y0 y1 fun y0_2 y1_2 y2_1 y3_1 y4_1 => br (!eqI y4 0) (shape_Inf a0 true fun y0_3 y1_3 => br (eqI a1_0 y0_3 && eqI a1_1 y1_3) (law08_alive fun y0 => K y0) (shape_Inf a0 false fun y0_4 y1_4 => br (eqI y0 y0_4 && eqI y1 y1_4) (law08_alive fun y0 => K y0) (K false))) (br (!eqI y4_1 0) (shape_Inf a0 true fun y0_3 y1_3 => br (eqI a1_0 y0_3 && eqI a1_1 y1_3) (law08_alive fun y0 => K y0) (shape_Inf a0 false fun y0_4 y1_4 => br (eqI y0 y0_4 && eqI y1 y1_4) (law08_alive fun y0 => K y0) (K false))) (exact_Cmp y0_1 y1_1 y2 y3 y0_2 y1_2 y2_1 y3_1 fun y0_3 y1_3 => shape_Least a0 true fun y0_4 y1_4 => br (eqI a1_0 y0_4 && eqI a1_1 y1_4) (shape_Zero a0 true fun y0_5 y1_5 => br (eqI y0 y0_5 && eqI y1 y1_5) (br (ltI y0_3 0) (law08_alive fun y0 => K y0) (K false)) (K false)) (br (!eqI y1_3 0) (K false) (br (leI 0 y0_3) (K false) (exact_Add y0_1 y1_1 y2 y3 y0_2 y1_2 y2_1 y3_1 fun y0 y1 y2 y3 y4 => exact_Scale y0 y1 y2 y3 (-1) fun y0 y1 y2 y3 y4 => kind_Of a0 y0 y1 y2 y3 fun y0 y1 y2 y3 => br (!y2) (law08_alive fun y0 => K y0) (K false)))))))
noncomputable def law08_KindNext : Int → Int → Int → (Bool → Prop) → Prop := Classical.choose (⟨law08_KindNext.d, rfl⟩ : ∃ f, f = law08_KindNext.d)
theorem law08_KindNext.is : law08_KindNext = law08_KindNext.d := Classical.choose_spec (⟨law08_KindNext.d, rfl⟩ : ∃ f, f = law08_KindNext.d)
end Go.Ev.S

/- The functions as the evaluator has them: what each comes to. -/
set_option maxRecDepth 100000
set_option linter.unusedVariables false
set_option linter.unusedSimpArgs false
namespace Go.Ev.S
open Go Go.Ev
end Go.Ev.S

/- The functions as the evaluator has them: what each comes to. -/
set_option maxRecDepth 100000
set_option linter.unusedVariables false
set_option linter.unusedSimpArgs false
namespace Go.Ev.S
open Go Go.Ev
end Go.Ev.S

/- The functions as the evaluator has them: what each comes to. -/
set_option maxRecDepth 100000
set_option linter.unusedVariables false
set_option linter.unusedSimpArgs false
namespace Go.Ev.S
open Go Go.Ev
end Go.Ev.S

/- The functions as the evaluator has them: what each comes to. -/
set_option maxRecDepth 100000
set_option linter.unusedVariables false
set_option linter.unusedSimpArgs false
namespace Go.Ev.S
open Go Go.Ev
end Go.Ev.S

/- The functions as the evaluator has them: what each comes to. -/
set_option maxRecDepth 100000
set_option linter.unusedVariables false
set_option linter.unusedSimpArgs false
namespace Go.Ev.S
open Go Go.Ev
end Go.Ev.S

/- The functions as the evaluator has them: what each comes to. -/
set_option maxRecDepth 100000
set_option linter.unusedVariables false
set_option linter.unusedSimpArgs false
namespace Go.Ev.S
open Go Go.Ev
end Go.Ev.S

/- The functions as the evaluator has them: what each comes to. -/
set_option maxRecDepth 100000
set_option linter.unusedVariables false
set_option linter.unusedSimpArgs false
namespace Go.Ev.S
open Go Go.Ev
end Go.Ev.S

/- The functions as the evaluator has them: what each comes to. -/
set_option maxRecDepth 100000
set_option linter.unusedVariables false
set_option linter.unusedSimpArgs false
namespace Go.Ev.S
open Go Go.Ev
end Go.Ev.S

/- The functions as the evaluator has them: what each comes to. -/
set_option maxRecDepth 100000
set_option linter.unusedVariables false
set_option linter.unusedSimpArgs false
namespace Go.Ev.S
open Go Go.Ev
end Go.Ev.S
