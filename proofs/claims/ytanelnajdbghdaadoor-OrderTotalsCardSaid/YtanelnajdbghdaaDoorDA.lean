/- The functions as the evaluator has them: what each comes to. -/
import Derived.Test.YtanelnajdbghdaaDoorEvE
import Derived.Lib.ItoaNum
import Derived.Lib.AtoiAll
import Derived.Lib.Bytealg
import Derived.Test.YtanelnajdbghdaaDoorEvB
set_option maxRecDepth 100000
set_option linter.unusedVariables false
set_option linter.unusedSimpArgs false
namespace Go.Ev.S
open Go Go.Ev
def bits_Len64.d (a0 : Int) (K : Int → Prop) : Prop :=
  br (leI 4294967296 a0) (br (leI 65536 (shrI IntKind.u64 a0 32)) (br (leI 256 (shrI IntKind.u64 (shrI IntKind.u64 a0 32) 16)) (gd (leI 0 (cvI IntKind.u8 (shrI IntKind.u64 (shrI IntKind.u64 (shrI IntKind.u64 a0 32) 16) 8)) && ltI (cvI IntKind.u8 (shrI IntKind.u64 (shrI IntKind.u64 (shrI IntKind.u64 a0 32) 16) 8)) 256) (K (addI IntKind.i64 56 (cvI IntKind.i64 (byteAt [0, 1, 2, 2, 3, 3, 3, 3, 4, 4, 4, 4, 4, 4, 4, 4, 5, 5, 5, 5, 5, 5, 5, 5, 5, 5, 5, 5, 5, 5, 5, 5, 6, 6, 6, 6, 6, 6, 6, 6, 6, 6, 6, 6, 6, 6, 6, 6, 6, 6, 6, 6, 6, 6, 6, 6, 6, 6, 6, 6, 6, 6, 6, 6, 7, 7, 7, 7, 7, 7, 7, 7, 7, 7, 7, 7, 7, 7, 7, 7, 7, 7, 7, 7, 7, 7, 7, 7, 7, 7, 7, 7, 7, 7, 7, 7, 7, 7, 7, 7, 7, 7, 7, 7, 7, 7, 7, 7, 7, 7, 7, 7, 7, 7, 7, 7, 7, 7, 7, 7, 7, 7, 7, 7, 7, 7, 7, 7, 8, 8, 8, 8, 8, 8, 8, 8, 8, 8, 8, 8, 8, 8, 8, 8, 8, 8, 8, 8, 8, 8, 8, 8, 8, 8, 8, 8, 8, 8, 8, 8, 8, 8, 8, 8, 8, 8, 8, 8, 8, 8, 8, 8, 8, 8, 8, 8, 8, 8, 8, 8, 8, 8, 8, 8, 8, 8, 8, 8, 8, 8, 8, 8, 8, 8, 8, 8, 8, 8, 8, 8, 8, 8, 8, 8, 8, 8, 8, 8, 8, 8, 8, 8, 8, 8, 8, 8, 8, 8, 8, 8, 8, 8, 8, 8, 8, 8, 8, 8, 8, 8, 8, 8, 8, 8, 8, 8, 8, 8, 8, 8, 8, 8, 8, 8, 8, 8, 8, 8, 8, 8, 8, 8, 8, 8, 8, 8] (Int.toNat (cvI IntKind.u8 (shrI IntKind.u64 (shrI IntKind.u64 (shrI IntKind.u64 a0 32) 16) 8)))))))) (gd (leI 0 (cvI IntKind.u8 (shrI IntKind.u64 (shrI IntKind.u64 a0 32) 16)) && ltI (cvI IntKind.u8 (shrI IntKind.u64 (shrI IntKind.u64 a0 32) 16)) 256) (K (addI IntKind.i64 48 (cvI IntKind.i64 (byteAt [0, 1, 2, 2, 3, 3, 3, 3, 4, 4, 4, 4, 4, 4, 4, 4, 5, 5, 5, 5, 5, 5, 5, 5, 5, 5, 5, 5, 5, 5, 5, 5, 6, 6, 6, 6, 6, 6, 6, 6, 6, 6, 6, 6, 6, 6, 6, 6, 6, 6, 6, 6, 6, 6, 6, 6, 6, 6, 6, 6, 6, 6, 6, 6, 7, 7, 7, 7, 7, 7, 7, 7, 7, 7, 7, 7, 7, 7, 7, 7, 7, 7, 7, 7, 7, 7, 7, 7, 7, 7, 7, 7, 7, 7, 7, 7, 7, 7, 7, 7, 7, 7, 7, 7, 7, 7, 7, 7, 7, 7, 7, 7, 7, 7, 7, 7, 7, 7, 7, 7, 7, 7, 7, 7, 7, 7, 7, 7, 8, 8, 8, 8, 8, 8, 8, 8, 8, 8, 8, 8, 8, 8, 8, 8, 8, 8, 8, 8, 8, 8, 8, 8, 8, 8, 8, 8, 8, 8, 8, 8, 8, 8, 8, 8, 8, 8, 8, 8, 8, 8, 8, 8, 8, 8, 8, 8, 8, 8, 8, 8, 8, 8, 8, 8, 8, 8, 8, 8, 8, 8, 8, 8, 8, 8, 8, 8, 8, 8, 8, 8, 8, 8, 8, 8, 8, 8, 8, 8, 8, 8, 8, 8, 8, 8, 8, 8, 8, 8, 8, 8, 8, 8, 8, 8, 8, 8, 8, 8, 8, 8, 8, 8, 8, 8, 8, 8, 8, 8, 8, 8, 8, 8, 8, 8, 8, 8, 8, 8, 8, 8, 8, 8, 8, 8, 8, 8] (Int.toNat (cvI IntKind.u8 (shrI IntKind.u64 (shrI IntKind.u64 a0 32) 16))))))))) (br (leI 256 (shrI IntKind.u64 a0 32)) (gd (leI 0 (cvI IntKind.u8 (shrI IntKind.u64 (shrI IntKind.u64 a0 32) 8)) && ltI (cvI IntKind.u8 (shrI IntKind.u64 (shrI IntKind.u64 a0 32) 8)) 256) (K (addI IntKind.i64 40 (cvI IntKind.i64 (byteAt [0, 1, 2, 2, 3, 3, 3, 3, 4, 4, 4, 4, 4, 4, 4, 4, 5, 5, 5, 5, 5, 5, 5, 5, 5, 5, 5, 5, 5, 5, 5, 5, 6, 6, 6, 6, 6, 6, 6, 6, 6, 6, 6, 6, 6, 6, 6, 6, 6, 6, 6, 6, 6, 6, 6, 6, 6, 6, 6, 6, 6, 6, 6, 6, 7, 7, 7, 7, 7, 7, 7, 7, 7, 7, 7, 7, 7, 7, 7, 7, 7, 7, 7, 7, 7, 7, 7, 7, 7, 7, 7, 7, 7, 7, 7, 7, 7, 7, 7, 7, 7, 7, 7, 7, 7, 7, 7, 7, 7, 7, 7, 7, 7, 7, 7, 7, 7, 7, 7, 7, 7, 7, 7, 7, 7, 7, 7, 7, 8, 8, 8, 8, 8, 8, 8, 8, 8, 8, 8, 8, 8, 8, 8, 8, 8, 8, 8, 8, 8, 8, 8, 8, 8, 8, 8, 8, 8, 8, 8, 8, 8, 8, 8, 8, 8, 8, 8, 8, 8, 8, 8, 8, 8, 8, 8, 8, 8, 8, 8, 8, 8, 8, 8, 8, 8, 8, 8, 8, 8, 8, 8, 8, 8, 8, 8, 8, 8, 8, 8, 8, 8, 8, 8, 8, 8, 8, 8, 8, 8, 8, 8, 8, 8, 8, 8, 8, 8, 8, 8, 8, 8, 8, 8, 8, 8, 8, 8, 8, 8, 8, 8, 8, 8, 8, 8, 8, 8, 8, 8, 8, 8, 8, 8, 8, 8, 8, 8, 8, 8, 8, 8, 8, 8, 8, 8, 8] (Int.toNat (cvI IntKind.u8 (shrI IntKind.u64 (shrI IntKind.u64 a0 32) 8)))))))) (gd (leI 0 (cvI IntKind.u8 (shrI IntKind.u64 a0 32)) && ltI (cvI IntKind.u8 (shrI IntKind.u64 a0 32)) 256) (K (addI IntKind.i64 32 (cvI IntKind.i64 (byteAt [0, 1, 2, 2, 3, 3, 3, 3, 4, 4, 4, 4, 4, 4, 4, 4, 5, 5, 5, 5, 5, 5, 5, 5, 5, 5, 5, 5, 5, 5, 5, 5, 6, 6, 6, 6, 6, 6, 6, 6, 6, 6, 6, 6, 6, 6, 6, 6, 6, 6, 6, 6, 6, 6, 6, 6, 6, 6, 6, 6, 6, 6, 6, 6, 7, 7, 7, 7, 7, 7, 7, 7, 7, 7, 7, 7, 7, 7, 7, 7, 7, 7, 7, 7, 7, 7, 7, 7, 7, 7, 7, 7, 7, 7, 7, 7, 7, 7, 7, 7, 7, 7, 7, 7, 7, 7, 7, 7, 7, 7, 7, 7, 7, 7, 7, 7, 7, 7, 7, 7, 7, 7, 7, 7, 7, 7, 7, 7, 8, 8, 8, 8, 8, 8, 8, 8, 8, 8, 8, 8, 8, 8, 8, 8, 8, 8, 8, 8, 8, 8, 8, 8, 8, 8, 8, 8, 8, 8, 8, 8, 8, 8, 8, 8, 8, 8, 8, 8, 8, 8, 8, 8, 8, 8, 8, 8, 8, 8, 8, 8, 8, 8, 8, 8, 8, 8, 8, 8, 8, 8, 8, 8, 8, 8, 8, 8, 8, 8, 8, 8, 8, 8, 8, 8, 8, 8, 8, 8, 8, 8, 8, 8, 8, 8, 8, 8, 8, 8, 8, 8, 8, 8, 8, 8, 8, 8, 8, 8, 8, 8, 8, 8, 8, 8, 8, 8, 8, 8, 8, 8, 8, 8, 8, 8, 8, 8, 8, 8, 8, 8, 8, 8, 8, 8, 8, 8] (Int.toNat (cvI IntKind.u8 (shrI IntKind.u64 a0 32)))))))))) (br (leI 65536 a0) (br (leI 256 (shrI IntKind.u64 a0 16)) (gd (leI 0 (cvI IntKind.u8 (shrI IntKind.u64 (shrI IntKind.u64 a0 16) 8)) && ltI (cvI IntKind.u8 (shrI IntKind.u64 (shrI IntKind.u64 a0 16) 8)) 256) (K (addI IntKind.i64 24 (cvI IntKind.i64 (byteAt [0, 1, 2, 2, 3, 3, 3, 3, 4, 4, 4, 4, 4, 4, 4, 4, 5, 5, 5, 5, 5, 5, 5, 5, 5, 5, 5, 5, 5, 5, 5, 5, 6, 6, 6, 6, 6, 6, 6, 6, 6, 6, 6, 6, 6, 6, 6, 6, 6, 6, 6, 6, 6, 6, 6, 6, 6, 6, 6, 6, 6, 6, 6, 6, 7, 7, 7, 7, 7, 7, 7, 7, 7, 7, 7, 7, 7, 7, 7, 7, 7, 7, 7, 7, 7, 7, 7, 7, 7, 7, 7, 7, 7, 7, 7, 7, 7, 7, 7, 7, 7, 7, 7, 7, 7, 7, 7, 7, 7, 7, 7, 7, 7, 7, 7, 7, 7, 7, 7, 7, 7, 7, 7, 7, 7, 7, 7, 7, 8, 8, 8, 8, 8, 8, 8, 8, 8, 8, 8, 8, 8, 8, 8, 8, 8, 8, 8, 8, 8, 8, 8, 8, 8, 8, 8, 8, 8, 8, 8, 8, 8, 8, 8, 8, 8, 8, 8, 8, 8, 8, 8, 8, 8, 8, 8, 8, 8, 8, 8, 8, 8, 8, 8, 8, 8, 8, 8, 8, 8, 8, 8, 8, 8, 8, 8, 8, 8, 8, 8, 8, 8, 8, 8, 8, 8, 8, 8, 8, 8, 8, 8, 8, 8, 8, 8, 8, 8, 8, 8, 8, 8, 8, 8, 8, 8, 8, 8, 8, 8, 8, 8, 8, 8, 8, 8, 8, 8, 8, 8, 8, 8, 8, 8, 8, 8, 8, 8, 8, 8, 8, 8, 8, 8, 8, 8, 8] (Int.toNat (cvI IntKind.u8 (shrI IntKind.u64 (shrI IntKind.u64 a0 16) 8)))))))) (gd (leI 0 (cvI IntKind.u8 (shrI IntKind.u64 a0 16)) && ltI (cvI IntKind.u8 (shrI IntKind.u64 a0 16)) 256) (K (addI IntKind.i64 16 (cvI IntKind.i64 (byteAt [0, 1, 2, 2, 3, 3, 3, 3, 4, 4, 4, 4, 4, 4, 4, 4, 5, 5, 5, 5, 5, 5, 5, 5, 5, 5, 5, 5, 5, 5, 5, 5, 6, 6, 6, 6, 6, 6, 6, 6, 6, 6, 6, 6, 6, 6, 6, 6, 6, 6, 6, 6, 6, 6, 6, 6, 6, 6, 6, 6, 6, 6, 6, 6, 7, 7, 7, 7, 7, 7, 7, 7, 7, 7, 7, 7, 7, 7, 7, 7, 7, 7, 7, 7, 7, 7, 7, 7, 7, 7, 7, 7, 7, 7, 7, 7, 7, 7, 7, 7, 7, 7, 7, 7, 7, 7, 7, 7, 7, 7, 7, 7, 7, 7, 7, 7, 7, 7, 7, 7, 7, 7, 7, 7, 7, 7, 7, 7, 8, 8, 8, 8, 8, 8, 8, 8, 8, 8, 8, 8, 8, 8, 8, 8, 8, 8, 8, 8, 8, 8, 8, 8, 8, 8, 8, 8, 8, 8, 8, 8, 8, 8, 8, 8, 8, 8, 8, 8, 8, 8, 8, 8, 8, 8, 8, 8, 8, 8, 8, 8, 8, 8, 8, 8, 8, 8, 8, 8, 8, 8, 8, 8, 8, 8, 8, 8, 8, 8, 8, 8, 8, 8, 8, 8, 8, 8, 8, 8, 8, 8, 8, 8, 8, 8, 8, 8, 8, 8, 8, 8, 8, 8, 8, 8, 8, 8, 8, 8, 8, 8, 8, 8, 8, 8, 8, 8, 8, 8, 8, 8, 8, 8, 8, 8, 8, 8, 8, 8, 8, 8, 8, 8, 8, 8, 8, 8] (Int.toNat (cvI IntKind.u8 (shrI IntKind.u64 a0 16))))))))) (br (leI 256 a0) (gd (leI 0 (cvI IntKind.u8 (shrI IntKind.u64 a0 8)) && ltI (cvI IntKind.u8 (shrI IntKind.u64 a0 8)) 256) (K (addI IntKind.i64 8 (cvI IntKind.i64 (byteAt [0, 1, 2, 2, 3, 3, 3, 3, 4, 4, 4, 4, 4, 4, 4, 4, 5, 5, 5, 5, 5, 5, 5, 5, 5, 5, 5, 5, 5, 5, 5, 5, 6, 6, 6, 6, 6, 6, 6, 6, 6, 6, 6, 6, 6, 6, 6, 6, 6, 6, 6, 6, 6, 6, 6, 6, 6, 6, 6, 6, 6, 6, 6, 6, 7, 7, 7, 7, 7, 7, 7, 7, 7, 7, 7, 7, 7, 7, 7, 7, 7, 7, 7, 7, 7, 7, 7, 7, 7, 7, 7, 7, 7, 7, 7, 7, 7, 7, 7, 7, 7, 7, 7, 7, 7, 7, 7, 7, 7, 7, 7, 7, 7, 7, 7, 7, 7, 7, 7, 7, 7, 7, 7, 7, 7, 7, 7, 7, 8, 8, 8, 8, 8, 8, 8, 8, 8, 8, 8, 8, 8, 8, 8, 8, 8, 8, 8, 8, 8, 8, 8, 8, 8, 8, 8, 8, 8, 8, 8, 8, 8, 8, 8, 8, 8, 8, 8, 8, 8, 8, 8, 8, 8, 8, 8, 8, 8, 8, 8, 8, 8, 8, 8, 8, 8, 8, 8, 8, 8, 8, 8, 8, 8, 8, 8, 8, 8, 8, 8, 8, 8, 8, 8, 8, 8, 8, 8, 8, 8, 8, 8, 8, 8, 8, 8, 8, 8, 8, 8, 8, 8, 8, 8, 8, 8, 8, 8, 8, 8, 8, 8, 8, 8, 8, 8, 8, 8, 8, 8, 8, 8, 8, 8, 8, 8, 8, 8, 8, 8, 8, 8, 8, 8, 8, 8, 8] (Int.toNat (cvI IntKind.u8 (shrI IntKind.u64 a0 8)))))))) (gd (leI 0 (cvI IntKind.u8 a0) && ltI (cvI IntKind.u8 a0) 256) (K (addI IntKind.i64 0 (cvI IntKind.i64 (byteAt [0, 1, 2, 2, 3, 3, 3, 3, 4, 4, 4, 4, 4, 4, 4, 4, 5, 5, 5, 5, 5, 5, 5, 5, 5, 5, 5, 5, 5, 5, 5, 5, 6, 6, 6, 6, 6, 6, 6, 6, 6, 6, 6, 6, 6, 6, 6, 6, 6, 6, 6, 6, 6, 6, 6, 6, 6, 6, 6, 6, 6, 6, 6, 6, 7, 7, 7, 7, 7, 7, 7, 7, 7, 7, 7, 7, 7, 7, 7, 7, 7, 7, 7, 7, 7, 7, 7, 7, 7, 7, 7, 7, 7, 7, 7, 7, 7, 7, 7, 7, 7, 7, 7, 7, 7, 7, 7, 7, 7, 7, 7, 7, 7, 7, 7, 7, 7, 7, 7, 7, 7, 7, 7, 7, 7, 7, 7, 7, 8, 8, 8, 8, 8, 8, 8, 8, 8, 8, 8, 8, 8, 8, 8, 8, 8, 8, 8, 8, 8, 8, 8, 8, 8, 8, 8, 8, 8, 8, 8, 8, 8, 8, 8, 8, 8, 8, 8, 8, 8, 8, 8, 8, 8, 8, 8, 8, 8, 8, 8, 8, 8, 8, 8, 8, 8, 8, 8, 8, 8, 8, 8, 8, 8, 8, 8, 8, 8, 8, 8, 8, 8, 8, 8, 8, 8, 8, 8, 8, 8, 8, 8, 8, 8, 8, 8, 8, 8, 8, 8, 8, 8, 8, 8, 8, 8, 8, 8, 8, 8, 8, 8, 8, 8, 8, 8, 8, 8, 8, 8, 8, 8, 8, 8, 8, 8, 8, 8, 8, 8, 8, 8, 8, 8, 8, 8, 8] (Int.toNat (cvI IntKind.u8 a0)))))))))
noncomputable def bits_Len64 : Int → (Int → Prop) → Prop := Classical.choose (⟨bits_Len64.d, rfl⟩ : ∃ f, f = bits_Len64.d)
def bits_TrailingZeros64.d (a0 : Int) (K : Int → Prop) : Prop :=
  br (eqI a0 0) (K 64) ((leI 0 (shrI IntKind.u64 (mulI IntKind.u64 (andI IntKind.u64 a0 (negI IntKind.u64 a0)) 285870213051353865) 58) && ltI (shrI IntKind.u64 (mulI IntKind.u64 (andI IntKind.u64 a0 (negI IntKind.u64 a0)) 285870213051353865) 58) 64) = true ∧ K (cvI IntKind.i64 (tab_deBruijn64tab (Int.toNat (shrI IntKind.u64 (mulI IntKind.u64 (andI IntKind.u64 a0 (negI IntKind.u64 a0)) 285870213051353865) 58)))))
noncomputable def bits_TrailingZeros64 : Int → (Int → Prop) → Prop := Classical.choose (⟨bits_TrailingZeros64.d, rfl⟩ : ∃ f, f = bits_TrailingZeros64.d)
theorem bits_TrailingZeros64.is : bits_TrailingZeros64 = bits_TrailingZeros64.d := Classical.choose_spec (⟨bits_TrailingZeros64.d, rfl⟩ : ∃ f, f = bits_TrailingZeros64.d)
end Go.Ev.S

/- The functions as the evaluator has them: what each comes to. -/
set_option maxRecDepth 100000
set_option linter.unusedVariables false
set_option linter.unusedSimpArgs false
namespace Go.Ev.S
open Go Go.Ev
def word_one.d (a0 : Bool) (K : Int → Prop) : Prop :=
  br a0 (K 1) (K 0)
noncomputable def word_one : Bool → (Int → Prop) → Prop := Classical.choose (⟨word_one.d, rfl⟩ : ∃ f, f = word_one.d)
def word_Add.d (a0 : Int) (a1 : Int) (a2 : Bool) (K : Int → Bool → Prop) : Prop :=
  word_one a2 fun y0 => br (ltI (addI IntKind.u64 a0 a1) a0) (K (addI IntKind.u64 (addI IntKind.u64 a0 a1) y0) true) (br a2 (K (addI IntKind.u64 (addI IntKind.u64 a0 a1) y0) (eqI (addI IntKind.u64 (addI IntKind.u64 a0 a1) y0) 0)) (K (addI IntKind.u64 (addI IntKind.u64 a0 a1) y0) false))
noncomputable def word_Add : Int → Int → Bool → (Int → Bool → Prop) → Prop := Classical.choose (⟨word_Add.d, rfl⟩ : ∃ f, f = word_Add.d)
def word_Len.d (a0 : Int) (K : Int → Prop) : Prop :=
  bits_Len64 a0 fun y0 => K y0
noncomputable def word_Len : Int → (Int → Prop) → Prop := Classical.choose (⟨word_Len.d, rfl⟩ : ∃ f, f = word_Len.d)
def word_Low.d (a0 : Int) (K : Int → Prop) : Prop :=
  bits_TrailingZeros64 a0 fun y0 => K y0
noncomputable def word_Low : Int → (Int → Prop) → Prop := Classical.choose (⟨word_Low.d, rfl⟩ : ∃ f, f = word_Low.d)
theorem word_Low.is : word_Low = word_Low.d := Classical.choose_spec (⟨word_Low.d, rfl⟩ : ∃ f, f = word_Low.d)
def word_count.d (a0 : Int) (K : Int → Prop) : Prop :=
  K (cvI IntKind.u64 (minI (maxI a0 0) 64))
noncomputable def word_count : Int → (Int → Prop) → Prop := Classical.choose (⟨word_count.d, rfl⟩ : ∃ f, f = word_count.d)
theorem word_count.is : word_count = word_count.d := Classical.choose_spec (⟨word_count.d, rfl⟩ : ∃ f, f = word_count.d)
def word_Mask.d (a0 : Int) (K : Int → Prop) : Prop :=
  word_count a0 fun y0 => gd (!ltI y0 0) (K (subI IntKind.u64 (shlI IntKind.u64 1 y0) 1))
noncomputable def word_Mask : Int → (Int → Prop) → Prop := Classical.choose (⟨word_Mask.d, rfl⟩ : ∃ f, f = word_Mask.d)
theorem word_Mask.is : word_Mask = word_Mask.d := Classical.choose_spec (⟨word_Mask.d, rfl⟩ : ∃ f, f = word_Mask.d)
end Go.Ev.S

/- The functions as the evaluator has them: what each comes to. -/
set_option maxRecDepth 100000
set_option linter.unusedVariables false
set_option linter.unusedSimpArgs false
namespace Go.Ev.S
open Go Go.Ev
def wide_Add.l2.step (again : Bool → Int → (Nat → Int) → (Nat → Int) → (Nat → Int) → Prop) (k0 : Bool → (Nat → Int) → Prop) (x0 : Bool) (x1 : Int) (x2 : Nat → Int) (x3 : Nat → Int) (x4 : Nat → Int) : Prop :=
  br (ltI x1 6) (gd (leI 0 x1 && ltI x1 6) (gd (leI 0 x1 && ltI x1 6) (word_Add (x2 (Int.toNat x1)) (x3 (Int.toNat x1)) x0 fun y0 y1 => gd (leI 0 x1 && ltI x1 6) (again y1 (addI IntKind.i64 x1 1) x2 x3 (upd x4 (Int.toNat x1) y0))))) (k0 x0 x4)
def wide_Add.l2 (k0 : Bool → (Nat → Int) → Prop) : Nat → Bool → Int → (Nat → Int) → (Nat → Int) → (Nat → Int) → Prop
  | 0 => fun _ _ _ _ _ => False
  | n + 1 => wide_Add.l2.step (wide_Add.l2 k0 n) k0
def wide_Add.l2.entry : LoopEntry := ⟨LV.mk 48 [(0, 48)] 48 0 false, 0, 26, fun vs H K => match vs, H with
  | [EV.ptr 0 [], EV.ptr 1 [], EV.ptr 2 [], EV.bool x0, EV.int IntKind.i64 x1], [some (EV.arr IntKind.u64 6 x2), some (EV.arr IntKind.u64 6 x3), some (EV.arr IntKind.u64 6 x4)] => ∃ n, wide_Add.l2 (fun y0 y1 => K (.exit 0) [EV.ptr 0 [], EV.bool y0] [some (EV.arr IntKind.u64 6 y1)]) n x0 x1 x2 x3 x4
  | _, _ => False⟩
def wide_Add.d (a0 : Nat → Int) (a1 : Nat → Int) (K : (Nat → Int) → Bool → Prop) : Prop :=
  ∃ n, wide_Add.l2 (fun y0 y1 => K y1 y0) n false 0 a0 a1 fun x => 0
noncomputable def wide_Add : (Nat → Int) → (Nat → Int) → ((Nat → Int) → Bool → Prop) → Prop := Classical.choose (⟨wide_Add.d, rfl⟩ : ∃ f, f = wide_Add.d)
def wide_And.l2.step (again : Int → (Nat → Int) → (Nat → Int) → (Nat → Int) → Prop) (k0 : (Nat → Int) → (Nat → Int) → Prop) (x0 : Int) (x1 : Nat → Int) (x2 : Nat → Int) (x3 : Nat → Int) : Prop :=
  br (ltI x0 6) (gd (leI 0 x0 && ltI x0 6) (gd (leI 0 x0 && ltI x0 6) (gd (leI 0 x0 && ltI x0 6) (again (addI IntKind.i64 x0 1) (upd x1 (Int.toNat x0) (andI IntKind.u64 (x1 (Int.toNat x0)) (x2 (Int.toNat x0)))) x2 x3)))) (k0 x1 x3)
def wide_And.l2 (k0 : (Nat → Int) → (Nat → Int) → Prop) : Nat → Int → (Nat → Int) → (Nat → Int) → (Nat → Int) → Prop
  | 0 => fun _ _ _ _ => False
  | n + 1 => wide_And.l2.step (wide_And.l2 k0 n) k0
def wide_And.l2.entry : LoopEntry := ⟨LV.mk 20 [(0, 20)] 16 0 false, 0, 19, fun vs H K => match vs, H with
  | [EV.ptr 0 [], EV.ptr 1 [], EV.ptr 2 [], EV.int IntKind.i64 x0], [some (EV.arr IntKind.u64 6 x1), some (EV.arr IntKind.u64 6 x2), some (EV.arr IntKind.u64 6 x3)] => ∃ n, wide_And.l2 (fun y0 y1 => K (.exit 0) [EV.ptr 0 [], EV.ptr 1 []] [some (EV.arr IntKind.u64 6 y0), some (EV.arr IntKind.u64 6 y1)]) n x0 x1 x2 x3
  | _, _ => False⟩
def wide_And.d (a0 : Nat → Int) (a1 : Nat → Int) (K : (Nat → Int) → Prop) : Prop :=
  ∃ n, wide_And.l2 (fun y0 y1 => K y0) n 0 a0 a1 fun x => 0
noncomputable def wide_And : (Nat → Int) → (Nat → Int) → ((Nat → Int) → Prop) → Prop := Classical.choose (⟨wide_And.d, rfl⟩ : ∃ f, f = wide_And.d)
theorem wide_And.is : wide_And = wide_And.d := Classical.choose_spec (⟨wide_And.d, rfl⟩ : ∃ f, f = wide_And.d)
def wide_Bit.d (a0 : Nat → Int) (a1 : Int) (K : Bool → Prop) : Prop :=
  br (leI 0 a1) (br (ltI a1 384) (gd (leI 0 (quoI IntKind.i64 a1 64) && ltI (quoI IntKind.i64 a1 64) 6) (gd (!ltI (cvI IntKind.u64 (remI IntKind.i64 a1 64)) 0) (K (eqI (andI IntKind.u64 (shrI IntKind.u64 (a0 (Int.toNat (quoI IntKind.i64 a1 64))) (cvI IntKind.u64 (remI IntKind.i64 a1 64))) 1) 1)))) (K false)) (K false)
noncomputable def wide_Bit : (Nat → Int) → Int → (Bool → Prop) → Prop := Classical.choose (⟨wide_Bit.d, rfl⟩ : ∃ f, f = wide_Bit.d)
theorem wide_Bit.is : wide_Bit = wide_Bit.d := Classical.choose_spec (⟨wide_Bit.d, rfl⟩ : ∃ f, f = wide_Bit.d)
def wide_Len.l2.step (again : Int → (Nat → Int) → Prop) (k0 : Int → Prop) (k1 : Prop) (x0 : Int) (x1 : Nat → Int) : Prop :=
  br (leI 0 x0) (gd (leI 0 x0 && ltI x0 6) (br (!eqI (x1 (Int.toNat x0)) 0) (gd (leI 0 x0 && ltI x0 6) (word_Len (x1 (Int.toNat x0)) fun y0 => k0 (addI IntKind.i64 (mulI IntKind.i64 64 x0) y0))) (again (subI IntKind.i64 x0 1) x1))) k1
def wide_Len.l2 (k0 : Int → Prop) (k1 : Prop) : Nat → Int → (Nat → Int) → Prop
  | 0 => fun _ _ => False
  | n + 1 => wide_Len.l2.step (wide_Len.l2 k0 k1 n) k0 k1
def wide_Len.d (a0 : Nat → Int) (K : Int → Prop) : Prop :=
  ∃ n, wide_Len.l2 (fun y0 => K y0) (K 0) n 5 a0
noncomputable def wide_Len : (Nat → Int) → (Int → Prop) → Prop := Classical.choose (⟨wide_Len.d, rfl⟩ : ∃ f, f = wide_Len.d)
def wide_count.d (a0 : Int) (K : Int → Prop) : Prop :=
  K (minI (maxI a0 0) 384)
noncomputable def wide_count : Int → (Int → Prop) → Prop := Classical.choose (⟨wide_count.d, rfl⟩ : ∃ f, f = wide_count.d)
theorem wide_count.is : wide_count = wide_count.d := Classical.choose_spec (⟨wide_count.d, rfl⟩ : ∃ f, f = wide_count.d)
def wide_Left.l5.step (again : Bool → Int → Int → Int → (Nat → Int) → (Nat → Int) → Prop) (k0 : Bool → (Nat → Int) → Prop) (x0 : Bool) (x1 : Int) (x2 : Int) (x3 : Int) (x4 : Nat → Int) (x5 : Nat → Int) : Prop :=
  br (leI x1 x3) (gd (leI 0 (subI IntKind.i64 x3 x1) && ltI (subI IntKind.i64 x3 x1) 6) (gd (!ltI x2 0) (gd (leI 0 x3 && ltI x3 6) (br (ltI x1 x3) (gd (leI 0 x3 && ltI x3 6) (gd (leI 0 (subI IntKind.i64 (subI IntKind.i64 x3 x1) 1) && ltI (subI IntKind.i64 (subI IntKind.i64 x3 x1) 1) 6) (gd (!ltI (subI IntKind.u64 64 x2) 0) (gd (leI 0 x3 && ltI x3 6) (again x0 x1 x2 (subI IntKind.i64 x3 1) x4 (upd (upd x5 (Int.toNat x3) (shlI IntKind.u64 (x4 (Int.toNat (subI IntKind.i64 x3 x1))) x2)) (Int.toNat x3) (orI IntKind.u64 (upd x5 (Int.toNat x3) (shlI IntKind.u64 (x4 (Int.toNat (subI IntKind.i64 x3 x1))) x2) (Int.toNat x3)) (shrI IntKind.u64 (x4 (Int.toNat (subI IntKind.i64 (subI IntKind.i64 x3 x1) 1))) (subI IntKind.u64 64 x2))))))))) (again x0 x1 x2 (subI IntKind.i64 x3 1) x4 (upd x5 (Int.toNat x3) (shlI IntKind.u64 (x4 (Int.toNat (subI IntKind.i64 x3 x1))) x2))))))) (k0 x0 x5)
def wide_Left.l5 (k0 : Bool → (Nat → Int) → Prop) : Nat → Bool → Int → Int → Int → (Nat → Int) → (Nat → Int) → Prop
  | 0 => fun _ _ _ _ _ _ => False
  | n + 1 => wide_Left.l5.step (wide_Left.l5 k0 n) k0
def wide_Left.l5.entry : LoopEntry := ⟨LV.mk 48 [(0, 48)] 48 0 false, 0, 59, fun vs H K => match vs, H with
  | [EV.ptr 0 [], EV.ptr 1 [], EV.bool x0, EV.int IntKind.i64 x1, EV.int IntKind.u64 x2, EV.int IntKind.i64 x3], [some (EV.arr IntKind.u64 6 x4), some (EV.arr IntKind.u64 6 x5)] => ∃ n, wide_Left.l5 (fun y0 y1 => K (.exit 0) [EV.ptr 0 [], EV.bool y0] [some (EV.arr IntKind.u64 6 y1)]) n x0 x1 x2 x3 x4 x5
  | _, _ => False⟩
def wide_Left.d (a0 : Nat → Int) (a1 : Int) (K : (Nat → Int) → Bool → Prop) : Prop :=
  wide_count a1 fun y0 => wide_Len a0 fun y0_1 => br (ltI 384 (addI IntKind.i64 y0_1 y0)) (∃ n, wide_Left.l5 (fun y0 y1 => K y1 y0) n (!eqN 6 a0 fun x => 0) (quoI IntKind.i64 y0 64) (cvI IntKind.u64 (remI IntKind.i64 y0 64)) 5 a0 fun x => 0) (∃ n, wide_Left.l5 (fun y0 y1 => K y1 y0) n false (quoI IntKind.i64 y0 64) (cvI IntKind.u64 (remI IntKind.i64 y0 64)) 5 a0 fun x => 0)
noncomputable def wide_Left : (Nat → Int) → Int → ((Nat → Int) → Bool → Prop) → Prop := Classical.choose (⟨wide_Left.d, rfl⟩ : ∃ f, f = wide_Left.d)
def wide_Low.l2.step (again : (Nat → Int) → Int → Prop) (k0 : Int → Prop) (k1 : Prop) (x0 : Nat → Int) (x1 : Int) : Prop :=
  br (ltI x1 6) (gd (leI 0 x1 && ltI x1 6) (br (!eqI (x0 (Int.toNat x1)) 0) (word_Low (x0 (Int.toNat x1)) fun y0 => k0 (addI IntKind.i64 (mulI IntKind.i64 64 x1) y0)) (again x0 (addI IntKind.i64 x1 1)))) k1
def wide_Low.l2 (k0 : Int → Prop) (k1 : Prop) : Nat → (Nat → Int) → Int → Prop
  | 0 => fun _ _ => False
  | n + 1 => wide_Low.l2.step (wide_Low.l2 k0 k1 n) k0 k1
def wide_Low.l2.entry : LoopEntry := ⟨LV.mk 0 [(0, 0)] 4 0 false, 0, 18, fun vs H K => match vs, H with
  | [EV.arr IntKind.u64 6 x0, EV.int IntKind.i64 x1], [] => ∃ n, wide_Low.l2 (fun y0 => K .ret [EV.int IntKind.i64 y0] []) (K (.exit 0) [] []) n x0 x1
  | _, _ => False⟩
def wide_Low.d (a0 : Nat → Int) (K : Int → Prop) : Prop :=
  ∃ n, wide_Low.l2 (fun y0 => K y0) (K 384) n a0 0
noncomputable def wide_Low : (Nat → Int) → (Int → Prop) → Prop := Classical.choose (⟨wide_Low.d, rfl⟩ : ∃ f, f = wide_Low.d)
theorem wide_Low.is : wide_Low = wide_Low.d := Classical.choose_spec (⟨wide_Low.d, rfl⟩ : ∃ f, f = wide_Low.d)
def wide_Mask.l4.step (again : Int → Int → (Nat → Int) → (Nat → Int) → Prop) (k0 : (Nat → Int) → (Nat → Int) → Prop) (x0 : Int) (x1 : Int) (x2 : Nat → Int) (x3 : Nat → Int) : Prop :=
  br (ltI x1 6) (word_Mask (subI IntKind.i64 x0 (mulI IntKind.i64 64 x1)) fun y0 => gd (leI 0 x1 && ltI x1 6) (again x0 (addI IntKind.i64 x1 1) x2 (upd x3 (Int.toNat x1) y0))) (k0 x2 x3)
def wide_Mask.l4 (k0 : (Nat → Int) → (Nat → Int) → Prop) : Nat → Int → Int → (Nat → Int) → (Nat → Int) → Prop
  | 0 => fun _ _ _ _ => False
  | n + 1 => wide_Mask.l4.step (wide_Mask.l4 k0 n) k0
def wide_Mask.l4.entry : LoopEntry := ⟨LV.mk 12 [(0, 12)] 4 0 false, 0, 19, fun vs H K => match vs, H with
  | [EV.int IntKind.i64 x0, EV.ptr 0 [], EV.ptr 1 [], EV.int IntKind.i64 x1], [some (EV.arr IntKind.u64 6 x2), some (EV.arr IntKind.u64 6 x3)] => ∃ n, wide_Mask.l4 (fun y0 y1 => K (.exit 0) [EV.ptr 0 [], EV.ptr 1 []] [some (EV.arr IntKind.u64 6 y0), some (EV.arr IntKind.u64 6 y1)]) n x0 x1 x2 x3
  | _, _ => False⟩
def wide_Mask.d (a0 : Int) (K : (Nat → Int) → Prop) : Prop :=
  wide_count a0 fun y0 => ∃ n, wide_Mask.l4 (fun y0 y1 => K y1) n y0 0 (fun x => 0) fun x => 0
noncomputable def wide_Mask : Int → ((Nat → Int) → Prop) → Prop := Classical.choose (⟨wide_Mask.d, rfl⟩ : ∃ f, f = wide_Mask.d)
theorem wide_Mask.is : wide_Mask = wide_Mask.d := Classical.choose_spec (⟨wide_Mask.d, rfl⟩ : ∃ f, f = wide_Mask.d)
def wide_OfBits.d (a0_0 : Int) (a0_1 : Int) (K : (Nat → Int) → Prop) : Prop :=
  K (upd (upd (fun x => 0) 0 a0_1) 1 a0_0)
noncomputable def wide_OfBits : Int → Int → ((Nat → Int) → Prop) → Prop := Classical.choose (⟨wide_OfBits.d, rfl⟩ : ∃ f, f = wide_OfBits.d)
theorem wide_OfBits.is : wide_OfBits = wide_OfBits.d := Classical.choose_spec (⟨wide_OfBits.d, rfl⟩ : ∃ f, f = wide_OfBits.d)
def wide_Right.l5.step (again : Bool → Int → Int → Int → (Nat → Int) → (Nat → Int) → Prop) (k0 : Bool → (Nat → Int) → Prop) (x0 : Bool) (x1 : Int) (x2 : Int) (x3 : Int) (x4 : Nat → Int) (x5 : Nat → Int) : Prop :=
  br (ltI (addI IntKind.i64 x3 x1) 6) (gd (leI 0 (addI IntKind.i64 x3 x1) && ltI (addI IntKind.i64 x3 x1) 6) (gd (!ltI x2 0) (gd (leI 0 x3 && ltI x3 6) (br (ltI (addI IntKind.i64 x3 x1) 5) (gd (leI 0 x3 && ltI x3 6) (gd (leI 0 (addI IntKind.i64 (addI IntKind.i64 x3 x1) 1) && ltI (addI IntKind.i64 (addI IntKind.i64 x3 x1) 1) 6) (gd (!ltI (subI IntKind.u64 64 x2) 0) (gd (leI 0 x3 && ltI x3 6) (again x0 x1 x2 (addI IntKind.i64 x3 1) x4 (upd (upd x5 (Int.toNat x3) (shrI IntKind.u64 (x4 (Int.toNat (addI IntKind.i64 x3 x1))) x2)) (Int.toNat x3) (orI IntKind.u64 (upd x5 (Int.toNat x3) (shrI IntKind.u64 (x4 (Int.toNat (addI IntKind.i64 x3 x1))) x2) (Int.toNat x3)) (shlI IntKind.u64 (x4 (Int.toNat (addI IntKind.i64 (addI IntKind.i64 x3 x1) 1))) (subI IntKind.u64 64 x2))))))))) (again x0 x1 x2 (addI IntKind.i64 x3 1) x4 (upd x5 (Int.toNat x3) (shrI IntKind.u64 (x4 (Int.toNat (addI IntKind.i64 x3 x1))) x2))))))) (k0 x0 x5)
def wide_Right.l5 (k0 : Bool → (Nat → Int) → Prop) : Nat → Bool → Int → Int → Int → (Nat → Int) → (Nat → Int) → Prop
  | 0 => fun _ _ _ _ _ _ => False
  | n + 1 => wide_Right.l5.step (wide_Right.l5 k0 n) k0
def wide_Right.l5.entry : LoopEntry := ⟨LV.mk 48 [(0, 48)] 48 0 false, 0, 60, fun vs H K => match vs, H with
  | [EV.ptr 0 [], EV.ptr 1 [], EV.bool x0, EV.int IntKind.i64 x1, EV.int IntKind.u64 x2, EV.int IntKind.i64 x3], [some (EV.arr IntKind.u64 6 x4), some (EV.arr IntKind.u64 6 x5)] => ∃ n, wide_Right.l5 (fun y0 y1 => K (.exit 0) [EV.ptr 0 [], EV.bool y0] [some (EV.arr IntKind.u64 6 y1)]) n x0 x1 x2 x3 x4 x5
  | _, _ => False⟩
def wide_Right.d (a0 : Nat → Int) (a1 : Int) (K : (Nat → Int) → Bool → Prop) : Prop :=
  wide_count a1 fun y0 => br (!eqN 6 a0 fun x => 0) (wide_Low a0 fun y0_1 => ∃ n, wide_Right.l5 (fun y0 y1 => K y1 y0) n (ltI y0_1 y0) (quoI IntKind.i64 y0 64) (cvI IntKind.u64 (remI IntKind.i64 y0 64)) 0 a0 fun x => 0) (∃ n, wide_Right.l5 (fun y0 y1 => K y1 y0) n false (quoI IntKind.i64 y0 64) (cvI IntKind.u64 (remI IntKind.i64 y0 64)) 0 a0 fun x => 0)
noncomputable def wide_Right : (Nat → Int) → Int → ((Nat → Int) → Bool → Prop) → Prop := Classical.choose (⟨wide_Right.d, rfl⟩ : ∃ f, f = wide_Right.d)
theorem wide_Right.is : wide_Right = wide_Right.d := Classical.choose_spec (⟨wide_Right.d, rfl⟩ : ∃ f, f = wide_Right.d)
end Go.Ev.S

/- The functions as the evaluator has them: what each comes to. -/
set_option maxRecDepth 100000
set_option linter.unusedVariables false
set_option linter.unusedSimpArgs false
namespace Go.Ev.S
open Go Go.Ev
end Go.Ev.S

/- Numbers in decimal digits: what the library's two functions come to. -/
set_option linter.unusedVariables false
set_option linter.unusedSimpArgs false
namespace Go.Ev.S
open Go Go.Ev
end Go.Ev.S

/- The functions as the evaluator has them: what each comes to. -/
set_option maxRecDepth 100000
set_option linter.unusedVariables false
set_option linter.unusedSimpArgs false
namespace Go.Ev.S
open Go Go.Ev
end Go.Ev.S

/- The functions as the evaluator has them: what each comes to. -/
set_option maxRecDepth 100000
set_option linter.unusedVariables false
set_option linter.unusedSimpArgs false
namespace Go.Ev.S
open Go Go.Ev
def shape_Check.d (a0 : Int) (K : Int → Prop) : Prop :=
  br (ltI 3 a0) (K 2) (K 0)
noncomputable def shape_Check : Int → (Int → Prop) → Prop := Classical.choose (⟨shape_Check.d, rfl⟩ : ∃ f, f = shape_Check.d)
theorem shape_Check.is : shape_Check = shape_Check.d := Classical.choose_spec (⟨shape_Check.d, rfl⟩ : ∃ f, f = shape_Check.d)
def shape_numbers.d (a0 : Int) (K : Int → Int → Int → List UInt8 → Prop) : Prop :=
  br (leI 4 (cvI IntKind.i64 a0)) (K 0 0 0 []) (br (eqI a0 0) (br (eqI a0 0) (br (eqI a0 0) (br (eqI a0 0) (K 32 24 127 [115]) (br (eqI a0 1) (K 32 24 127 [100]) (br (eqI a0 2) (K 32 24 127 [104]) (br (eqI a0 3) (K 32 24 127 [113]) False)))) (br (eqI a0 1) (br (eqI a0 0) (K 32 24 1023 [115]) (br (eqI a0 1) (K 32 24 1023 [100]) (br (eqI a0 2) (K 32 24 1023 [104]) (br (eqI a0 3) (K 32 24 1023 [113]) False)))) (br (eqI a0 2) (br (eqI a0 0) (K 32 24 15 [115]) (br (eqI a0 1) (K 32 24 15 [100]) (br (eqI a0 2) (K 32 24 15 [104]) (br (eqI a0 3) (K 32 24 15 [113]) False)))) (br (eqI a0 3) (br (eqI a0 0) (K 32 24 16383 [115]) (br (eqI a0 1) (K 32 24 16383 [100]) (br (eqI a0 2) (K 32 24 16383 [104]) (br (eqI a0 3) (K 32 24 16383 [113]) False)))) False)))) (br (eqI a0 1) (br (eqI a0 0) (br (eqI a0 0) (K 32 53 127 [115]) (br (eqI a0 1) (K 32 53 127 [100]) (br (eqI a0 2) (K 32 53 127 [104]) (br (eqI a0 3) (K 32 53 127 [113]) False)))) (br (eqI a0 1) (br (eqI a0 0) (K 32 53 1023 [115]) (br (eqI a0 1) (K 32 53 1023 [100]) (br (eqI a0 2) (K 32 53 1023 [104]) (br (eqI a0 3) (K 32 53 1023 [113]) False)))) (br (eqI a0 2) (br (eqI a0 0) (K 32 53 15 [115]) (br (eqI a0 1) (K 32 53 15 [100]) (br (eqI a0 2) (K 32 53 15 [104]) (br (eqI a0 3) (K 32 53 15 [113]) False)))) (br (eqI a0 3) (br (eqI a0 0) (K 32 53 16383 [115]) (br (eqI a0 1) (K 32 53 16383 [100]) (br (eqI a0 2) (K 32 53 16383 [104]) (br (eqI a0 3) (K 32 53 16383 [113]) False)))) False)))) (br (eqI a0 2) (br (eqI a0 0) (br (eqI a0 0) (K 32 11 127 [115]) (br (eqI a0 1) (K 32 11 127 [100]) (br (eqI a0 2) (K 32 11 127 [104]) (br (eqI a0 3) (K 32 11 127 [113]) False)))) (br (eqI a0 1) (br (eqI a0 0) (K 32 11 1023 [115]) (br (eqI a0 1) (K 32 11 1023 [100]) (br (eqI a0 2) (K 32 11 1023 [104]) (br (eqI a0 3) (K 32 11 1023 [113]) False)))) (br (eqI a0 2) (br (eqI a0 0) (K 32 11 15 [115]) (br (eqI a0 1) (K 32 11 15 [100]) (br (eqI a0 2) (K 32 11 15 [104]) (br (eqI a0 3) (K 32 11 15 [113]) False)))) (br (eqI a0 3) (br (eqI a0 0) (K 32 11 16383 [115]) (br (eqI a0 1) (K 32 11 16383 [100]) (br (eqI a0 2) (K 32 11 16383 [104]) (br (eqI a0 3) (K 32 11 16383 [113]) False)))) False)))) (br (eqI a0 3) (br (eqI a0 0) (br (eqI a0 0) (K 32 113 127 [115]) (br (eqI a0 1) (K 32 113 127 [100]) (br (eqI a0 2) (K 32 113 127 [104]) (br (eqI a0 3) (K 32 113 127 [113]) False)))) (br (eqI a0 1) (br (eqI a0 0) (K 32 113 1023 [115]) (br (eqI a0 1) (K 32 113 1023 [100]) (br (eqI a0 2) (K 32 113 1023 [104]) (br (eqI a0 3) (K 32 113 1023 [113]) False)))) (br (eqI a0 2) (br (eqI a0 0) (K 32 113 15 [115]) (br (eqI a0 1) (K 32 113 15 [100]) (br (eqI a0 2) (K 32 113 15 [104]) (br (eqI a0 3) (K 32 113 15 [113]) False)))) (br (eqI a0 3) (br (eqI a0 0) (K 32 113 16383 [115]) (br (eqI a0 1) (K 32 113 16383 [100]) (br (eqI a0 2) (K 32 113 16383 [104]) (br (eqI a0 3) (K 32 113 16383 [113]) False)))) False)))) False)))) (br (eqI a0 1) (br (eqI a0 0) (br (eqI a0 0) (br (eqI a0 0) (K 64 24 127 [115]) (br (eqI a0 1) (K 64 24 127 [100]) (br (eqI a0 2) (K 64 24 127 [104]) (br (eqI a0 3) (K 64 24 127 [113]) False)))) (br (eqI a0 1) (br (eqI a0 0) (K 64 24 1023 [115]) (br (eqI a0 1) (K 64 24 1023 [100]) (br (eqI a0 2) (K 64 24 1023 [104]) (br (eqI a0 3) (K 64 24 1023 [113]) False)))) (br (eqI a0 2) (br (eqI a0 0) (K 64 24 15 [115]) (br (eqI a0 1) (K 64 24 15 [100]) (br (eqI a0 2) (K 64 24 15 [104]) (br (eqI a0 3) (K 64 24 15 [113]) False)))) (br (eqI a0 3) (br (eqI a0 0) (K 64 24 16383 [115]) (br (eqI a0 1) (K 64 24 16383 [100]) (br (eqI a0 2) (K 64 24 16383 [104]) (br (eqI a0 3) (K 64 24 16383 [113]) False)))) False)))) (br (eqI a0 1) (br (eqI a0 0) (br (eqI a0 0) (K 64 53 127 [115]) (br (eqI a0 1) (K 64 53 127 [100]) (br (eqI a0 2) (K 64 53 127 [104]) (br (eqI a0 3) (K 64 53 127 [113]) False)))) (br (eqI a0 1) (br (eqI a0 0) (K 64 53 1023 [115]) (br (eqI a0 1) (K 64 53 1023 [100]) (br (eqI a0 2) (K 64 53 1023 [104]) (br (eqI a0 3) (K 64 53 1023 [113]) False)))) (br (eqI a0 2) (br (eqI a0 0) (K 64 53 15 [115]) (br (eqI a0 1) (K 64 53 15 [100]) (br (eqI a0 2) (K 64 53 15 [104]) (br (eqI a0 3) (K 64 53 15 [113]) False)))) (br (eqI a0 3) (br (eqI a0 0) (K 64 53 16383 [115]) (br (eqI a0 1) (K 64 53 16383 [100]) (br (eqI a0 2) (K 64 53 16383 [104]) (br (eqI a0 3) (K 64 53 16383 [113]) False)))) False)))) (br (eqI a0 2) (br (eqI a0 0) (br (eqI a0 0) (K 64 11 127 [115]) (br (eqI a0 1) (K 64 11 127 [100]) (br (eqI a0 2) (K 64 11 127 [104]) (br (eqI a0 3) (K 64 11 127 [113]) False)))) (br (eqI a0 1) (br (eqI a0 0) (K 64 11 1023 [115]) (br (eqI a0 1) (K 64 11 1023 [100]) (br (eqI a0 2) (K 64 11 1023 [104]) (br (eqI a0 3) (K 64 11 1023 [113]) False)))) (br (eqI a0 2) (br (eqI a0 0) (K 64 11 15 [115]) (br (eqI a0 1) (K 64 11 15 [100]) (br (eqI a0 2) (K 64 11 15 [104]) (br (eqI a0 3) (K 64 11 15 [113]) False)))) (br (eqI a0 3) (br (eqI a0 0) (K 64 11 16383 [115]) (br (eqI a0 1) (K 64 11 16383 [100]) (br (eqI a0 2) (K 64 11 16383 [104]) (br (eqI a0 3) (K 64 11 16383 [113]) False)))) False)))) (br (eqI a0 3) (br (eqI a0 0) (br (eqI a0 0) (K 64 113 127 [115]) (br (eqI a0 1) (K 64 113 127 [100]) (br (eqI a0 2) (K 64 113 127 [104]) (br (eqI a0 3) (K 64 113 127 [113]) False)))) (br (eqI a0 1) (br (eqI a0 0) (K 64 113 1023 [115]) (br (eqI a0 1) (K 64 113 1023 [100]) (br (eqI a0 2) (K 64 113 1023 [104]) (br (eqI a0 3) (K 64 113 1023 [113]) False)))) (br (eqI a0 2) (br (eqI a0 0) (K 64 113 15 [115]) (br (eqI a0 1) (K 64 113 15 [100]) (br (eqI a0 2) (K 64 113 15 [104]) (br (eqI a0 3) (K 64 113 15 [113]) False)))) (br (eqI a0 3) (br (eqI a0 0) (K 64 113 16383 [115]) (br (eqI a0 1) (K 64 113 16383 [100]) (br (eqI a0 2) (K 64 113 16383 [104]) (br (eqI a0 3) (K 64 113 16383 [113]) False)))) False)))) False)))) (br (eqI a0 2) (br (eqI a0 0) (br (eqI a0 0) (br (eqI a0 0) (K 16 24 127 [115]) (br (eqI a0 1) (K 16 24 127 [100]) (br (eqI a0 2) (K 16 24 127 [104]) (br (eqI a0 3) (K 16 24 127 [113]) False)))) (br (eqI a0 1) (br (eqI a0 0) (K 16 24 1023 [115]) (br (eqI a0 1) (K 16 24 1023 [100]) (br (eqI a0 2) (K 16 24 1023 [104]) (br (eqI a0 3) (K 16 24 1023 [113]) False)))) (br (eqI a0 2) (br (eqI a0 0) (K 16 24 15 [115]) (br (eqI a0 1) (K 16 24 15 [100]) (br (eqI a0 2) (K 16 24 15 [104]) (br (eqI a0 3) (K 16 24 15 [113]) False)))) (br (eqI a0 3) (br (eqI a0 0) (K 16 24 16383 [115]) (br (eqI a0 1) (K 16 24 16383 [100]) (br (eqI a0 2) (K 16 24 16383 [104]) (br (eqI a0 3) (K 16 24 16383 [113]) False)))) False)))) (br (eqI a0 1) (br (eqI a0 0) (br (eqI a0 0) (K 16 53 127 [115]) (br (eqI a0 1) (K 16 53 127 [100]) (br (eqI a0 2) (K 16 53 127 [104]) (br (eqI a0 3) (K 16 53 127 [113]) False)))) (br (eqI a0 1) (br (eqI a0 0) (K 16 53 1023 [115]) (br (eqI a0 1) (K 16 53 1023 [100]) (br (eqI a0 2) (K 16 53 1023 [104]) (br (eqI a0 3) (K 16 53 1023 [113]) False)))) (br (eqI a0 2) (br (eqI a0 0) (K 16 53 15 [115]) (br (eqI a0 1) (K 16 53 15 [100]) (br (eqI a0 2) (K 16 53 15 [104]) (br (eqI a0 3) (K 16 53 15 [113]) False)))) (br (eqI a0 3) (br (eqI a0 0) (K 16 53 16383 [115]) (br (eqI a0 1) (K 16 53 16383 [100]) (br (eqI a0 2) (K 16 53 16383 [104]) (br (eqI a0 3) (K 16 53 16383 [113]) False)))) False)))) (br (eqI a0 2) (br (eqI a0 0) (br (eqI a0 0) (K 16 11 127 [115]) (br (eqI a0 1) (K 16 11 127 [100]) (br (eqI a0 2) (K 16 11 127 [104]) (br (eqI a0 3) (K 16 11 127 [113]) False)))) (br (eqI a0 1) (br (eqI a0 0) (K 16 11 1023 [115]) (br (eqI a0 1) (K 16 11 1023 [100]) (br (eqI a0 2) (K 16 11 1023 [104]) (br (eqI a0 3) (K 16 11 1023 [113]) False)))) (br (eqI a0 2) (br (eqI a0 0) (K 16 11 15 [115]) (br (eqI a0 1) (K 16 11 15 [100]) (br (eqI a0 2) (K 16 11 15 [104]) (br (eqI a0 3) (K 16 11 15 [113]) False)))) (br (eqI a0 3) (br (eqI a0 0) (K 16 11 16383 [115]) (br (eqI a0 1) (K 16 11 16383 [100]) (br (eqI a0 2) (K 16 11 16383 [104]) (br (eqI a0 3) (K 16 11 16383 [113]) False)))) False)))) (br (eqI a0 3) (br (eqI a0 0) (br (eqI a0 0) (K 16 113 127 [115]) (br (eqI a0 1) (K 16 113 127 [100]) (br (eqI a0 2) (K 16 113 127 [104]) (br (eqI a0 3) (K 16 113 127 [113]) False)))) (br (eqI a0 1) (br (eqI a0 0) (K 16 113 1023 [115]) (br (eqI a0 1) (K 16 113 1023 [100]) (br (eqI a0 2) (K 16 113 1023 [104]) (br (eqI a0 3) (K 16 113 1023 [113]) False)))) (br (eqI a0 2) (br (eqI a0 0) (K 16 113 15 [115]) (br (eqI a0 1) (K 16 113 15 [100]) (br (eqI a0 2) (K 16 113 15 [104]) (br (eqI a0 3) (K 16 113 15 [113]) False)))) (br (eqI a0 3) (br (eqI a0 0) (K 16 113 16383 [115]) (br (eqI a0 1) (K 16 113 16383 [100]) (br (eqI a0 2) (K 16 113 16383 [104]) (br (eqI a0 3) (K 16 113 16383 [113]) False)))) False)))) False)))) (br (eqI a0 3) (br (eqI a0 0) (br (eqI a0 0) (br (eqI a0 0) (K 128 24 127 [115]) (br (eqI a0 1) (K 128 24 127 [100]) (br (eqI a0 2) (K 128 24 127 [104]) (br (eqI a0 3) (K 128 24 127 [113]) False)))) (br (eqI a0 1) (br (eqI a0 0) (K 128 24 1023 [115]) (br (eqI a0 1) (K 128 24 1023 [100]) (br (eqI a0 2) (K 128 24 1023 [104]) (br (eqI a0 3) (K 128 24 1023 [113]) False)))) (br (eqI a0 2) (br (eqI a0 0) (K 128 24 15 [115]) (br (eqI a0 1) (K 128 24 15 [100]) (br (eqI a0 2) (K 128 24 15 [104]) (br (eqI a0 3) (K 128 24 15 [113]) False)))) (br (eqI a0 3) (br (eqI a0 0) (K 128 24 16383 [115]) (br (eqI a0 1) (K 128 24 16383 [100]) (br (eqI a0 2) (K 128 24 16383 [104]) (br (eqI a0 3) (K 128 24 16383 [113]) False)))) False)))) (br (eqI a0 1) (br (eqI a0 0) (br (eqI a0 0) (K 128 53 127 [115]) (br (eqI a0 1) (K 128 53 127 [100]) (br (eqI a0 2) (K 128 53 127 [104]) (br (eqI a0 3) (K 128 53 127 [113]) False)))) (br (eqI a0 1) (br (eqI a0 0) (K 128 53 1023 [115]) (br (eqI a0 1) (K 128 53 1023 [100]) (br (eqI a0 2) (K 128 53 1023 [104]) (br (eqI a0 3) (K 128 53 1023 [113]) False)))) (br (eqI a0 2) (br (eqI a0 0) (K 128 53 15 [115]) (br (eqI a0 1) (K 128 53 15 [100]) (br (eqI a0 2) (K 128 53 15 [104]) (br (eqI a0 3) (K 128 53 15 [113]) False)))) (br (eqI a0 3) (br (eqI a0 0) (K 128 53 16383 [115]) (br (eqI a0 1) (K 128 53 16383 [100]) (br (eqI a0 2) (K 128 53 16383 [104]) (br (eqI a0 3) (K 128 53 16383 [113]) False)))) False)))) (br (eqI a0 2) (br (eqI a0 0) (br (eqI a0 0) (K 128 11 127 [115]) (br (eqI a0 1) (K 128 11 127 [100]) (br (eqI a0 2) (K 128 11 127 [104]) (br (eqI a0 3) (K 128 11 127 [113]) False)))) (br (eqI a0 1) (br (eqI a0 0) (K 128 11 1023 [115]) (br (eqI a0 1) (K 128 11 1023 [100]) (br (eqI a0 2) (K 128 11 1023 [104]) (br (eqI a0 3) (K 128 11 1023 [113]) False)))) (br (eqI a0 2) (br (eqI a0 0) (K 128 11 15 [115]) (br (eqI a0 1) (K 128 11 15 [100]) (br (eqI a0 2) (K 128 11 15 [104]) (br (eqI a0 3) (K 128 11 15 [113]) False)))) (br (eqI a0 3) (br (eqI a0 0) (K 128 11 16383 [115]) (br (eqI a0 1) (K 128 11 16383 [100]) (br (eqI a0 2) (K 128 11 16383 [104]) (br (eqI a0 3) (K 128 11 16383 [113]) False)))) False)))) (br (eqI a0 3) (br (eqI a0 0) (br (eqI a0 0) (K 128 113 127 [115]) (br (eqI a0 1) (K 128 113 127 [100]) (br (eqI a0 2) (K 128 113 127 [104]) (br (eqI a0 3) (K 128 113 127 [113]) False)))) (br (eqI a0 1) (br (eqI a0 0) (K 128 113 1023 [115]) (br (eqI a0 1) (K 128 113 1023 [100]) (br (eqI a0 2) (K 128 113 1023 [104]) (br (eqI a0 3) (K 128 113 1023 [113]) False)))) (br (eqI a0 2) (br (eqI a0 0) (K 128 113 15 [115]) (br (eqI a0 1) (K 128 113 15 [100]) (br (eqI a0 2) (K 128 113 15 [104]) (br (eqI a0 3) (K 128 113 15 [113]) False)))) (br (eqI a0 3) (br (eqI a0 0) (K 128 113 16383 [115]) (br (eqI a0 1) (K 128 113 16383 [100]) (br (eqI a0 2) (K 128 113 16383 [104]) (br (eqI a0 3) (K 128 113 16383 [113]) False)))) False)))) False)))) False))))
noncomputable def shape_numbers : Int → (Int → Int → Int → List UInt8 → Prop) → Prop := Classical.choose (⟨shape_numbers.d, rfl⟩ : ∃ f, f = shape_numbers.d)
theorem shape_numbers.is : shape_numbers = shape_numbers.d := Classical.choose_spec (⟨shape_numbers.d, rfl⟩ : ∃ f, f = shape_numbers.d)
def shape_Emax.d (a0 : Int) (K : Int → Prop) : Prop :=
  shape_numbers a0 fun y0 y1 y2 y3 => K y2
noncomputable def shape_Emax : Int → (Int → Prop) → Prop := Classical.choose (⟨shape_Emax.d, rfl⟩ : ∃ f, f = shape_Emax.d)
theorem shape_Emax.is : shape_Emax = shape_Emax.d := Classical.choose_spec (⟨shape_Emax.d, rfl⟩ : ∃ f, f = shape_Emax.d)
def shape_Width.d (a0 : Int) (K : Int → Prop) : Prop :=
  shape_numbers a0 fun y0 y1 y2 y3 => K y0
noncomputable def shape_Width : Int → (Int → Prop) → Prop := Classical.choose (⟨shape_Width.d, rfl⟩ : ∃ f, f = shape_Width.d)
theorem shape_Width.is : shape_Width = shape_Width.d := Classical.choose_spec (⟨shape_Width.d, rfl⟩ : ∃ f, f = shape_Width.d)
def shape_Fits.d (a0 : Int) (a1_0 : Int) (a1_1 : Int) (K : Bool → Prop) : Prop :=
  br (eqI a0 3) (K true) (br (eqI a0 1) (K (eqI a1_0 0)) (br (eqI a0 0) (br (eqI a0 0) (br (eqI a1_0 0) (shape_Width a0 fun y0 => gd (!ltI (cvI IntKind.u64 y0) 0) (K (eqI (shrI IntKind.u64 a1_1 (cvI IntKind.u64 y0)) 0))) (K false)) (K false)) (br (eqI a0 2) (br (eqI a1_0 0) (shape_Width a0 fun y0 => gd (!ltI (cvI IntKind.u64 y0) 0) (K (eqI (shrI IntKind.u64 a1_1 (cvI IntKind.u64 y0)) 0))) (K false)) (K false))))
noncomputable def shape_Fits : Int → Int → Int → (Bool → Prop) → Prop := Classical.choose (⟨shape_Fits.d, rfl⟩ : ∃ f, f = shape_Fits.d)
theorem shape_Fits.is : shape_Fits = shape_Fits.d := Classical.choose_spec (⟨shape_Fits.d, rfl⟩ : ∃ f, f = shape_Fits.d)
def shape_Precision.d (a0 : Int) (K : Int → Prop) : Prop :=
  shape_numbers a0 fun y0 y1 y2 y3 => K y1
noncomputable def shape_Precision : Int → (Int → Prop) → Prop := Classical.choose (⟨shape_Precision.d, rfl⟩ : ∃ f, f = shape_Precision.d)
theorem shape_Precision.is : shape_Precision = shape_Precision.d := Classical.choose_spec (⟨shape_Precision.d, rfl⟩ : ∃ f, f = shape_Precision.d)
def shape_at.d (a0 : Int) (a1 : Int) (K : Int → Int → Prop) : Prop :=
  br (leI 64 a1) (gd (!ltI (cvI IntKind.u64 (subI IntKind.i64 a1 64)) 0) (K (shlI IntKind.u64 a0 (cvI IntKind.u64 (subI IntKind.i64 a1 64))) 0)) (gd (!ltI (cvI IntKind.u64 a1) 0) (br (ltI 0 a1) (gd (!ltI (cvI IntKind.u64 (subI IntKind.i64 64 a1)) 0) (K (shrI IntKind.u64 a0 (cvI IntKind.u64 (subI IntKind.i64 64 a1))) (shlI IntKind.u64 a0 (cvI IntKind.u64 a1)))) (K 0 (shlI IntKind.u64 a0 (cvI IntKind.u64 a1)))))
noncomputable def shape_at : Int → Int → (Int → Int → Prop) → Prop := Classical.choose (⟨shape_at.d, rfl⟩ : ∃ f, f = shape_at.d)
theorem shape_at.is : shape_at = shape_at.d := Classical.choose_spec (⟨shape_at.d, rfl⟩ : ∃ f, f = shape_at.d)
def shape_with.d (a0 : Int) (a1_0 : Int) (a1_1 : Int) (a2 : Bool) (K : Int → Int → Prop) : Prop :=
  shape_Check a0 fun y0 => br (!eqI y0 0) (K 0 0) (br a2 (shape_Width a0 fun y0 => shape_at 1 (subI IntKind.i64 y0 1) fun y0 y1 => K (orI IntKind.u64 a1_0 y0) (orI IntKind.u64 a1_1 y1)) (K a1_0 a1_1))
noncomputable def shape_with : Int → Int → Int → Bool → (Int → Int → Prop) → Prop := Classical.choose (⟨shape_with.d, rfl⟩ : ∃ f, f = shape_with.d)
theorem shape_with.is : shape_with = shape_with.d := Classical.choose_spec (⟨shape_with.d, rfl⟩ : ∃ f, f = shape_with.d)
def shape_Zero.d (a0 : Int) (a1 : Bool) (K : Int → Int → Prop) : Prop :=
  shape_with a0 0 0 a1 fun y0 y1 => K y0 y1
noncomputable def shape_Zero : Int → Bool → (Int → Int → Prop) → Prop := Classical.choose (⟨shape_Zero.d, rfl⟩ : ∃ f, f = shape_Zero.d)
theorem shape_Zero.is : shape_Zero = shape_Zero.d := Classical.choose_spec (⟨shape_Zero.d, rfl⟩ : ∃ f, f = shape_Zero.d)
end Go.Ev.S

/- The functions as the evaluator has them: what each comes to. -/
set_option maxRecDepth 100000
set_option linter.unusedVariables false
set_option linter.unusedSimpArgs false
namespace Go.Ev.S
open Go Go.Ev
end Go.Ev.S

/- The functions as the evaluator has them: what each comes to. -/
set_option maxRecDepth 100000
set_option linter.unusedVariables false
set_option linter.unusedSimpArgs false
namespace Go.Ev.S
open Go Go.Ev
end Go.Ev.S

/- The functions as the evaluator has them: what each comes to. -/
set_option maxRecDepth 100000
set_option linter.unusedVariables false
set_option linter.unusedSimpArgs false
namespace Go.Ev.S
open Go Go.Ev
def kind_fields.d (a0 : Int) (a1_0 : Int) (a1_1 : Int) (K : Bool → Int → (Nat → Int) → Prop) : Prop :=
  wide_OfBits a1_0 a1_1 fun y0 => shape_Precision a0 fun y0_1 => shape_Width a0 fun y0_2 => wide_Mask (subI IntKind.i64 y0_1 1) fun y0_3 => wide_And y0 y0_3 fun y0_4 => wide_Right y0 (subI IntKind.i64 y0_1 1) fun y0_5 y1 => wide_Bit y0 (subI IntKind.i64 y0_2 1) fun y0 => gd (!ltI (cvI IntKind.u64 (subI IntKind.i64 y0_2 y0_1)) 0) (K y0 (andI IntKind.i64 (cvI IntKind.i64 (y0_5 0)) (subI IntKind.i64 (shlI IntKind.i64 1 (cvI IntKind.u64 (subI IntKind.i64 y0_2 y0_1))) 1)) y0_4)
noncomputable def kind_fields : Int → Int → Int → (Bool → Int → (Nat → Int) → Prop) → Prop := Classical.choose (⟨kind_fields.d, rfl⟩ : ∃ f, f = kind_fields.d)
theorem kind_fields.is : kind_fields = kind_fields.d := Classical.choose_spec (⟨kind_fields.d, rfl⟩ : ∃ f, f = kind_fields.d)
def kind_class.d (a0 : Int) (a1_0 : Int) (a1_1 : Int) (K : Int → Prop) : Prop :=
  kind_fields a0 a1_0 a1_1 fun y0 y1 y2 => shape_Emax a0 fun y0_1 => br (eqI y1 (addI IntKind.i64 (mulI IntKind.i64 2 y0_1) 1)) (br (!eqN 6 y2 fun x => 0) (shape_Precision a0 fun y0 => wide_Bit y2 (subI IntKind.i64 y0 2) fun y0 => br y0 (K 9) (K 8)) (br (!eqI y1 0) (br (eqN 6 y2 fun x => 0) (shape_Emax a0 fun y0_2 => br (eqI y1 (addI IntKind.i64 (mulI IntKind.i64 2 y0_2) 1)) (br y0 (K 0) (K 7)) (br (!eqI y1 0) (br y0 (K 1) (K 6)) (br (!eqN 6 y2 fun x => 0) (br y0 (K 2) (K 5)) (br y0 (K 3) (K 4))))) (br (!eqI y1 0) (br y0 (K 1) (K 6)) (br (!eqN 6 y2 fun x => 0) (br y0 (K 2) (K 5)) (br y0 (K 3) (K 4))))) (br (!eqI y1 0) (br y0 (K 1) (K 6)) (br (!eqN 6 y2 fun x => 0) (br y0 (K 2) (K 5)) (br y0 (K 3) (K 4)))))) (br (!eqI y1 0) (br (eqN 6 y2 fun x => 0) (shape_Emax a0 fun y0_2 => br (eqI y1 (addI IntKind.i64 (mulI IntKind.i64 2 y0_2) 1)) (br y0 (K 0) (K 7)) (br (!eqI y1 0) (br y0 (K 1) (K 6)) (br (!eqN 6 y2 fun x => 0) (br y0 (K 2) (K 5)) (br y0 (K 3) (K 4))))) (br (!eqI y1 0) (br y0 (K 1) (K 6)) (br (!eqN 6 y2 fun x => 0) (br y0 (K 2) (K 5)) (br y0 (K 3) (K 4))))) (br (!eqI y1 0) (br y0 (K 1) (K 6)) (br (!eqN 6 y2 fun x => 0) (br y0 (K 2) (K 5)) (br y0 (K 3) (K 4)))))
noncomputable def kind_class : Int → Int → Int → (Int → Prop) → Prop := Classical.choose (⟨kind_class.d, rfl⟩ : ∃ f, f = kind_class.d)
theorem kind_class.is : kind_class = kind_class.d := Classical.choose_spec (⟨kind_class.d, rfl⟩ : ∃ f, f = kind_class.d)
def kind_Class.d (a0 : Int) (a1_0 : Int) (a1_1 : Int) (K : Int → Int → Prop) : Prop :=
  shape_Fits a0 a1_0 a1_1 fun y0 => br (!y0) (K 0 2) (kind_class a0 a1_0 a1_1 fun y0 => K y0 0)
noncomputable def kind_Class : Int → Int → Int → (Int → Int → Prop) → Prop := Classical.choose (⟨kind_Class.d, rfl⟩ : ∃ f, f = kind_Class.d)
theorem kind_Class.is : kind_Class = kind_Class.d := Classical.choose_spec (⟨kind_Class.d, rfl⟩ : ∃ f, f = kind_Class.d)
def kind_Sign.d (a0 : Int) (a1_0 : Int) (a1_1 : Int) (K : Bool → Prop) : Prop :=
  shape_Fits a0 a1_0 a1_1 fun y0 => br y0 (wide_OfBits a1_0 a1_1 fun y0 => shape_Width a0 fun y0_1 => wide_Bit y0 (subI IntKind.i64 y0_1 1) fun y0 => K y0) (K false)
noncomputable def kind_Sign : Int → Int → Int → (Bool → Prop) → Prop := Classical.choose (⟨kind_Sign.d, rfl⟩ : ∃ f, f = kind_Sign.d)
theorem kind_Sign.is : kind_Sign = kind_Sign.d := Classical.choose_spec (⟨kind_Sign.d, rfl⟩ : ∃ f, f = kind_Sign.d)
end Go.Ev.S

/- The functions as the evaluator has them: what each comes to. -/
set_option maxRecDepth 100000
set_option linter.unusedVariables false
set_option linter.unusedSimpArgs false
namespace Go.Ev.S
open Go Go.Ev
def order_fits.l2.step (again : Int → Int → Int → Int → Int → Int → Int → Prop) (k0 : Bool → Int → Int → Int → Int → Prop) (k1 : Int → Int → Int → Int → Int → Prop) (x0 : Int) (x1 : Int) (x2 : Int) (x3 : Int) (x4 : Int) (x5 : Int) (x6 : Int) : Prop :=
  br (ltI x2 x1) (gd (leI 0 x2 && ltI x2 2) (br (eqI x2 0) (shape_Fits x0 x3 x4 fun y0 => br (!y0) (k0 false x3 x4 x5 x6) (again x0 x1 (addI IntKind.i64 x2 1) x3 x4 x5 x6)) (br (eqI x2 1) (shape_Fits x0 x5 x6 fun y0 => br (!y0) (k0 false x3 x4 x5 x6) (again x0 x1 (addI IntKind.i64 x2 1) x3 x4 x5 x6)) False))) (k1 x0 x3 x4 x5 x6)
def order_fits.l2 (k0 : Bool → Int → Int → Int → Int → Prop) (k1 : Int → Int → Int → Int → Int → Prop) : Nat → Int → Int → Int → Int → Int → Int → Int → Prop
  | 0 => fun _ _ _ _ _ _ _ => False
  | n + 1 => order_fits.l2.step (order_fits.l2 k0 k1 n) k0 k1
def order_fits.l2.entry : LoopEntry := ⟨LV.mk 1 [(0, 1)] 16 1 false, 1, 21, fun vs H K => match vs, H with
  | [EV.int IntKind.u8 x0, EV.slice 0 0 2 (some 2) 2, EV.int IntKind.i64 x1, EV.int IntKind.i64 x2], [some (EV.agg [EV.agg [EV.int IntKind.u64 x3, EV.int IntKind.u64 x4], EV.agg [EV.int IntKind.u64 x5, EV.int IntKind.u64 x6]])] => ∃ n, order_fits.l2 (fun y0 y1 y2 y3 y4 => K .ret [EV.bool y0] [some (EV.agg [EV.agg [EV.int IntKind.u64 y1, EV.int IntKind.u64 y2], EV.agg [EV.int IntKind.u64 y3, EV.int IntKind.u64 y4]])]) (fun y0 y1 y2 y3 y4 => K (.exit 0) [EV.int IntKind.u8 y0] [some (EV.agg [EV.agg [EV.int IntKind.u64 y1, EV.int IntKind.u64 y2], EV.agg [EV.int IntKind.u64 y3, EV.int IntKind.u64 y4]])]) n x0 x1 x2 x3 x4 x5 x6
  | _, _ => False⟩
def order_fits.d (a0 : Int) (a1_0_0 : Int) (a1_0_1 : Int) (a1_1_0 : Int) (a1_1_1 : Int) (K : Bool → Int → Int → Int → Int → Prop) : Prop :=
  ∃ n, order_fits.l2 (fun y0 y1 y2 y3 y4 => K y0 y1 y2 y3 y4) (fun y0 y1 y2 y3 y4 => shape_Check y0 fun y0 => K (eqI y0 0) y1 y2 y3 y4) n a0 2 0 a1_0_0 a1_0_1 a1_1_0 a1_1_1
noncomputable def order_fits : Int → Int → Int → Int → Int → (Bool → Int → Int → Int → Int → Prop) → Prop := Classical.choose (⟨order_fits.d, rfl⟩ : ∃ f, f = order_fits.d)
theorem order_fits.is : order_fits = order_fits.d := Classical.choose_spec (⟨order_fits.d, rfl⟩ : ∃ f, f = order_fits.d)
def order_nan.d (a0 : Int) (a1_0 : Int) (a1_1 : Int) (K : Bool → Prop) : Prop :=
  kind_Class a0 a1_0 a1_1 fun y0 y1 => K (leI 8 y0)
noncomputable def order_nan : Int → Int → Int → (Bool → Prop) → Prop := Classical.choose (⟨order_nan.d, rfl⟩ : ∃ f, f = order_nan.d)
theorem order_nan.is : order_nan = order_nan.d := Classical.choose_spec (⟨order_nan.d, rfl⟩ : ∃ f, f = order_nan.d)
def order_key.d (a0 : Int) (a1_0 : Int) (a1_1 : Int) (K : Int → Int → Prop) : Prop :=
  kind_Sign a0 a1_0 a1_1 fun y0 => br y0 (K (notI IntKind.u64 a1_0) (notI IntKind.u64 a1_1)) (shape_Zero a0 true fun y0 y1 => K (orI IntKind.u64 (orI IntKind.u64 a1_0 y0) 9223372036854775808) (orI IntKind.u64 a1_1 y1))
noncomputable def order_key : Int → Int → Int → (Int → Int → Prop) → Prop := Classical.choose (⟨order_key.d, rfl⟩ : ∃ f, f = order_key.d)
theorem order_key.is : order_key = order_key.d := Classical.choose_spec (⟨order_key.d, rfl⟩ : ∃ f, f = order_key.d)
def order_total.d (a0 : Int) (a1_0 : Int) (a1_1 : Int) (a2_0 : Int) (a2_1 : Int) (K : Int → Prop) : Prop :=
  kind_Sign a0 a1_0 a1_1 fun y0 => kind_Sign a0 a2_0 a2_1 fun y0_1 => br (!beqB y0 y0_1) (br y0 (K (-1)) (br (!beqB y0 y0_1) (K 1) (order_key a0 a1_0 a1_1 fun y0 y1 => order_key a0 a2_0 a2_1 fun y0_2 y1_1 => br (ltI y0 y0_2) (K (-1)) (br (eqI y0 y0_2) (br (ltI y1 y1_1) (K (-1)) (br (eqI y0 y0_2 && eqI y1 y1_1) (K 0) (K 1))) (br (eqI y0 y0_2 && eqI y1 y1_1) (K 0) (K 1)))))) (br (!beqB y0 y0_1) (K 1) (order_key a0 a1_0 a1_1 fun y0 y1 => order_key a0 a2_0 a2_1 fun y0_2 y1_1 => br (ltI y0 y0_2) (K (-1)) (br (eqI y0 y0_2) (br (ltI y1 y1_1) (K (-1)) (br (eqI y0 y0_2 && eqI y1 y1_1) (K 0) (K 1))) (br (eqI y0 y0_2 && eqI y1 y1_1) (K 0) (K 1)))))
noncomputable def order_total : Int → Int → Int → Int → Int → (Int → Prop) → Prop := Classical.choose (⟨order_total.d, rfl⟩ : ∃ f, f = order_total.d)
theorem order_total.is : order_total = order_total.d := Classical.choose_spec (⟨order_total.d, rfl⟩ : ∃ f, f = order_total.d)
def order_Compare.d (a0 : Int) (a1_0 : Int) (a1_1 : Int) (a2_0 : Int) (a2_1 : Int) (K : Int → Int → Prop) : Prop :=
  order_fits a0 a1_0 a1_1 a2_0 a2_1 fun y0 y1 y2 y3 y4 => br (!y0) (K 0 2) (order_nan a0 a1_0 a1_1 fun y0 => br y0 (K 0 0) (order_nan a0 a2_0 a2_1 fun y0 => br y0 (K 0 0) (shape_Zero a0 true fun y0 y1 => br (eqI a1_0 y0 && eqI a1_1 y1) (br (eqI a2_0 y0 && eqI a2_1 y1) (order_total a0 0 0 0 0 fun y0 => K (addI IntKind.u8 2 (cvI IntKind.u8 y0)) 0) (order_total a0 0 0 a2_0 a2_1 fun y0 => K (addI IntKind.u8 2 (cvI IntKind.u8 y0)) 0)) (br (eqI a2_0 y0 && eqI a2_1 y1) (order_total a0 a1_0 a1_1 0 0 fun y0 => K (addI IntKind.u8 2 (cvI IntKind.u8 y0)) 0) (order_total a0 a1_0 a1_1 a2_0 a2_1 fun y0 => K (addI IntKind.u8 2 (cvI IntKind.u8 y0)) 0)))))
noncomputable def order_Compare : Int → Int → Int → Int → Int → (Int → Int → Prop) → Prop := Classical.choose (⟨order_Compare.d, rfl⟩ : ∃ f, f = order_Compare.d)
theorem order_Compare.is : order_Compare = order_Compare.d := Classical.choose_spec (⟨order_Compare.d, rfl⟩ : ∃ f, f = order_Compare.d)
def order_loud.l2.step (again : Int → Bool → Int → Int → Int → Int → Int → Int → Prop) (k0 : Int → Int → Int → Int → Int → Prop) (k1 : Int → Int → Int → Int → Prop) (x0 : Int) (x1 : Bool) (x2 : Int) (x3 : Int) (x4 : Int) (x5 : Int) (x6 : Int) (x7 : Int) : Prop :=
  br (ltI x3 x2) (gd (leI 0 x3 && ltI x3 2) (br (eqI x3 0) (kind_Class x0 x4 x5 fun y0 y1 => br (eqI y0 8) (k0 16 x4 x5 x6 x7) (br x1 (br (eqI y0 9) (k0 16 x4 x5 x6 x7) (again x0 x1 x2 (addI IntKind.i64 x3 1) x4 x5 x6 x7)) (again x0 x1 x2 (addI IntKind.i64 x3 1) x4 x5 x6 x7))) (br (eqI x3 1) (kind_Class x0 x6 x7 fun y0 y1 => br (eqI y0 8) (k0 16 x4 x5 x6 x7) (br x1 (br (eqI y0 9) (k0 16 x4 x5 x6 x7) (again x0 x1 x2 (addI IntKind.i64 x3 1) x4 x5 x6 x7)) (again x0 x1 x2 (addI IntKind.i64 x3 1) x4 x5 x6 x7))) False))) (k1 x4 x5 x6 x7)
def order_loud.l2 (k0 : Int → Int → Int → Int → Int → Prop) (k1 : Int → Int → Int → Int → Prop) : Nat → Int → Bool → Int → Int → Int → Int → Int → Int → Prop
  | 0 => fun _ _ _ _ _ _ _ _ => False
  | n + 1 => order_loud.l2.step (order_loud.l2 k0 k1 n) k0 k1
def order_loud.l2.entry : LoopEntry := ⟨LV.mk 0 [(0, 0)] 64 1 false, 1, 33, fun vs H K => match vs, H with
  | [EV.int IntKind.u8 x0, EV.bool x1, EV.slice 0 0 2 (some 2) 2, EV.int IntKind.i64 x2, EV.int IntKind.i64 x3], [some (EV.agg [EV.agg [EV.int IntKind.u64 x4, EV.int IntKind.u64 x5], EV.agg [EV.int IntKind.u64 x6, EV.int IntKind.u64 x7]])] => ∃ n, order_loud.l2 (fun y0 y1 y2 y3 y4 => K .ret [EV.int IntKind.u8 y0] [some (EV.agg [EV.agg [EV.int IntKind.u64 y1, EV.int IntKind.u64 y2], EV.agg [EV.int IntKind.u64 y3, EV.int IntKind.u64 y4]])]) (fun y0 y1 y2 y3 => K (.exit 0) [] [some (EV.agg [EV.agg [EV.int IntKind.u64 y0, EV.int IntKind.u64 y1], EV.agg [EV.int IntKind.u64 y2, EV.int IntKind.u64 y3]])]) n x0 x1 x2 x3 x4 x5 x6 x7
  | _, _ => False⟩
def order_loud.d (a0 : Int) (a1 : Bool) (a2_0_0 : Int) (a2_0_1 : Int) (a2_1_0 : Int) (a2_1_1 : Int) (K : Int → Int → Int → Int → Int → Prop) : Prop :=
  ∃ n, order_loud.l2 (fun y0 y1 y2 y3 y4 => K y0 y1 y2 y3 y4) (fun y0 y1 y2 y3 => K 0 y0 y1 y2 y3) n a0 a1 2 0 a2_0_0 a2_0_1 a2_1_0 a2_1_1
noncomputable def order_loud : Int → Bool → Int → Int → Int → Int → (Int → Int → Int → Int → Int → Prop) → Prop := Classical.choose (⟨order_loud.d, rfl⟩ : ∃ f, f = order_loud.d)
theorem order_loud.is : order_loud = order_loud.d := Classical.choose_spec (⟨order_loud.d, rfl⟩ : ∃ f, f = order_loud.d)
def order_Lt.d (a0 : Int) (a1_0 : Int) (a1_1 : Int) (a2_0 : Int) (a2_1 : Int) (K : Bool → Int → Int → Prop) : Prop :=
  order_Compare a0 a1_0 a1_1 a2_0 a2_1 fun y0 y1 => br (!eqI y1 0) (K false 0 y1) (order_loud a0 true a1_0 a1_1 a2_0 a2_1 fun y0_1 y1 y2 y3 y4 => K (eqI y0 1) y0_1 0)
noncomputable def order_Lt : Int → Int → Int → Int → Int → (Bool → Int → Int → Prop) → Prop := Classical.choose (⟨order_Lt.d, rfl⟩ : ∃ f, f = order_Lt.d)
theorem order_Lt.is : order_Lt = order_Lt.d := Classical.choose_spec (⟨order_Lt.d, rfl⟩ : ∃ f, f = order_Lt.d)
def order_Total.d (a0 : Int) (a1_0 : Int) (a1_1 : Int) (a2_0 : Int) (a2_1 : Int) (K : Int → Int → Prop) : Prop :=
  order_fits a0 a1_0 a1_1 a2_0 a2_1 fun y0 y1 y2 y3 y4 => br (!y0) (K 0 2) (order_total a0 a1_0 a1_1 a2_0 a2_1 fun y0 => K y0 0)
noncomputable def order_Total : Int → Int → Int → Int → Int → (Int → Int → Prop) → Prop := Classical.choose (⟨order_Total.d, rfl⟩ : ∃ f, f = order_Total.d)
theorem order_Total.is : order_Total = order_Total.d := Classical.choose_spec (⟨order_Total.d, rfl⟩ : ∃ f, f = order_Total.d)
end Go.Ev.S

/- The functions as the evaluator has them: what each comes to. -/
set_option maxRecDepth 100000
set_option linter.unusedVariables false
set_option linter.unusedSimpArgs false
namespace Go.Ev.S
open Go Go.Ev
def r01_Bit.d (a0 : Int) (a1 : Int) (K : Bool → Prop) : Prop :=
  br (leI 0 a1) (br (ltI a1 64) (gd (!ltI (cvI IntKind.u64 a1) 0) (K (eqI (andI IntKind.u64 (shrI IntKind.u64 a0 (cvI IntKind.u64 a1)) 1) 1))) (K false)) (K false)
noncomputable def r01_Bit : Int → Int → (Bool → Prop) → Prop := Classical.choose (⟨r01_Bit.d, rfl⟩ : ∃ f, f = r01_Bit.d)
theorem r01_Bit.is : r01_Bit = r01_Bit.d := Classical.choose_spec (⟨r01_Bit.d, rfl⟩ : ∃ f, f = r01_Bit.d)
def r01_Add.l3.step (again : Int → Int → Bool → Int → Int → Prop) (k0 : Bool → Int → Prop) (x0 : Int) (x1 : Int) (x2 : Bool) (x3 : Int) (x4 : Int) : Prop :=
  br (ltI x4 64) (r01_Bit x0 x4 fun y0 => r01_Bit x1 x4 fun y0_1 => br (!beqB (!beqB y0 y0_1) x2) (gd (!ltI (cvI IntKind.u64 x4) 0) (br y0 (br y0_1 (again x0 x1 true (orI IntKind.u64 x3 (shlI IntKind.u64 1 (cvI IntKind.u64 x4))) (addI IntKind.i64 x4 1)) (br y0 (br x2 (again x0 x1 true (orI IntKind.u64 x3 (shlI IntKind.u64 1 (cvI IntKind.u64 x4))) (addI IntKind.i64 x4 1)) (br y0_1 (again x0 x1 x2 (orI IntKind.u64 x3 (shlI IntKind.u64 1 (cvI IntKind.u64 x4))) (addI IntKind.i64 x4 1)) (again x0 x1 false (orI IntKind.u64 x3 (shlI IntKind.u64 1 (cvI IntKind.u64 x4))) (addI IntKind.i64 x4 1)))) (br y0_1 (again x0 x1 x2 (orI IntKind.u64 x3 (shlI IntKind.u64 1 (cvI IntKind.u64 x4))) (addI IntKind.i64 x4 1)) (again x0 x1 false (orI IntKind.u64 x3 (shlI IntKind.u64 1 (cvI IntKind.u64 x4))) (addI IntKind.i64 x4 1))))) (br y0 (br x2 (again x0 x1 true (orI IntKind.u64 x3 (shlI IntKind.u64 1 (cvI IntKind.u64 x4))) (addI IntKind.i64 x4 1)) (br y0_1 (again x0 x1 x2 (orI IntKind.u64 x3 (shlI IntKind.u64 1 (cvI IntKind.u64 x4))) (addI IntKind.i64 x4 1)) (again x0 x1 false (orI IntKind.u64 x3 (shlI IntKind.u64 1 (cvI IntKind.u64 x4))) (addI IntKind.i64 x4 1)))) (br y0_1 (again x0 x1 x2 (orI IntKind.u64 x3 (shlI IntKind.u64 1 (cvI IntKind.u64 x4))) (addI IntKind.i64 x4 1)) (again x0 x1 false (orI IntKind.u64 x3 (shlI IntKind.u64 1 (cvI IntKind.u64 x4))) (addI IntKind.i64 x4 1)))))) (br y0 (br y0_1 (again x0 x1 true x3 (addI IntKind.i64 x4 1)) (br y0 (br x2 (again x0 x1 true x3 (addI IntKind.i64 x4 1)) (br y0_1 (again x0 x1 x2 x3 (addI IntKind.i64 x4 1)) (again x0 x1 false x3 (addI IntKind.i64 x4 1)))) (br y0_1 (again x0 x1 x2 x3 (addI IntKind.i64 x4 1)) (again x0 x1 false x3 (addI IntKind.i64 x4 1))))) (br y0 (br x2 (again x0 x1 true x3 (addI IntKind.i64 x4 1)) (br y0_1 (again x0 x1 x2 x3 (addI IntKind.i64 x4 1)) (again x0 x1 false x3 (addI IntKind.i64 x4 1)))) (br y0_1 (again x0 x1 x2 x3 (addI IntKind.i64 x4 1)) (again x0 x1 false x3 (addI IntKind.i64 x4 1)))))) (k0 x2 x3)
def r01_Add.l3 (k0 : Bool → Int → Prop) : Nat → Int → Int → Bool → Int → Int → Prop
  | 0 => fun _ _ _ _ _ => False
  | n + 1 => r01_Add.l3.step (r01_Add.l3 k0 n) k0
def r01_Add.l3.entry : LoopEntry := ⟨LV.mk 260 [(0, 260)] 192 0 false, 0, 50, fun vs H K => match vs, H with
  | [EV.int IntKind.u64 x0, EV.int IntKind.u64 x1, EV.bool x2, EV.int IntKind.u64 x3, EV.int IntKind.i64 x4], [] => ∃ n, r01_Add.l3 (fun y0 y1 => K (.exit 0) [EV.bool y0, EV.int IntKind.u64 y1] []) n x0 x1 x2 x3 x4
  | _, _ => False⟩
def r01_Add.d (a0 : Int) (a1 : Int) (a2 : Bool) (K : Int → Bool → Prop) : Prop :=
  ∃ n, r01_Add.l3 (fun y0 y1 => K y1 y0) n a0 a1 a2 0 0
noncomputable def r01_Add : Int → Int → Bool → (Int → Bool → Prop) → Prop := Classical.choose (⟨r01_Add.d, rfl⟩ : ∃ f, f = r01_Add.d)
def r01_Len.l3.step (again : Int → Int → Int → Prop) (k0 : Int → Prop) (x0 : Int) (x1 : Int) (x2 : Int) : Prop :=
  br (ltI x2 64) (r01_Bit x0 x2 fun y0 => br y0 (again x0 (addI IntKind.i64 x2 1) (addI IntKind.i64 x2 1)) (again x0 x1 (addI IntKind.i64 x2 1))) (k0 x1)
def r01_Len.l3 (k0 : Int → Prop) : Nat → Int → Int → Int → Prop
  | 0 => fun _ _ _ => False
  | n + 1 => r01_Len.l3.step (r01_Len.l3 k0 n) k0
def r01_Len.l3.entry : LoopEntry := ⟨LV.mk 8 [(0, 8)] 4 0 false, 0, 15, fun vs H K => match vs, H with
  | [EV.int IntKind.u64 x0, EV.int IntKind.i64 x1, EV.int IntKind.i64 x2], [] => ∃ n, r01_Len.l3 (fun y0 => K (.exit 0) [EV.int IntKind.i64 y0] []) n x0 x1 x2
  | _, _ => False⟩
def r01_Len.d (a0 : Int) (K : Int → Prop) : Prop :=
  ∃ n, r01_Len.l3 (fun y0 => K y0) n a0 0 0
noncomputable def r01_Len : Int → (Int → Prop) → Prop := Classical.choose (⟨r01_Len.d, rfl⟩ : ∃ f, f = r01_Len.d)
theorem r01_Len.is : r01_Len = r01_Len.d := Classical.choose_spec (⟨r01_Len.d, rfl⟩ : ∃ f, f = r01_Len.d)
end Go.Ev.S

/- The functions as the evaluator has them: what each comes to. -/
set_option maxRecDepth 100000
set_option linter.unusedVariables false
set_option linter.unusedSimpArgs false
namespace Go.Ev.S
open Go Go.Ev
def r02_Add.l4.step (again : Bool → Int → (Nat → Int) → (Nat → Int) → (Nat → Int) → (Nat → Int) → Prop) (k0 : Bool → (Nat → Int) → (Nat → Int) → Prop) (x0 : Bool) (x1 : Int) (x2 : Nat → Int) (x3 : Nat → Int) (x4 : Nat → Int) (x5 : Nat → Int) : Prop :=
  br (ltI x1 6) (gd (leI 0 x1 && ltI x1 6) (gd (leI 0 x1 && ltI x1 6) (r01_Add (x2 (Int.toNat x1)) (x3 (Int.toNat x1)) x0 fun y0 y1 => gd (leI 0 x1 && ltI x1 6) (again y1 (addI IntKind.i64 x1 1) x2 x3 x4 (upd x5 (Int.toNat x1) y0))))) (k0 x0 x4 x5)
def r02_Add.l4 (k0 : Bool → (Nat → Int) → (Nat → Int) → Prop) : Nat → Bool → Int → (Nat → Int) → (Nat → Int) → (Nat → Int) → (Nat → Int) → Prop
  | 0 => fun _ _ _ _ _ _ => False
  | n + 1 => r02_Add.l4.step (r02_Add.l4 k0 n) k0
def r02_Add.l4.entry : LoopEntry := ⟨LV.mk 208 [(0, 208)] 48 0 false, 0, 32, fun vs H K => match vs, H with
  | [EV.ptr 0 [], EV.ptr 1 [], EV.ptr 2 [], EV.ptr 3 [], EV.bool x0, EV.int IntKind.i64 x1], [some (EV.arr IntKind.u64 6 x2), some (EV.arr IntKind.u64 6 x3), some (EV.arr IntKind.u64 6 x4), some (EV.arr IntKind.u64 6 x5)] => ∃ n, r02_Add.l4 (fun y0 y1 y2 => K (.exit 0) [EV.ptr 0 [], EV.ptr 1 [], EV.bool y0] [some (EV.arr IntKind.u64 6 y1), some (EV.arr IntKind.u64 6 y2)]) n x0 x1 x2 x3 x4 x5
  | _, _ => False⟩
def r02_Add.d (a0 : Nat → Int) (a1 : Nat → Int) (K : (Nat → Int) → Bool → Prop) : Prop :=
  ∃ n, r02_Add.l4 (fun y0 y1 y2 => K y2 y0) n false 0 a0 a1 (fun x => 0) fun x => 0
noncomputable def r02_Add : (Nat → Int) → (Nat → Int) → ((Nat → Int) → Bool → Prop) → Prop := Classical.choose (⟨r02_Add.d, rfl⟩ : ∃ f, f = r02_Add.d)
def r02_And.l2.step (again : Int → (Nat → Int) → (Nat → Int) → (Nat → Int) → Prop) (k0 : (Nat → Int) → (Nat → Int) → Prop) (x0 : Int) (x1 : Nat → Int) (x2 : Nat → Int) (x3 : Nat → Int) : Prop :=
  br (ltI x0 6) (gd (leI 0 x0 && ltI x0 6) (gd (leI 0 x0 && ltI x0 6) (gd (leI 0 x0 && ltI x0 6) (again (addI IntKind.i64 x0 1) (upd x1 (Int.toNat x0) (andI IntKind.u64 (x1 (Int.toNat x0)) (x2 (Int.toNat x0)))) x2 x3)))) (k0 x1 x3)
def r02_And.l2 (k0 : (Nat → Int) → (Nat → Int) → Prop) : Nat → Int → (Nat → Int) → (Nat → Int) → (Nat → Int) → Prop
  | 0 => fun _ _ _ _ => False
  | n + 1 => r02_And.l2.step (r02_And.l2 k0 n) k0
def r02_And.l2.entry : LoopEntry := ⟨LV.mk 20 [(0, 20)] 16 0 false, 0, 20, fun vs H K => match vs, H with
  | [EV.ptr 0 [], EV.ptr 1 [], EV.ptr 2 [], EV.int IntKind.i64 x0], [some (EV.arr IntKind.u64 6 x1), some (EV.arr IntKind.u64 6 x2), some (EV.arr IntKind.u64 6 x3)] => ∃ n, r02_And.l2 (fun y0 y1 => K (.exit 0) [EV.ptr 0 [], EV.ptr 1 []] [some (EV.arr IntKind.u64 6 y0), some (EV.arr IntKind.u64 6 y1)]) n x0 x1 x2 x3
  | _, _ => False⟩
def r02_And.d (a0 : Nat → Int) (a1 : Nat → Int) (K : (Nat → Int) → Prop) : Prop :=
  ∃ n, r02_And.l2 (fun y0 y1 => K y0) n 0 a0 a1 fun x => 0
noncomputable def r02_And : (Nat → Int) → (Nat → Int) → ((Nat → Int) → Prop) → Prop := Classical.choose (⟨r02_And.d, rfl⟩ : ∃ f, f = r02_And.d)
theorem r02_And.is : r02_And = r02_And.d := Classical.choose_spec (⟨r02_And.d, rfl⟩ : ∃ f, f = r02_And.d)
def r02_Bit.d (a0 : Nat → Int) (a1 : Int) (K : Bool → Prop) : Prop :=
  br (leI 0 a1) (br (ltI a1 384) (gd (leI 0 (quoI IntKind.i64 a1 64) && ltI (quoI IntKind.i64 a1 64) 6) (r01_Bit (a0 (Int.toNat (quoI IntKind.i64 a1 64))) (remI IntKind.i64 a1 64) fun y0 => K y0)) (K false)) (K false)
noncomputable def r02_Bit : (Nat → Int) → Int → (Bool → Prop) → Prop := Classical.choose (⟨r02_Bit.d, rfl⟩ : ∃ f, f = r02_Bit.d)
theorem r02_Bit.is : r02_Bit = r02_Bit.d := Classical.choose_spec (⟨r02_Bit.d, rfl⟩ : ∃ f, f = r02_Bit.d)
def r02_Cmp.l2.step (again : Int → (Nat → Int) → (Nat → Int) → Prop) (k0 : Int → Prop) (k1 : Prop) (x0 : Int) (x1 : Nat → Int) (x2 : Nat → Int) : Prop :=
  br (leI 0 x0) (gd (leI 0 x0 && ltI x0 6) (gd (leI 0 x0 && ltI x0 6) (br (ltI (x1 (Int.toNat x0)) (x2 (Int.toNat x0))) (k0 (-1)) (gd (leI 0 x0 && ltI x0 6) (gd (leI 0 x0 && ltI x0 6) (br (ltI (x2 (Int.toNat x0)) (x1 (Int.toNat x0))) (k0 1) (again (subI IntKind.i64 x0 1) x1 x2))))))) k1
def r02_Cmp.l2 (k0 : Int → Prop) (k1 : Prop) : Nat → Int → (Nat → Int) → (Nat → Int) → Prop
  | 0 => fun _ _ _ => False
  | n + 1 => r02_Cmp.l2.step (r02_Cmp.l2 k0 k1 n) k0 k1
def r02_Cmp.l2.entry : LoopEntry := ⟨LV.mk 0 [(0, 0)] 16 0 false, 0, 24, fun vs H K => match vs, H with
  | [EV.ptr 0 [], EV.ptr 1 [], EV.int IntKind.i64 x0], [some (EV.arr IntKind.u64 6 x1), some (EV.arr IntKind.u64 6 x2)] => ∃ n, r02_Cmp.l2 (fun y0 => K .ret [EV.int IntKind.i64 y0] []) (K (.exit 0) [] []) n x0 x1 x2
  | _, _ => False⟩
def r02_Cmp.d (a0 : Nat → Int) (a1 : Nat → Int) (K : Int → Prop) : Prop :=
  ∃ n, r02_Cmp.l2 (fun y0 => K y0) (K 0) n 5 a0 a1
noncomputable def r02_Cmp : (Nat → Int) → (Nat → Int) → (Int → Prop) → Prop := Classical.choose (⟨r02_Cmp.d, rfl⟩ : ∃ f, f = r02_Cmp.d)
theorem r02_Cmp.is : r02_Cmp = r02_Cmp.d := Classical.choose_spec (⟨r02_Cmp.d, rfl⟩ : ∃ f, f = r02_Cmp.d)
def r02_Count.d (a0 : Int) (K : Int → Prop) : Prop :=
  br (ltI a0 0) (K 0) (br (ltI 384 a0) (K 384) (K a0))
noncomputable def r02_Count : Int → (Int → Prop) → Prop := Classical.choose (⟨r02_Count.d, rfl⟩ : ∃ f, f = r02_Count.d)
theorem r02_Count.is : r02_Count = r02_Count.d := Classical.choose_spec (⟨r02_Count.d, rfl⟩ : ∃ f, f = r02_Count.d)
def r02_Left.l5.step (again : Int → Bool → Int → (Nat → Int) → (Nat → Int) → (Nat → Int) → Prop) (k0 : Bool → (Nat → Int) → (Nat → Int) → Prop) (x0 : Int) (x1 : Bool) (x2 : Int) (x3 : Nat → Int) (x4 : Nat → Int) (x5 : Nat → Int) : Prop :=
  br (ltI x2 384) (r02_Bit x3 x2 fun y0 => br y0 (br (ltI (addI IntKind.i64 x2 x0) 384) (gd (leI 0 (quoI IntKind.i64 (addI IntKind.i64 x2 x0) 64) && ltI (quoI IntKind.i64 (addI IntKind.i64 x2 x0) 64) 6) (gd (!ltI (cvI IntKind.u64 (remI IntKind.i64 (addI IntKind.i64 x2 x0) 64)) 0) (gd (leI 0 (quoI IntKind.i64 (addI IntKind.i64 x2 x0) 64) && ltI (quoI IntKind.i64 (addI IntKind.i64 x2 x0) 64) 6) (again x0 x1 (addI IntKind.i64 x2 1) x3 x4 (upd x5 (Int.toNat (quoI IntKind.i64 (addI IntKind.i64 x2 x0) 64)) (orI IntKind.u64 (x5 (Int.toNat (quoI IntKind.i64 (addI IntKind.i64 x2 x0) 64))) (shlI IntKind.u64 1 (cvI IntKind.u64 (remI IntKind.i64 (addI IntKind.i64 x2 x0) 64))))))))) (again x0 true (addI IntKind.i64 x2 1) x3 x4 x5)) (again x0 x1 (addI IntKind.i64 x2 1) x3 x4 x5)) (k0 x1 x4 x5)
def r02_Left.l5 (k0 : Bool → (Nat → Int) → (Nat → Int) → Prop) : Nat → Int → Bool → Int → (Nat → Int) → (Nat → Int) → (Nat → Int) → Prop
  | 0 => fun _ _ _ _ _ _ => False
  | n + 1 => r02_Left.l5.step (r02_Left.l5 k0 n) k0
def r02_Left.l5.entry : LoopEntry := ⟨LV.mk 208 [(0, 208)] 48 0 false, 0, 42, fun vs H K => match vs, H with
  | [EV.int IntKind.i64 x0, EV.ptr 0 [], EV.ptr 1 [], EV.ptr 2 [], EV.bool x1, EV.int IntKind.i64 x2], [some (EV.arr IntKind.u64 6 x3), some (EV.arr IntKind.u64 6 x4), some (EV.arr IntKind.u64 6 x5)] => ∃ n, r02_Left.l5 (fun y0 y1 y2 => K (.exit 0) [EV.ptr 0 [], EV.ptr 1 [], EV.bool y0] [some (EV.arr IntKind.u64 6 y1), some (EV.arr IntKind.u64 6 y2)]) n x0 x1 x2 x3 x4 x5
  | _, _ => False⟩
def r02_Left.d (a0 : Nat → Int) (a1 : Int) (K : (Nat → Int) → Bool → Prop) : Prop :=
  r02_Count a1 fun y0 => ∃ n, r02_Left.l5 (fun y0 y1 y2 => K y2 y0) n y0 false 0 a0 (fun x => 0) fun x => 0
noncomputable def r02_Left : (Nat → Int) → Int → ((Nat → Int) → Bool → Prop) → Prop := Classical.choose (⟨r02_Left.d, rfl⟩ : ∃ f, f = r02_Left.d)
def r02_Len.l2.step (again : Int → (Nat → Int) → Prop) (k0 : Int → Prop) (k1 : Prop) (x0 : Int) (x1 : Nat → Int) : Prop :=
  br (leI 0 x0) (gd (leI 0 x0 && ltI x0 6) (br (!eqI (x1 (Int.toNat x0)) 0) (gd (leI 0 x0 && ltI x0 6) (r01_Len (x1 (Int.toNat x0)) fun y0 => k0 (addI IntKind.i64 (mulI IntKind.i64 64 x0) y0))) (again (subI IntKind.i64 x0 1) x1))) k1
def r02_Len.l2 (k0 : Int → Prop) (k1 : Prop) : Nat → Int → (Nat → Int) → Prop
  | 0 => fun _ _ => False
  | n + 1 => r02_Len.l2.step (r02_Len.l2 k0 k1 n) k0 k1
def r02_Len.l2.entry : LoopEntry := ⟨LV.mk 0 [(0, 0)] 4 0 false, 0, 19, fun vs H K => match vs, H with
  | [EV.ptr 0 [], EV.int IntKind.i64 x0], [some (EV.arr IntKind.u64 6 x1)] => ∃ n, r02_Len.l2 (fun y0 => K .ret [EV.int IntKind.i64 y0] []) (K (.exit 0) [] []) n x0 x1
  | _, _ => False⟩
def r02_Len.d (a0 : Nat → Int) (K : Int → Prop) : Prop :=
  ∃ n, r02_Len.l2 (fun y0 => K y0) (K 0) n 5 a0
noncomputable def r02_Len : (Nat → Int) → (Int → Prop) → Prop := Classical.choose (⟨r02_Len.d, rfl⟩ : ∃ f, f = r02_Len.d)
theorem r02_Len.is : r02_Len = r02_Len.d := Classical.choose_spec (⟨r02_Len.d, rfl⟩ : ∃ f, f = r02_Len.d)
def r02_Mask.l4.step (again : Int → Int → (Nat → Int) → (Nat → Int) → Prop) (k0 : (Nat → Int) → (Nat → Int) → Prop) (x0 : Int) (x1 : Int) (x2 : Nat → Int) (x3 : Nat → Int) : Prop :=
  br (ltI x1 x0) (gd (leI 0 (quoI IntKind.i64 x1 64) && ltI (quoI IntKind.i64 x1 64) 6) (gd (!ltI (cvI IntKind.u64 (remI IntKind.i64 x1 64)) 0) (gd (leI 0 (quoI IntKind.i64 x1 64) && ltI (quoI IntKind.i64 x1 64) 6) (again x0 (addI IntKind.i64 x1 1) x2 (upd x3 (Int.toNat (quoI IntKind.i64 x1 64)) (orI IntKind.u64 (x3 (Int.toNat (quoI IntKind.i64 x1 64))) (shlI IntKind.u64 1 (cvI IntKind.u64 (remI IntKind.i64 x1 64))))))))) (k0 x2 x3)
def r02_Mask.l4 (k0 : (Nat → Int) → (Nat → Int) → Prop) : Nat → Int → Int → (Nat → Int) → (Nat → Int) → Prop
  | 0 => fun _ _ _ _ => False
  | n + 1 => r02_Mask.l4.step (r02_Mask.l4 k0 n) k0
def r02_Mask.l4.entry : LoopEntry := ⟨LV.mk 12 [(0, 12)] 4 0 false, 0, 25, fun vs H K => match vs, H with
  | [EV.int IntKind.i64 x0, EV.ptr 0 [], EV.ptr 1 [], EV.int IntKind.i64 x1], [some (EV.arr IntKind.u64 6 x2), some (EV.arr IntKind.u64 6 x3)] => ∃ n, r02_Mask.l4 (fun y0 y1 => K (.exit 0) [EV.ptr 0 [], EV.ptr 1 []] [some (EV.arr IntKind.u64 6 y0), some (EV.arr IntKind.u64 6 y1)]) n x0 x1 x2 x3
  | _, _ => False⟩
def r02_Mask.d (a0 : Int) (K : (Nat → Int) → Prop) : Prop :=
  r02_Count a0 fun y0 => ∃ n, r02_Mask.l4 (fun y0 y1 => K y1) n y0 0 (fun x => 0) fun x => 0
noncomputable def r02_Mask : Int → ((Nat → Int) → Prop) → Prop := Classical.choose (⟨r02_Mask.d, rfl⟩ : ∃ f, f = r02_Mask.d)
theorem r02_Mask.is : r02_Mask = r02_Mask.d := Classical.choose_spec (⟨r02_Mask.d, rfl⟩ : ∃ f, f = r02_Mask.d)
def r02_OfBits.d (a0_0 : Int) (a0_1 : Int) (K : (Nat → Int) → Prop) : Prop :=
  K (upd (upd (fun x => 0) 0 a0_1) 1 a0_0)
noncomputable def r02_OfBits : Int → Int → ((Nat → Int) → Prop) → Prop := Classical.choose (⟨r02_OfBits.d, rfl⟩ : ∃ f, f = r02_OfBits.d)
theorem r02_OfBits.is : r02_OfBits = r02_OfBits.d := Classical.choose_spec (⟨r02_OfBits.d, rfl⟩ : ∃ f, f = r02_OfBits.d)
def r02_Right.l5.step (again : Int → Bool → Int → (Nat → Int) → (Nat → Int) → (Nat → Int) → Prop) (k0 : Bool → (Nat → Int) → (Nat → Int) → Prop) (x0 : Int) (x1 : Bool) (x2 : Int) (x3 : Nat → Int) (x4 : Nat → Int) (x5 : Nat → Int) : Prop :=
  br (ltI x2 384) (r02_Bit x3 x2 fun y0 => br y0 (br (leI x0 x2) (gd (leI 0 (quoI IntKind.i64 (subI IntKind.i64 x2 x0) 64) && ltI (quoI IntKind.i64 (subI IntKind.i64 x2 x0) 64) 6) (gd (!ltI (cvI IntKind.u64 (remI IntKind.i64 (subI IntKind.i64 x2 x0) 64)) 0) (gd (leI 0 (quoI IntKind.i64 (subI IntKind.i64 x2 x0) 64) && ltI (quoI IntKind.i64 (subI IntKind.i64 x2 x0) 64) 6) (again x0 x1 (addI IntKind.i64 x2 1) x3 x4 (upd x5 (Int.toNat (quoI IntKind.i64 (subI IntKind.i64 x2 x0) 64)) (orI IntKind.u64 (x5 (Int.toNat (quoI IntKind.i64 (subI IntKind.i64 x2 x0) 64))) (shlI IntKind.u64 1 (cvI IntKind.u64 (remI IntKind.i64 (subI IntKind.i64 x2 x0) 64))))))))) (again x0 true (addI IntKind.i64 x2 1) x3 x4 x5)) (again x0 x1 (addI IntKind.i64 x2 1) x3 x4 x5)) (k0 x1 x4 x5)
def r02_Right.l5 (k0 : Bool → (Nat → Int) → (Nat → Int) → Prop) : Nat → Int → Bool → Int → (Nat → Int) → (Nat → Int) → (Nat → Int) → Prop
  | 0 => fun _ _ _ _ _ _ => False
  | n + 1 => r02_Right.l5.step (r02_Right.l5 k0 n) k0
def r02_Right.l5.entry : LoopEntry := ⟨LV.mk 208 [(0, 208)] 48 0 false, 0, 41, fun vs H K => match vs, H with
  | [EV.int IntKind.i64 x0, EV.ptr 0 [], EV.ptr 1 [], EV.ptr 2 [], EV.bool x1, EV.int IntKind.i64 x2], [some (EV.arr IntKind.u64 6 x3), some (EV.arr IntKind.u64 6 x4), some (EV.arr IntKind.u64 6 x5)] => ∃ n, r02_Right.l5 (fun y0 y1 y2 => K (.exit 0) [EV.ptr 0 [], EV.ptr 1 [], EV.bool y0] [some (EV.arr IntKind.u64 6 y1), some (EV.arr IntKind.u64 6 y2)]) n x0 x1 x2 x3 x4 x5
  | _, _ => False⟩
def r02_Right.d (a0 : Nat → Int) (a1 : Int) (K : (Nat → Int) → Bool → Prop) : Prop :=
  r02_Count a1 fun y0 => ∃ n, r02_Right.l5 (fun y0 y1 y2 => K y2 y0) n y0 false 0 a0 (fun x => 0) fun x => 0
noncomputable def r02_Right : (Nat → Int) → Int → ((Nat → Int) → Bool → Prop) → Prop := Classical.choose (⟨r02_Right.d, rfl⟩ : ∃ f, f = r02_Right.d)
theorem r02_Right.is : r02_Right = r02_Right.d := Classical.choose_spec (⟨r02_Right.d, rfl⟩ : ∃ f, f = r02_Right.d)
end Go.Ev.S

/- The functions as the evaluator has them: what each comes to. -/
set_option maxRecDepth 100000
set_option linter.unusedVariables false
set_option linter.unusedSimpArgs false
namespace Go.Ev.S
open Go Go.Ev
end Go.Ev.S

/- The functions as the evaluator has them: what each comes to. -/
set_option maxRecDepth 100000
set_option linter.unusedVariables false
set_option linter.unusedSimpArgs false
namespace Go.Ev.S
open Go Go.Ev
end Go.Ev.S

/- The functions as the evaluator has them: what each comes to. -/
set_option maxRecDepth 100000
set_option linter.unusedVariables false
set_option linter.unusedSimpArgs false
namespace Go.Ev.S
open Go Go.Ev
def r07_Precision.d (a0 : Int) (K : Int → Prop) : Prop :=
  br (eqI a0 2) (K 11) (br (eqI a0 0) (K 24) (br (eqI a0 1) (K 53) (br (eqI a0 3) (K 113) (K 0))))
noncomputable def r07_Precision : Int → (Int → Prop) → Prop := Classical.choose (⟨r07_Precision.d, rfl⟩ : ∃ f, f = r07_Precision.d)
theorem r07_Precision.is : r07_Precision = r07_Precision.d := Classical.choose_spec (⟨r07_Precision.d, rfl⟩ : ∃ f, f = r07_Precision.d)
def r07_Right.d (a0 : Int) (K : Bool → Prop) : Prop :=
  K (leI a0 3)
noncomputable def r07_Right : Int → (Bool → Prop) → Prop := Classical.choose (⟨r07_Right.d, rfl⟩ : ∃ f, f = r07_Right.d)
theorem r07_Right.is : r07_Right = r07_Right.d := Classical.choose_spec (⟨r07_Right.d, rfl⟩ : ∃ f, f = r07_Right.d)
def r07_Width.d (a0 : Int) (K : Int → Prop) : Prop :=
  br (eqI a0 2) (K 16) (br (eqI a0 0) (K 32) (br (eqI a0 1) (K 64) (br (eqI a0 3) (K 128) (K 0))))
noncomputable def r07_Width : Int → (Int → Prop) → Prop := Classical.choose (⟨r07_Width.d, rfl⟩ : ∃ f, f = r07_Width.d)
theorem r07_Width.is : r07_Width = r07_Width.d := Classical.choose_spec (⟨r07_Width.d, rfl⟩ : ∃ f, f = r07_Width.d)
def r07_Emax.d (a0 : Int) (K : Int → Prop) : Prop :=
  br (eqI a0 2) (K 15) (br (eqI a0 0) (K 127) (br (eqI a0 1) (K 1023) (br (eqI a0 3) (K 16383) (K 0))))
noncomputable def r07_Emax : Int → (Int → Prop) → Prop := Classical.choose (⟨r07_Emax.d, rfl⟩ : ∃ f, f = r07_Emax.d)
theorem r07_Emax.is : r07_Emax = r07_Emax.d := Classical.choose_spec (⟨r07_Emax.d, rfl⟩ : ∃ f, f = r07_Emax.d)
def r07_Ones.d (a0 : Int) (K : Int → Prop) : Prop :=
  r07_Emax a0 fun y0 => K (addI IntKind.i64 (mulI IntKind.i64 2 y0) 1)
noncomputable def r07_Ones : Int → (Int → Prop) → Prop := Classical.choose (⟨r07_Ones.d, rfl⟩ : ∃ f, f = r07_Ones.d)
theorem r07_Ones.is : r07_Ones = r07_Ones.d := Classical.choose_spec (⟨r07_Ones.d, rfl⟩ : ∃ f, f = r07_Ones.d)
def r07_Fields.d (a0 : Int) (a1_0 : Int) (a1_1 : Int) (K : Bool → Int → (Nat → Int) → Prop) : Prop :=
  r02_OfBits a1_0 a1_1 fun y0 => r07_Width a0 fun y0_1 => r02_Bit y0 (subI IntKind.i64 y0_1 1) fun y0_2 => r07_Precision a0 fun y0_3 => r02_Mask (subI IntKind.i64 y0_3 1) fun y0_4 => r02_And y0 y0_4 fun y0_5 => r07_Precision a0 fun y0_6 => r02_Right y0 (subI IntKind.i64 y0_6 1) fun y0 y1 => r07_Ones a0 fun y0_7 => K y0_2 (andI IntKind.i64 (cvI IntKind.i64 (y0 0)) y0_7) y0_5
noncomputable def r07_Fields : Int → Int → Int → (Bool → Int → (Nat → Int) → Prop) → Prop := Classical.choose (⟨r07_Fields.d, rfl⟩ : ∃ f, f = r07_Fields.d)
theorem r07_Fields.is : r07_Fields = r07_Fields.d := Classical.choose_spec (⟨r07_Fields.d, rfl⟩ : ∃ f, f = r07_Fields.d)
def r07_Fits.d (a0 : Int) (a1_0 : Int) (a1_1 : Int) (K : Bool → Prop) : Prop :=
  r07_Right a0 fun y0 => br y0 (r02_OfBits a1_0 a1_1 fun y0 => r02_Len y0 fun y0 => r07_Width a0 fun y0_1 => K (leI y0 y0_1)) (K false)
noncomputable def r07_Fits : Int → Int → Int → (Bool → Prop) → Prop := Classical.choose (⟨r07_Fits.d, rfl⟩ : ∃ f, f = r07_Fits.d)
theorem r07_Fits.is : r07_Fits = r07_Fits.d := Classical.choose_spec (⟨r07_Fits.d, rfl⟩ : ∃ f, f = r07_Fits.d)
end Go.Ev.S

/- The functions as the evaluator has them: what each comes to. -/
set_option maxRecDepth 100000
set_option linter.unusedVariables false
set_option linter.unusedSimpArgs false
namespace Go.Ev.S
open Go Go.Ev
def r08_Sign.d (a0 : Int) (a1_0 : Int) (a1_1 : Int) (K : Bool → Prop) : Prop :=
  r07_Fits a0 a1_0 a1_1 fun y0 => br (!y0) (K false) (r07_Fields a0 a1_0 a1_1 fun y0 y1 y2 => K y0)
noncomputable def r08_Sign : Int → Int → Int → (Bool → Prop) → Prop := Classical.choose (⟨r08_Sign.d, rfl⟩ : ∃ f, f = r08_Sign.d)
theorem r08_Sign.is : r08_Sign = r08_Sign.d := Classical.choose_spec (⟨r08_Sign.d, rfl⟩ : ∃ f, f = r08_Sign.d)
end Go.Ev.S

/- The functions as the evaluator has them: what each comes to. -/
set_option maxRecDepth 100000
set_option linter.unusedVariables false
set_option linter.unusedSimpArgs false
namespace Go.Ev.S
open Go Go.Ev
def r16_Total.d (a0 : Int) (a1_0 : Int) (a1_1 : Int) (a2_0 : Int) (a2_1 : Int) (K : Int → Prop) : Prop :=
  r08_Sign a0 a1_0 a1_1 fun y0 => r08_Sign a0 a2_0 a2_1 fun y0_1 => br (!beqB y0 y0_1) (br y0 (K (-1)) (K 1)) (r02_OfBits a1_0 a1_1 fun y0_2 => r02_OfBits a2_0 a2_1 fun y0_3 => r02_Cmp y0_2 y0_3 fun y0_4 => br y0 (K (negI IntKind.i64 y0_4)) (K y0_4))
noncomputable def r16_Total : Int → Int → Int → Int → Int → (Int → Prop) → Prop := Classical.choose (⟨r16_Total.d, rfl⟩ : ∃ f, f = r16_Total.d)
theorem r16_Total.is : r16_Total = r16_Total.d := Classical.choose_spec (⟨r16_Total.d, rfl⟩ : ∃ f, f = r16_Total.d)
end Go.Ev.S

/- The functions as the evaluator has them: what each comes to. -/
set_option maxRecDepth 100000
set_option linter.unusedVariables false
set_option linter.unusedSimpArgs false
namespace Go.Ev.S
open Go Go.Ev
def law16_alive.d (K : Bool → Prop) : Prop :=
  order_Compare 2 0 32768 0 0 fun y0 y1 => order_Lt 2 0 32256 0 15360 fun y0_1 y1_1 y2 => br (eqI y0 2) (br (eqI y1 0) (br (!y0_1) (br (eqI y1_1 16) (K (eqI y2 0)) (K false)) (K false)) (K false)) (K false)
noncomputable def law16_alive : (Bool → Prop) → Prop := Classical.choose (⟨law16_alive.d, rfl⟩ : ∃ f, f = law16_alive.d)
theorem law16_alive.is : law16_alive = law16_alive.d := Classical.choose_spec (⟨law16_alive.d, rfl⟩ : ∃ f, f = law16_alive.d)
end Go.Ev.S

/- The functions as the evaluator has them: what each comes to. -/
set_option maxRecDepth 100000
set_option linter.unusedVariables false
set_option linter.unusedSimpArgs false
namespace Go.Ev.S
open Go Go.Ev
def order_fitsT.l2.step (again : Int → Nat → (Nat → Nat → Lf) → Int → Int → Prop) (k0 : Bool → Prop) (k1 : Int → Prop) (x0 : Int) (x1 : Nat) (x2 : Nat → Nat → Lf) (x3 : Int) (x4 : Int) : Prop :=
  br (ltI x4 x3) (gd (leI 0 x4 && ltI x4 ↑x1) (shape_Fits x0 (Lf.toI (x2 (Int.toNat x4) 0)) (Lf.toI (x2 (Int.toNat x4) 1)) fun y0 => br (!y0) (k0 false) (again x0 x1 x2 x3 (addI IntKind.i64 x4 1)))) (k1 x0)
def order_fitsT.l2 (k0 : Bool → Prop) (k1 : Int → Prop) : Nat → Int → Nat → (Nat → Nat → Lf) → Int → Int → Prop
  | 0 => fun _ _ _ _ _ => False
  | n + 1 => order_fitsT.l2.step (order_fitsT.l2 k0 k1 n) k0 k1
def order_fitsT.l2.entry : LoopEntry := ⟨LV.mk 1 [(0, 1)] 16 0 false, 0, 21, fun vs H K => match vs, H with
  | [EV.int IntKind.u8 x0, EV.rsT x1 (Sk.agg [Sk.int IntKind.u64, Sk.int IntKind.u64]) x2, EV.int IntKind.i64 x3, EV.int IntKind.i64 x4], [] => ∃ n, order_fitsT.l2 (fun y0 => K .ret [EV.bool y0] []) (fun y0 => K (.exit 0) [EV.int IntKind.u8 y0] []) n x0 x1 x2 x3 x4
  | _, _ => False⟩
def order_fitsT.d (a0 : Int) (a1n : Nat) (a1 : Nat → Nat → Lf) (K : Bool → Prop) : Prop :=
  ∃ n, order_fitsT.l2 (fun y0 => K y0) (fun y0 => shape_Check y0 fun y0 => K (eqI y0 0)) n a0 a1n a1 (↑a1n) 0
noncomputable def order_fitsT : Int → Nat → (Nat → Nat → Lf) → (Bool → Prop) → Prop := Classical.choose (⟨order_fitsT.d, rfl⟩ : ∃ f, f = order_fitsT.d)
theorem order_fitsT.is : order_fitsT = order_fitsT.d := Classical.choose_spec (⟨order_fitsT.d, rfl⟩ : ∃ f, f = order_fitsT.d)
def order_Sort_1.d (a0_0 : Int) (a0_1 : Int) (a1_0 : Int) (a1_1 : Int) (c0 : Int) (K : Int → Prop) : Prop :=
  order_total c0 a0_0 a0_1 a1_0 a1_1 fun y0 => K y0
noncomputable def order_Sort_1 : Int → Int → Int → Int → Int → (Int → Prop) → Prop := Classical.choose (⟨order_Sort_1.d, rfl⟩ : ∃ f, f = order_Sort_1.d)
theorem order_Sort_1.is : order_Sort_1 = order_Sort_1.d := Classical.choose_spec (⟨order_Sort_1.d, rfl⟩ : ∃ f, f = order_Sort_1.d)
def r16_FitsT.l4.step (again : Int → Nat → (Nat → Nat → Lf) → Int → Prop) (k0 : Bool → Prop) (k1 : Prop) (x0 : Int) (x1 : Nat) (x2 : Nat → Nat → Lf) (x3 : Int) : Prop :=
  br (ltI x3 ↑x1) (gd (leI 0 x3 && ltI x3 ↑x1) (r07_Fits x0 (Lf.toI (x2 (Int.toNat x3) 0)) (Lf.toI (x2 (Int.toNat x3) 1)) fun y0 => br (!y0) (k0 false) (again x0 x1 x2 (addI IntKind.i64 x3 1)))) k1
def r16_FitsT.l4 (k0 : Bool → Prop) (k1 : Prop) : Nat → Int → Nat → (Nat → Nat → Lf) → Int → Prop
  | 0 => fun _ _ _ _ => False
  | n + 1 => r16_FitsT.l4.step (r16_FitsT.l4 k0 k1 n) k0 k1
def r16_FitsT.l4.entry : LoopEntry := ⟨LV.mk 0 [(0, 0)] 16 0 false, 0, 22, fun vs H K => match vs, H with
  | [EV.int IntKind.u8 x0, EV.rsT x1 (Sk.agg [Sk.int IntKind.u64, Sk.int IntKind.u64]) x2, EV.int IntKind.i64 x3], [] => ∃ n, r16_FitsT.l4 (fun y0 => K .ret [EV.bool y0] []) (K (.exit 0) [] []) n x0 x1 x2 x3
  | _, _ => False⟩
def r16_FitsT.d (a0 : Int) (a1n : Nat) (a1 : Nat → Nat → Lf) (K : Bool → Prop) : Prop :=
  r07_Right a0 fun y0 => br (!y0) (K false) (∃ n, r16_FitsT.l4 (fun y0 => K y0) (K true) n a0 a1n a1 0)
noncomputable def r16_FitsT : Int → Nat → (Nat → Nat → Lf) → (Bool → Prop) → Prop := Classical.choose (⟨r16_FitsT.d, rfl⟩ : ∃ f, f = r16_FitsT.d)
theorem r16_FitsT.is : r16_FitsT = r16_FitsT.d := Classical.choose_spec (⟨r16_FitsT.d, rfl⟩ : ∃ f, f = r16_FitsT.d)
def r16_Sort.l6.step (again : Int → Nat → (Nat → Nat → Lf) → Nat → Nat → Int → Int → Nat → (Nat → Nat → Lf) → Prop) (k0 : Int → Nat → (Nat → Nat → Lf) → Nat → Nat → Int → Int → Nat → (Nat → Nat → Lf) → Prop) (x0 : Int) (x1 : Nat) (x2 : Nat → Nat → Lf) (x3 : Nat) (x4 : Nat) (x5 : Int) (x6 : Int) (x7 : Nat) (x8 : Nat → Nat → Lf) : Prop :=
  br (ltI 0 x6) (gd (leI 0 x5 && ltI x5 ↑x1) (gd (leI 0 (subI IntKind.i64 x6 1) && ltI (subI IntKind.i64 x6 1) ↑x3) (r16_Total x0 (Lf.toI (x2 (Int.toNat x5) 0)) (Lf.toI (x2 (Int.toNat x5) 1)) (Lf.toI (x8 (Int.toNat (subI IntKind.i64 x6 1)) 0)) (Lf.toI (x8 (Int.toNat (subI IntKind.i64 x6 1)) 1)) fun y0 => br (ltI y0 0) (gd (leI 0 (subI IntKind.i64 x6 1) && ltI (subI IntKind.i64 x6 1) ↑x3) (gd (leI 0 x6 && ltI x6 ↑x3) (again x0 x1 x2 x3 x4 x5 (subI IntKind.i64 x6 1) x7 (upd2 (upd2 x8 (Int.toNat x6) 0 (Lf.z (Lf.toI (x8 (Int.toNat (subI IntKind.i64 x6 1)) 0)))) (Int.toNat x6) 1 (Lf.z (Lf.toI (x8 (Int.toNat (subI IntKind.i64 x6 1)) 1))))))) (k0 x0 x1 x2 x3 x4 x5 x6 x7 x8)))) (k0 x0 x1 x2 x3 x4 x5 x6 x7 x8)
def r16_Sort.l6 (k0 : Int → Nat → (Nat → Nat → Lf) → Nat → Nat → Int → Int → Nat → (Nat → Nat → Lf) → Prop) : Nat → Int → Nat → (Nat → Nat → Lf) → Nat → Nat → Int → Int → Nat → (Nat → Nat → Lf) → Prop
  | 0 => fun _ _ _ _ _ _ _ _ _ => False
  | n + 1 => r16_Sort.l6.step (r16_Sort.l6 k0 n) k0
def r16_Sort.l3.step (again : Int → Nat → (Nat → Nat → Lf) → Nat → Nat → Int → Nat → (Nat → Nat → Lf) → Prop) (k0 : Nat → Nat → Nat → (Nat → Nat → Lf) → Prop) (x0 : Int) (x1 : Nat) (x2 : Nat → Nat → Lf) (x3 : Nat) (x4 : Nat) (x5 : Int) (x6 : Nat) (x7 : Nat → Nat → Lf) : Prop :=
  br (ltI x5 ↑x1) (∃ n, r16_Sort.l6 (fun y0 y1 y2 y3 y4 y5 y6 y7 y8 => gd (leI 0 y5 && ltI y5 ↑y1) (gd (leI 0 y6 && ltI y6 ↑y3) (again y0 y1 y2 y3 y4 (addI IntKind.i64 y5 1) y7 (upd2 (upd2 y8 (Int.toNat y6) 0 (Lf.z (Lf.toI (y2 (Int.toNat y5) 0)))) (Int.toNat y6) 1 (Lf.z (Lf.toI (y2 (Int.toNat y5) 1))))))) n x0 x1 x2 x3 x4 x5 x5 x6 x7) (k0 x3 x4 x6 x7)
def r16_Sort.l3 (k0 : Nat → Nat → Nat → (Nat → Nat → Lf) → Prop) : Nat → Int → Nat → (Nat → Nat → Lf) → Nat → Nat → Int → Nat → (Nat → Nat → Lf) → Prop
  | 0 => fun _ _ _ _ _ _ _ _ => False
  | n + 1 => r16_Sort.l3.step (r16_Sort.l3 k0 n) k0
def r16_Sort.l6.entry : LoopEntry := ⟨LV.mk 227 [(2, 227), (1, 99), (0, 32)] 16 0 false, 0, 52, fun vs H K => match vs, H with
  | [EV.int IntKind.u8 x0, EV.rsT x1 (Sk.agg [Sk.int IntKind.u64, Sk.int IntKind.u64]) x2, EV.slice 0 0 x3 (some x4) 2, EV.int IntKind.i64 x5, EV.int IntKind.i64 x6], [some (EV.arrT x7 (Sk.agg [Sk.int IntKind.u64, Sk.int IntKind.u64]) x8)] => ∃ n, r16_Sort.l6 (fun y0 y1 y2 y3 y4 y5 y6 y7 y8 => K (.exit 2) [EV.int IntKind.u8 y0, EV.rsT y1 (Sk.agg [Sk.int IntKind.u64, Sk.int IntKind.u64]) y2, EV.slice 0 0 y3 (some y4) 2, EV.int IntKind.i64 y5, EV.int IntKind.i64 y6] [some (EV.arrT y7 (Sk.agg [Sk.int IntKind.u64, Sk.int IntKind.u64]) y8)]) n x0 x1 x2 x3 x4 x5 x6 x7 x8
  | _, _ => False⟩
def r16_Sort.l3.entry : LoopEntry := ⟨LV.mk 32 [(0, 32)] 16 0 false, 0, 52, fun vs H K => match vs, H with
  | [EV.int IntKind.u8 x0, EV.rsT x1 (Sk.agg [Sk.int IntKind.u64, Sk.int IntKind.u64]) x2, EV.slice 0 0 x3 (some x4) 2, EV.int IntKind.i64 x5], [some (EV.arrT x6 (Sk.agg [Sk.int IntKind.u64, Sk.int IntKind.u64]) x7)] => ∃ n, r16_Sort.l3 (fun y0 y1 y2 y3 => K (.exit 0) [EV.slice 0 0 y0 (some y1) 2] [some (EV.arrT y2 (Sk.agg [Sk.int IntKind.u64, Sk.int IntKind.u64]) y3)]) n x0 x1 x2 x3 x4 x5 x6 x7
  | _, _ => False⟩
def r16_Sort.d (a0 : Int) (a1n : Nat) (a1 : Nat → Nat → Lf) (K : Nat → Nat → Nat → (Nat → Nat → Lf) → Prop) : Prop :=
  gd (leI 0 ↑a1n && (leI ↑a1n ↑a1n && leI (↑a1n) 1099511627776)) (∃ n, r16_Sort.l3 (fun y0 y1 y2 y3 => K y0 y1 y2 y3) n a0 a1n a1 (Int.toNat ↑a1n) (Int.toNat ↑a1n) 0 (Int.toNat ↑a1n) z2)
noncomputable def r16_Sort : Int → Nat → (Nat → Nat → Lf) → (Nat → Nat → Nat → (Nat → Nat → Lf) → Prop) → Prop := Classical.choose (⟨r16_Sort.d, rfl⟩ : ∃ f, f = r16_Sort.d)
theorem r16_Sort.is : r16_Sort = r16_Sort.d := Classical.choose_spec (⟨r16_Sort.d, rfl⟩ : ∃ f, f = r16_Sort.d)
end Go.Ev.S

/- The functions as the evaluator has them: what each comes to. -/
set_option maxRecDepth 100000
set_option linter.unusedVariables false
set_option linter.unusedSimpArgs false
namespace Go.Ev.S
open Go Go.Ev
end Go.Ev.S

/- The functions as the evaluator has them: what each comes to. -/
set_option maxRecDepth 100000
set_option linter.unusedVariables false
set_option linter.unusedSimpArgs false
namespace Go.Ev.S
open Go Go.Ev
end Go.Ev.S

/- The functions as the evaluator has them: what each comes to. -/
set_option maxRecDepth 100000
set_option linter.unusedVariables false
set_option linter.unusedSimpArgs false
namespace Go.Ev.S
open Go Go.Ev
end Go.Ev.S

/- The functions as the evaluator has them: what each comes to. -/
set_option maxRecDepth 100000
set_option linter.unusedVariables false
set_option linter.unusedSimpArgs false
namespace Go.Ev.S
open Go Go.Ev
end Go.Ev.S

/- The functions as the evaluator has them: what each comes to. -/
set_option maxRecDepth 100000
set_option linter.unusedVariables false
set_option linter.unusedSimpArgs false
namespace Go.Ev.S
open Go Go.Ev
end Go.Ev.S

/- The functions as the evaluator has them: what each comes to. -/
set_option maxRecDepth 100000
set_option linter.unusedVariables false
set_option linter.unusedSimpArgs false
namespace Go.Ev.S
open Go Go.Ev
end Go.Ev.S

/- The functions as the evaluator has them: what each comes to. -/
set_option maxRecDepth 100000
set_option linter.unusedVariables false
set_option linter.unusedSimpArgs false
namespace Go.Ev.S
open Go Go.Ev
end Go.Ev.S

/- The functions as the evaluator has them: what each comes to. -/
set_option maxRecDepth 100000
set_option linter.unusedVariables false
set_option linter.unusedSimpArgs false
namespace Go.Ev.S
open Go Go.Ev
end Go.Ev.S
