/- The functions as the evaluator has them: what each comes to. -/
import Derived.Test.YtfglhfahphncdaaGreatDoorEvC
set_option maxRecDepth 100000
set_option linter.unusedVariables false
set_option linter.unusedSimpArgs false
namespace Go.Ev.S
open Go Go.Ev
def bits_Len64.d (a0 : Int) (K : Int → Prop) : Prop :=
  br (leI 4294967296 a0) (br (leI 65536 (shrI .u64 a0 32)) (br (leI 256 (shrI .u64 (shrI .u64 a0 32) 16)) (gd (leI 0 (cvI .u8 (shrI .u64 (shrI .u64 (shrI .u64 a0 32) 16) 8)) && ltI (cvI .u8 (shrI .u64 (shrI .u64 (shrI .u64 a0 32) 16) 8)) 256) (K (addI .i64 56 (cvI .i64 (byteAt [0, 1, 2, 2, 3, 3, 3, 3, 4, 4, 4, 4, 4, 4, 4, 4, 5, 5, 5, 5, 5, 5, 5, 5, 5, 5, 5, 5, 5, 5, 5, 5, 6, 6, 6, 6, 6, 6, 6, 6, 6, 6, 6, 6, 6, 6, 6, 6, 6, 6, 6, 6, 6, 6, 6, 6, 6, 6, 6, 6, 6, 6, 6, 6, 7, 7, 7, 7, 7, 7, 7, 7, 7, 7, 7, 7, 7, 7, 7, 7, 7, 7, 7, 7, 7, 7, 7, 7, 7, 7, 7, 7, 7, 7, 7, 7, 7, 7, 7, 7, 7, 7, 7, 7, 7, 7, 7, 7, 7, 7, 7, 7, 7, 7, 7, 7, 7, 7, 7, 7, 7, 7, 7, 7, 7, 7, 7, 7, 8, 8, 8, 8, 8, 8, 8, 8, 8, 8, 8, 8, 8, 8, 8, 8, 8, 8, 8, 8, 8, 8, 8, 8, 8, 8, 8, 8, 8, 8, 8, 8, 8, 8, 8, 8, 8, 8, 8, 8, 8, 8, 8, 8, 8, 8, 8, 8, 8, 8, 8, 8, 8, 8, 8, 8, 8, 8, 8, 8, 8, 8, 8, 8, 8, 8, 8, 8, 8, 8, 8, 8, 8, 8, 8, 8, 8, 8, 8, 8, 8, 8, 8, 8, 8, 8, 8, 8, 8, 8, 8, 8, 8, 8, 8, 8, 8, 8, 8, 8, 8, 8, 8, 8, 8, 8, 8, 8, 8, 8, 8, 8, 8, 8, 8, 8, 8, 8, 8, 8, 8, 8, 8, 8, 8, 8, 8, 8] (Int.toNat (cvI .u8 (shrI .u64 (shrI .u64 (shrI .u64 a0 32) 16) 8)))))))) (gd (leI 0 (cvI .u8 (shrI .u64 (shrI .u64 a0 32) 16)) && ltI (cvI .u8 (shrI .u64 (shrI .u64 a0 32) 16)) 256) (K (addI .i64 48 (cvI .i64 (byteAt [0, 1, 2, 2, 3, 3, 3, 3, 4, 4, 4, 4, 4, 4, 4, 4, 5, 5, 5, 5, 5, 5, 5, 5, 5, 5, 5, 5, 5, 5, 5, 5, 6, 6, 6, 6, 6, 6, 6, 6, 6, 6, 6, 6, 6, 6, 6, 6, 6, 6, 6, 6, 6, 6, 6, 6, 6, 6, 6, 6, 6, 6, 6, 6, 7, 7, 7, 7, 7, 7, 7, 7, 7, 7, 7, 7, 7, 7, 7, 7, 7, 7, 7, 7, 7, 7, 7, 7, 7, 7, 7, 7, 7, 7, 7, 7, 7, 7, 7, 7, 7, 7, 7, 7, 7, 7, 7, 7, 7, 7, 7, 7, 7, 7, 7, 7, 7, 7, 7, 7, 7, 7, 7, 7, 7, 7, 7, 7, 8, 8, 8, 8, 8, 8, 8, 8, 8, 8, 8, 8, 8, 8, 8, 8, 8, 8, 8, 8, 8, 8, 8, 8, 8, 8, 8, 8, 8, 8, 8, 8, 8, 8, 8, 8, 8, 8, 8, 8, 8, 8, 8, 8, 8, 8, 8, 8, 8, 8, 8, 8, 8, 8, 8, 8, 8, 8, 8, 8, 8, 8, 8, 8, 8, 8, 8, 8, 8, 8, 8, 8, 8, 8, 8, 8, 8, 8, 8, 8, 8, 8, 8, 8, 8, 8, 8, 8, 8, 8, 8, 8, 8, 8, 8, 8, 8, 8, 8, 8, 8, 8, 8, 8, 8, 8, 8, 8, 8, 8, 8, 8, 8, 8, 8, 8, 8, 8, 8, 8, 8, 8, 8, 8, 8, 8, 8, 8] (Int.toNat (cvI .u8 (shrI .u64 (shrI .u64 a0 32) 16))))))))) (br (leI 256 (shrI .u64 a0 32)) (gd (leI 0 (cvI .u8 (shrI .u64 (shrI .u64 a0 32) 8)) && ltI (cvI .u8 (shrI .u64 (shrI .u64 a0 32) 8)) 256) (K (addI .i64 40 (cvI .i64 (byteAt [0, 1, 2, 2, 3, 3, 3, 3, 4, 4, 4, 4, 4, 4, 4, 4, 5, 5, 5, 5, 5, 5, 5, 5, 5, 5, 5, 5, 5, 5, 5, 5, 6, 6, 6, 6, 6, 6, 6, 6, 6, 6, 6, 6, 6, 6, 6, 6, 6, 6, 6, 6, 6, 6, 6, 6, 6, 6, 6, 6, 6, 6, 6, 6, 7, 7, 7, 7, 7, 7, 7, 7, 7, 7, 7, 7, 7, 7, 7, 7, 7, 7, 7, 7, 7, 7, 7, 7, 7, 7, 7, 7, 7, 7, 7, 7, 7, 7, 7, 7, 7, 7, 7, 7, 7, 7, 7, 7, 7, 7, 7, 7, 7, 7, 7, 7, 7, 7, 7, 7, 7, 7, 7, 7, 7, 7, 7, 7, 8, 8, 8, 8, 8, 8, 8, 8, 8, 8, 8, 8, 8, 8, 8, 8, 8, 8, 8, 8, 8, 8, 8, 8, 8, 8, 8, 8, 8, 8, 8, 8, 8, 8, 8, 8, 8, 8, 8, 8, 8, 8, 8, 8, 8, 8, 8, 8, 8, 8, 8, 8, 8, 8, 8, 8, 8, 8, 8, 8, 8, 8, 8, 8, 8, 8, 8, 8, 8, 8, 8, 8, 8, 8, 8, 8, 8, 8, 8, 8, 8, 8, 8, 8, 8, 8, 8, 8, 8, 8, 8, 8, 8, 8, 8, 8, 8, 8, 8, 8, 8, 8, 8, 8, 8, 8, 8, 8, 8, 8, 8, 8, 8, 8, 8, 8, 8, 8, 8, 8, 8, 8, 8, 8, 8, 8, 8, 8] (Int.toNat (cvI .u8 (shrI .u64 (shrI .u64 a0 32) 8)))))))) (gd (leI 0 (cvI .u8 (shrI .u64 a0 32)) && ltI (cvI .u8 (shrI .u64 a0 32)) 256) (K (addI .i64 32 (cvI .i64 (byteAt [0, 1, 2, 2, 3, 3, 3, 3, 4, 4, 4, 4, 4, 4, 4, 4, 5, 5, 5, 5, 5, 5, 5, 5, 5, 5, 5, 5, 5, 5, 5, 5, 6, 6, 6, 6, 6, 6, 6, 6, 6, 6, 6, 6, 6, 6, 6, 6, 6, 6, 6, 6, 6, 6, 6, 6, 6, 6, 6, 6, 6, 6, 6, 6, 7, 7, 7, 7, 7, 7, 7, 7, 7, 7, 7, 7, 7, 7, 7, 7, 7, 7, 7, 7, 7, 7, 7, 7, 7, 7, 7, 7, 7, 7, 7, 7, 7, 7, 7, 7, 7, 7, 7, 7, 7, 7, 7, 7, 7, 7, 7, 7, 7, 7, 7, 7, 7, 7, 7, 7, 7, 7, 7, 7, 7, 7, 7, 7, 8, 8, 8, 8, 8, 8, 8, 8, 8, 8, 8, 8, 8, 8, 8, 8, 8, 8, 8, 8, 8, 8, 8, 8, 8, 8, 8, 8, 8, 8, 8, 8, 8, 8, 8, 8, 8, 8, 8, 8, 8, 8, 8, 8, 8, 8, 8, 8, 8, 8, 8, 8, 8, 8, 8, 8, 8, 8, 8, 8, 8, 8, 8, 8, 8, 8, 8, 8, 8, 8, 8, 8, 8, 8, 8, 8, 8, 8, 8, 8, 8, 8, 8, 8, 8, 8, 8, 8, 8, 8, 8, 8, 8, 8, 8, 8, 8, 8, 8, 8, 8, 8, 8, 8, 8, 8, 8, 8, 8, 8, 8, 8, 8, 8, 8, 8, 8, 8, 8, 8, 8, 8, 8, 8, 8, 8, 8, 8] (Int.toNat (cvI .u8 (shrI .u64 a0 32)))))))))) (br (leI 65536 a0) (br (leI 256 (shrI .u64 a0 16)) (gd (leI 0 (cvI .u8 (shrI .u64 (shrI .u64 a0 16) 8)) && ltI (cvI .u8 (shrI .u64 (shrI .u64 a0 16) 8)) 256) (K (addI .i64 24 (cvI .i64 (byteAt [0, 1, 2, 2, 3, 3, 3, 3, 4, 4, 4, 4, 4, 4, 4, 4, 5, 5, 5, 5, 5, 5, 5, 5, 5, 5, 5, 5, 5, 5, 5, 5, 6, 6, 6, 6, 6, 6, 6, 6, 6, 6, 6, 6, 6, 6, 6, 6, 6, 6, 6, 6, 6, 6, 6, 6, 6, 6, 6, 6, 6, 6, 6, 6, 7, 7, 7, 7, 7, 7, 7, 7, 7, 7, 7, 7, 7, 7, 7, 7, 7, 7, 7, 7, 7, 7, 7, 7, 7, 7, 7, 7, 7, 7, 7, 7, 7, 7, 7, 7, 7, 7, 7, 7, 7, 7, 7, 7, 7, 7, 7, 7, 7, 7, 7, 7, 7, 7, 7, 7, 7, 7, 7, 7, 7, 7, 7, 7, 8, 8, 8, 8, 8, 8, 8, 8, 8, 8, 8, 8, 8, 8, 8, 8, 8, 8, 8, 8, 8, 8, 8, 8, 8, 8, 8, 8, 8, 8, 8, 8, 8, 8, 8, 8, 8, 8, 8, 8, 8, 8, 8, 8, 8, 8, 8, 8, 8, 8, 8, 8, 8, 8, 8, 8, 8, 8, 8, 8, 8, 8, 8, 8, 8, 8, 8, 8, 8, 8, 8, 8, 8, 8, 8, 8, 8, 8, 8, 8, 8, 8, 8, 8, 8, 8, 8, 8, 8, 8, 8, 8, 8, 8, 8, 8, 8, 8, 8, 8, 8, 8, 8, 8, 8, 8, 8, 8, 8, 8, 8, 8, 8, 8, 8, 8, 8, 8, 8, 8, 8, 8, 8, 8, 8, 8, 8, 8] (Int.toNat (cvI .u8 (shrI .u64 (shrI .u64 a0 16) 8)))))))) (gd (leI 0 (cvI .u8 (shrI .u64 a0 16)) && ltI (cvI .u8 (shrI .u64 a0 16)) 256) (K (addI .i64 16 (cvI .i64 (byteAt [0, 1, 2, 2, 3, 3, 3, 3, 4, 4, 4, 4, 4, 4, 4, 4, 5, 5, 5, 5, 5, 5, 5, 5, 5, 5, 5, 5, 5, 5, 5, 5, 6, 6, 6, 6, 6, 6, 6, 6, 6, 6, 6, 6, 6, 6, 6, 6, 6, 6, 6, 6, 6, 6, 6, 6, 6, 6, 6, 6, 6, 6, 6, 6, 7, 7, 7, 7, 7, 7, 7, 7, 7, 7, 7, 7, 7, 7, 7, 7, 7, 7, 7, 7, 7, 7, 7, 7, 7, 7, 7, 7, 7, 7, 7, 7, 7, 7, 7, 7, 7, 7, 7, 7, 7, 7, 7, 7, 7, 7, 7, 7, 7, 7, 7, 7, 7, 7, 7, 7, 7, 7, 7, 7, 7, 7, 7, 7, 8, 8, 8, 8, 8, 8, 8, 8, 8, 8, 8, 8, 8, 8, 8, 8, 8, 8, 8, 8, 8, 8, 8, 8, 8, 8, 8, 8, 8, 8, 8, 8, 8, 8, 8, 8, 8, 8, 8, 8, 8, 8, 8, 8, 8, 8, 8, 8, 8, 8, 8, 8, 8, 8, 8, 8, 8, 8, 8, 8, 8, 8, 8, 8, 8, 8, 8, 8, 8, 8, 8, 8, 8, 8, 8, 8, 8, 8, 8, 8, 8, 8, 8, 8, 8, 8, 8, 8, 8, 8, 8, 8, 8, 8, 8, 8, 8, 8, 8, 8, 8, 8, 8, 8, 8, 8, 8, 8, 8, 8, 8, 8, 8, 8, 8, 8, 8, 8, 8, 8, 8, 8, 8, 8, 8, 8, 8, 8] (Int.toNat (cvI .u8 (shrI .u64 a0 16))))))))) (br (leI 256 a0) (gd (leI 0 (cvI .u8 (shrI .u64 a0 8)) && ltI (cvI .u8 (shrI .u64 a0 8)) 256) (K (addI .i64 8 (cvI .i64 (byteAt [0, 1, 2, 2, 3, 3, 3, 3, 4, 4, 4, 4, 4, 4, 4, 4, 5, 5, 5, 5, 5, 5, 5, 5, 5, 5, 5, 5, 5, 5, 5, 5, 6, 6, 6, 6, 6, 6, 6, 6, 6, 6, 6, 6, 6, 6, 6, 6, 6, 6, 6, 6, 6, 6, 6, 6, 6, 6, 6, 6, 6, 6, 6, 6, 7, 7, 7, 7, 7, 7, 7, 7, 7, 7, 7, 7, 7, 7, 7, 7, 7, 7, 7, 7, 7, 7, 7, 7, 7, 7, 7, 7, 7, 7, 7, 7, 7, 7, 7, 7, 7, 7, 7, 7, 7, 7, 7, 7, 7, 7, 7, 7, 7, 7, 7, 7, 7, 7, 7, 7, 7, 7, 7, 7, 7, 7, 7, 7, 8, 8, 8, 8, 8, 8, 8, 8, 8, 8, 8, 8, 8, 8, 8, 8, 8, 8, 8, 8, 8, 8, 8, 8, 8, 8, 8, 8, 8, 8, 8, 8, 8, 8, 8, 8, 8, 8, 8, 8, 8, 8, 8, 8, 8, 8, 8, 8, 8, 8, 8, 8, 8, 8, 8, 8, 8, 8, 8, 8, 8, 8, 8, 8, 8, 8, 8, 8, 8, 8, 8, 8, 8, 8, 8, 8, 8, 8, 8, 8, 8, 8, 8, 8, 8, 8, 8, 8, 8, 8, 8, 8, 8, 8, 8, 8, 8, 8, 8, 8, 8, 8, 8, 8, 8, 8, 8, 8, 8, 8, 8, 8, 8, 8, 8, 8, 8, 8, 8, 8, 8, 8, 8, 8, 8, 8, 8, 8] (Int.toNat (cvI .u8 (shrI .u64 a0 8)))))))) (gd (leI 0 (cvI .u8 a0) && ltI (cvI .u8 a0) 256) (K (addI .i64 0 (cvI .i64 (byteAt [0, 1, 2, 2, 3, 3, 3, 3, 4, 4, 4, 4, 4, 4, 4, 4, 5, 5, 5, 5, 5, 5, 5, 5, 5, 5, 5, 5, 5, 5, 5, 5, 6, 6, 6, 6, 6, 6, 6, 6, 6, 6, 6, 6, 6, 6, 6, 6, 6, 6, 6, 6, 6, 6, 6, 6, 6, 6, 6, 6, 6, 6, 6, 6, 7, 7, 7, 7, 7, 7, 7, 7, 7, 7, 7, 7, 7, 7, 7, 7, 7, 7, 7, 7, 7, 7, 7, 7, 7, 7, 7, 7, 7, 7, 7, 7, 7, 7, 7, 7, 7, 7, 7, 7, 7, 7, 7, 7, 7, 7, 7, 7, 7, 7, 7, 7, 7, 7, 7, 7, 7, 7, 7, 7, 7, 7, 7, 7, 8, 8, 8, 8, 8, 8, 8, 8, 8, 8, 8, 8, 8, 8, 8, 8, 8, 8, 8, 8, 8, 8, 8, 8, 8, 8, 8, 8, 8, 8, 8, 8, 8, 8, 8, 8, 8, 8, 8, 8, 8, 8, 8, 8, 8, 8, 8, 8, 8, 8, 8, 8, 8, 8, 8, 8, 8, 8, 8, 8, 8, 8, 8, 8, 8, 8, 8, 8, 8, 8, 8, 8, 8, 8, 8, 8, 8, 8, 8, 8, 8, 8, 8, 8, 8, 8, 8, 8, 8, 8, 8, 8, 8, 8, 8, 8, 8, 8, 8, 8, 8, 8, 8, 8, 8, 8, 8, 8, 8, 8, 8, 8, 8, 8, 8, 8, 8, 8, 8, 8, 8, 8, 8, 8, 8, 8, 8, 8] (Int.toNat (cvI .u8 a0)))))))))
noncomputable def bits_Len64 : Int → (Int → Prop) → Prop := Classical.choose (⟨bits_Len64.d, rfl⟩ : ∃ f, f = bits_Len64.d)
theorem bits_Len64.is : bits_Len64 = bits_Len64.d := Classical.choose_spec (⟨bits_Len64.d, rfl⟩ : ∃ f, f = bits_Len64.d)
def bits_TrailingZeros64.d (a0 : Int) (K : Int → Prop) : Prop :=
  br (eqI a0 0) (K 64) ((leI 0 (shrI .u64 (mulI .u64 (andI .u64 a0 (negI .u64 a0)) 285870213051353865) 58) && ltI (shrI .u64 (mulI .u64 (andI .u64 a0 (negI .u64 a0)) 285870213051353865) 58) 64) = true ∧ K (cvI .i64 (tab_deBruijn64tab (Int.toNat (shrI .u64 (mulI .u64 (andI .u64 a0 (negI .u64 a0)) 285870213051353865) 58)))))
noncomputable def bits_TrailingZeros64 : Int → (Int → Prop) → Prop := Classical.choose (⟨bits_TrailingZeros64.d, rfl⟩ : ∃ f, f = bits_TrailingZeros64.d)
theorem bits_TrailingZeros64.is : bits_TrailingZeros64 = bits_TrailingZeros64.d := Classical.choose_spec (⟨bits_TrailingZeros64.d, rfl⟩ : ∃ f, f = bits_TrailingZeros64.d)
end Go.Ev.S

/- The functions as the evaluator has them: what each comes to. -/
set_option maxRecDepth 100000
set_option linter.unusedVariables false
set_option linter.unusedSimpArgs false
namespace Go.Ev.S
open Go Go.Ev
def word_Len.d (a0 : Int) (K : Int → Prop) : Prop :=
  bits_Len64 a0 fun y0 => K y0
noncomputable def word_Len : Int → (Int → Prop) → Prop := Classical.choose (⟨word_Len.d, rfl⟩ : ∃ f, f = word_Len.d)
theorem word_Len.is : word_Len = word_Len.d := Classical.choose_spec (⟨word_Len.d, rfl⟩ : ∃ f, f = word_Len.d)
def word_Low.d (a0 : Int) (K : Int → Prop) : Prop :=
  bits_TrailingZeros64 a0 fun y0 => K y0
noncomputable def word_Low : Int → (Int → Prop) → Prop := Classical.choose (⟨word_Low.d, rfl⟩ : ∃ f, f = word_Low.d)
theorem word_Low.is : word_Low = word_Low.d := Classical.choose_spec (⟨word_Low.d, rfl⟩ : ∃ f, f = word_Low.d)
def word_count.d (a0 : Int) (K : Int → Prop) : Prop :=
  K (cvI .u64 (minI (maxI a0 0) 64))
noncomputable def word_count : Int → (Int → Prop) → Prop := Classical.choose (⟨word_count.d, rfl⟩ : ∃ f, f = word_count.d)
theorem word_count.is : word_count = word_count.d := Classical.choose_spec (⟨word_count.d, rfl⟩ : ∃ f, f = word_count.d)
def word_Mask.d (a0 : Int) (K : Int → Prop) : Prop :=
  word_count a0 fun y0 => gd (!ltI y0 0) (K (subI .u64 (shlI .u64 1 y0) 1))
noncomputable def word_Mask : Int → (Int → Prop) → Prop := Classical.choose (⟨word_Mask.d, rfl⟩ : ∃ f, f = word_Mask.d)
theorem word_Mask.is : word_Mask = word_Mask.d := Classical.choose_spec (⟨word_Mask.d, rfl⟩ : ∃ f, f = word_Mask.d)
end Go.Ev.S

/- The functions as the evaluator has them: what each comes to. -/
set_option maxRecDepth 100000
set_option linter.unusedVariables false
set_option linter.unusedSimpArgs false
namespace Go.Ev.S
open Go Go.Ev
def wide_And.l2.step (again : Int → (Nat → Int) → (Nat → Int) → (Nat → Int) → Prop) (k0 : (Nat → Int) → (Nat → Int) → Prop) (x0 : Int) (x1 : Nat → Int) (x2 : Nat → Int) (x3 : Nat → Int) : Prop :=
  br (ltI x0 6) (gd (leI 0 x0 && ltI x0 6) (gd (leI 0 x0 && ltI x0 6) (gd (leI 0 x0 && ltI x0 6) (again (addI .i64 x0 1) (upd x1 (Int.toNat x0) (andI .u64 (x1 (Int.toNat x0)) (x2 (Int.toNat x0)))) x2 x3)))) (k0 x1 x3)
def wide_And.l2 (k0 : (Nat → Int) → (Nat → Int) → Prop) : Nat → Int → (Nat → Int) → (Nat → Int) → (Nat → Int) → Prop
  | 0 => fun _ _ _ _ => False
  | n + 1 => wide_And.l2.step (wide_And.l2 k0 n) k0
def wide_And.l2.entry : LoopEntry := ⟨LV.mk 20 [(0, 20)] 16 0 false, 0, 19, fun vs H K => match vs, H with
  | [EV.ptr 0 [], EV.ptr 1 [], EV.ptr 2 [], EV.int .i64 x0], [some (EV.arr .u64 6 x1), some (EV.arr .u64 6 x2), some (EV.arr .u64 6 x3)] => ∃ n, wide_And.l2 (fun y0 y1 => K (.exit 0) [EV.ptr 0 [], EV.ptr 1 []] [some (EV.arr .u64 6 y0), some (EV.arr .u64 6 y1)]) n x0 x1 x2 x3
  | _, _ => False⟩
def wide_And.d (a0 : Nat → Int) (a1 : Nat → Int) (K : (Nat → Int) → Prop) : Prop :=
  ∃ n, wide_And.l2 (fun y0 y1 => K y0) n 0 a0 a1 fun x => 0
noncomputable def wide_And : (Nat → Int) → (Nat → Int) → ((Nat → Int) → Prop) → Prop := Classical.choose (⟨wide_And.d, rfl⟩ : ∃ f, f = wide_And.d)
theorem wide_And.is : wide_And = wide_And.d := Classical.choose_spec (⟨wide_And.d, rfl⟩ : ∃ f, f = wide_And.d)
def wide_Bit.d (a0 : Nat → Int) (a1 : Int) (K : Bool → Prop) : Prop :=
  br (leI 0 a1) (br (ltI a1 384) (gd (leI 0 (quoI .i64 a1 64) && ltI (quoI .i64 a1 64) 6) (gd (!ltI (cvI .u64 (remI .i64 a1 64)) 0) (K (eqI (andI .u64 (shrI .u64 (a0 (Int.toNat (quoI .i64 a1 64))) (cvI .u64 (remI .i64 a1 64))) 1) 1)))) (K false)) (K false)
noncomputable def wide_Bit : (Nat → Int) → Int → (Bool → Prop) → Prop := Classical.choose (⟨wide_Bit.d, rfl⟩ : ∃ f, f = wide_Bit.d)
theorem wide_Bit.is : wide_Bit = wide_Bit.d := Classical.choose_spec (⟨wide_Bit.d, rfl⟩ : ∃ f, f = wide_Bit.d)
def wide_Len.l2.step (again : Int → (Nat → Int) → Prop) (k0 : Int → Prop) (k1 : Prop) (x0 : Int) (x1 : Nat → Int) : Prop :=
  br (leI 0 x0) (gd (leI 0 x0 && ltI x0 6) (br (!eqI (x1 (Int.toNat x0)) 0) (gd (leI 0 x0 && ltI x0 6) (word_Len (x1 (Int.toNat x0)) fun y0 => k0 (addI .i64 (mulI .i64 64 x0) y0))) (again (subI .i64 x0 1) x1))) k1
def wide_Len.l2 (k0 : Int → Prop) (k1 : Prop) : Nat → Int → (Nat → Int) → Prop
  | 0 => fun _ _ => False
  | n + 1 => wide_Len.l2.step (wide_Len.l2 k0 k1 n) k0 k1
def wide_Len.l2.entry : LoopEntry := ⟨LV.mk 0 [(0, 0)] 4 0 false, 0, 19, fun vs H K => match vs, H with
  | [EV.ptr 0 [], EV.int .i64 x0], [some (EV.arr .u64 6 x1)] => ∃ n, wide_Len.l2 (fun y0 => K .ret [EV.int .i64 y0] []) (K (.exit 0) [] []) n x0 x1
  | _, _ => False⟩
def wide_Len.d (a0 : Nat → Int) (K : Int → Prop) : Prop :=
  ∃ n, wide_Len.l2 (fun y0 => K y0) (K 0) n 5 a0
noncomputable def wide_Len : (Nat → Int) → (Int → Prop) → Prop := Classical.choose (⟨wide_Len.d, rfl⟩ : ∃ f, f = wide_Len.d)
theorem wide_Len.is : wide_Len = wide_Len.d := Classical.choose_spec (⟨wide_Len.d, rfl⟩ : ∃ f, f = wide_Len.d)
def wide_count.d (a0 : Int) (K : Int → Prop) : Prop :=
  K (minI (maxI a0 0) 384)
noncomputable def wide_count : Int → (Int → Prop) → Prop := Classical.choose (⟨wide_count.d, rfl⟩ : ∃ f, f = wide_count.d)
theorem wide_count.is : wide_count = wide_count.d := Classical.choose_spec (⟨wide_count.d, rfl⟩ : ∃ f, f = wide_count.d)
def wide_Left.l5.step (again : Bool → Int → Int → Int → (Nat → Int) → (Nat → Int) → Prop) (k0 : Bool → (Nat → Int) → Prop) (x0 : Bool) (x1 : Int) (x2 : Int) (x3 : Int) (x4 : Nat → Int) (x5 : Nat → Int) : Prop :=
  br (leI x1 x3) (gd (leI 0 (subI .i64 x3 x1) && ltI (subI .i64 x3 x1) 6) (gd (!ltI x2 0) (gd (leI 0 x3 && ltI x3 6) (br (ltI x1 x3) (gd (leI 0 x3 && ltI x3 6) (gd (leI 0 (subI .i64 (subI .i64 x3 x1) 1) && ltI (subI .i64 (subI .i64 x3 x1) 1) 6) (gd (!ltI (subI .u64 64 x2) 0) (gd (leI 0 x3 && ltI x3 6) (again x0 x1 x2 (subI .i64 x3 1) x4 (upd (upd x5 (Int.toNat x3) (shlI .u64 (x4 (Int.toNat (subI .i64 x3 x1))) x2)) (Int.toNat x3) (orI .u64 (upd x5 (Int.toNat x3) (shlI .u64 (x4 (Int.toNat (subI .i64 x3 x1))) x2) (Int.toNat x3)) (shrI .u64 (x4 (Int.toNat (subI .i64 (subI .i64 x3 x1) 1))) (subI .u64 64 x2))))))))) (again x0 x1 x2 (subI .i64 x3 1) x4 (upd x5 (Int.toNat x3) (shlI .u64 (x4 (Int.toNat (subI .i64 x3 x1))) x2))))))) (k0 x0 x5)
def wide_Left.l5 (k0 : Bool → (Nat → Int) → Prop) : Nat → Bool → Int → Int → Int → (Nat → Int) → (Nat → Int) → Prop
  | 0 => fun _ _ _ _ _ _ => False
  | n + 1 => wide_Left.l5.step (wide_Left.l5 k0 n) k0
def wide_Left.l5.entry : LoopEntry := ⟨LV.mk 48 [(0, 48)] 48 0 false, 0, 59, fun vs H K => match vs, H with
  | [EV.ptr 0 [], EV.ptr 1 [], EV.bool x0, EV.int .i64 x1, EV.int .u64 x2, EV.int .i64 x3], [some (EV.arr .u64 6 x4), some (EV.arr .u64 6 x5)] => ∃ n, wide_Left.l5 (fun y0 y1 => K (.exit 0) [EV.ptr 0 [], EV.bool y0] [some (EV.arr .u64 6 y1)]) n x0 x1 x2 x3 x4 x5
  | _, _ => False⟩
def wide_Left.d (a0 : Nat → Int) (a1 : Int) (K : (Nat → Int) → Bool → Prop) : Prop :=
  wide_count a1 fun y0 => wide_Len a0 fun y0_1 => br (ltI 384 (addI .i64 y0_1 y0)) (∃ n, wide_Left.l5 (fun y0 y1 => K y1 y0) n (!eqN 6 a0 fun x => 0) (quoI .i64 y0 64) (cvI .u64 (remI .i64 y0 64)) 5 a0 fun x => 0) (∃ n, wide_Left.l5 (fun y0 y1 => K y1 y0) n false (quoI .i64 y0 64) (cvI .u64 (remI .i64 y0 64)) 5 a0 fun x => 0)
noncomputable def wide_Left : (Nat → Int) → Int → ((Nat → Int) → Bool → Prop) → Prop := Classical.choose (⟨wide_Left.d, rfl⟩ : ∃ f, f = wide_Left.d)
theorem wide_Left.is : wide_Left = wide_Left.d := Classical.choose_spec (⟨wide_Left.d, rfl⟩ : ∃ f, f = wide_Left.d)
def wide_Low.l2.step (again : (Nat → Int) → Int → Prop) (k0 : Int → Prop) (k1 : Prop) (x0 : Nat → Int) (x1 : Int) : Prop :=
  br (ltI x1 6) (gd (leI 0 x1 && ltI x1 6) (br (!eqI (x0 (Int.toNat x1)) 0) (word_Low (x0 (Int.toNat x1)) fun y0 => k0 (addI .i64 (mulI .i64 64 x1) y0)) (again x0 (addI .i64 x1 1)))) k1
def wide_Low.l2 (k0 : Int → Prop) (k1 : Prop) : Nat → (Nat → Int) → Int → Prop
  | 0 => fun _ _ => False
  | n + 1 => wide_Low.l2.step (wide_Low.l2 k0 k1 n) k0 k1
def wide_Low.l2.entry : LoopEntry := ⟨LV.mk 0 [(0, 0)] 4 0 false, 0, 18, fun vs H K => match vs, H with
  | [EV.arr .u64 6 x0, EV.int .i64 x1], [] => ∃ n, wide_Low.l2 (fun y0 => K .ret [EV.int .i64 y0] []) (K (.exit 0) [] []) n x0 x1
  | _, _ => False⟩
def wide_Low.d (a0 : Nat → Int) (K : Int → Prop) : Prop :=
  ∃ n, wide_Low.l2 (fun y0 => K y0) (K 384) n a0 0
noncomputable def wide_Low : (Nat → Int) → (Int → Prop) → Prop := Classical.choose (⟨wide_Low.d, rfl⟩ : ∃ f, f = wide_Low.d)
theorem wide_Low.is : wide_Low = wide_Low.d := Classical.choose_spec (⟨wide_Low.d, rfl⟩ : ∃ f, f = wide_Low.d)
def wide_Mask.l4.step (again : Int → Int → (Nat → Int) → (Nat → Int) → Prop) (k0 : (Nat → Int) → (Nat → Int) → Prop) (x0 : Int) (x1 : Int) (x2 : Nat → Int) (x3 : Nat → Int) : Prop :=
  br (ltI x1 6) (word_Mask (subI .i64 x0 (mulI .i64 64 x1)) fun y0 => gd (leI 0 x1 && ltI x1 6) (again x0 (addI .i64 x1 1) x2 (upd x3 (Int.toNat x1) y0))) (k0 x2 x3)
def wide_Mask.l4 (k0 : (Nat → Int) → (Nat → Int) → Prop) : Nat → Int → Int → (Nat → Int) → (Nat → Int) → Prop
  | 0 => fun _ _ _ _ => False
  | n + 1 => wide_Mask.l4.step (wide_Mask.l4 k0 n) k0
def wide_Mask.l4.entry : LoopEntry := ⟨LV.mk 12 [(0, 12)] 4 0 false, 0, 19, fun vs H K => match vs, H with
  | [EV.int .i64 x0, EV.ptr 0 [], EV.ptr 1 [], EV.int .i64 x1], [some (EV.arr .u64 6 x2), some (EV.arr .u64 6 x3)] => ∃ n, wide_Mask.l4 (fun y0 y1 => K (.exit 0) [EV.ptr 0 [], EV.ptr 1 []] [some (EV.arr .u64 6 y0), some (EV.arr .u64 6 y1)]) n x0 x1 x2 x3
  | _, _ => False⟩
def wide_Mask.d (a0 : Int) (K : (Nat → Int) → Prop) : Prop :=
  wide_count a0 fun y0 => ∃ n, wide_Mask.l4 (fun y0 y1 => K y1) n y0 0 (fun x => 0) fun x => 0
noncomputable def wide_Mask : Int → ((Nat → Int) → Prop) → Prop := Classical.choose (⟨wide_Mask.d, rfl⟩ : ∃ f, f = wide_Mask.d)
theorem wide_Mask.is : wide_Mask = wide_Mask.d := Classical.choose_spec (⟨wide_Mask.d, rfl⟩ : ∃ f, f = wide_Mask.d)
def wide_Of.d (a0 : Int) (K : (Nat → Int) → Prop) : Prop :=
  K (upd (fun x => 0) 0 a0)
noncomputable def wide_Of : Int → ((Nat → Int) → Prop) → Prop := Classical.choose (⟨wide_Of.d, rfl⟩ : ∃ f, f = wide_Of.d)
theorem wide_Of.is : wide_Of = wide_Of.d := Classical.choose_spec (⟨wide_Of.d, rfl⟩ : ∃ f, f = wide_Of.d)
def wide_OfBits.d (a0_0 : Int) (a0_1 : Int) (K : (Nat → Int) → Prop) : Prop :=
  K (upd (upd (fun x => 0) 0 a0_1) 1 a0_0)
noncomputable def wide_OfBits : Int → Int → ((Nat → Int) → Prop) → Prop := Classical.choose (⟨wide_OfBits.d, rfl⟩ : ∃ f, f = wide_OfBits.d)
theorem wide_OfBits.is : wide_OfBits = wide_OfBits.d := Classical.choose_spec (⟨wide_OfBits.d, rfl⟩ : ∃ f, f = wide_OfBits.d)
def wide_Or.l2.step (again : Int → (Nat → Int) → (Nat → Int) → (Nat → Int) → Prop) (k0 : (Nat → Int) → (Nat → Int) → Prop) (x0 : Int) (x1 : Nat → Int) (x2 : Nat → Int) (x3 : Nat → Int) : Prop :=
  br (ltI x0 6) (gd (leI 0 x0 && ltI x0 6) (gd (leI 0 x0 && ltI x0 6) (gd (leI 0 x0 && ltI x0 6) (again (addI .i64 x0 1) (upd x1 (Int.toNat x0) (orI .u64 (x1 (Int.toNat x0)) (x2 (Int.toNat x0)))) x2 x3)))) (k0 x1 x3)
def wide_Or.l2 (k0 : (Nat → Int) → (Nat → Int) → Prop) : Nat → Int → (Nat → Int) → (Nat → Int) → (Nat → Int) → Prop
  | 0 => fun _ _ _ _ => False
  | n + 1 => wide_Or.l2.step (wide_Or.l2 k0 n) k0
def wide_Or.l2.entry : LoopEntry := ⟨LV.mk 20 [(0, 20)] 16 0 false, 0, 19, fun vs H K => match vs, H with
  | [EV.ptr 0 [], EV.ptr 1 [], EV.ptr 2 [], EV.int .i64 x0], [some (EV.arr .u64 6 x1), some (EV.arr .u64 6 x2), some (EV.arr .u64 6 x3)] => ∃ n, wide_Or.l2 (fun y0 y1 => K (.exit 0) [EV.ptr 0 [], EV.ptr 1 []] [some (EV.arr .u64 6 y0), some (EV.arr .u64 6 y1)]) n x0 x1 x2 x3
  | _, _ => False⟩
def wide_Or.d (a0 : Nat → Int) (a1 : Nat → Int) (K : (Nat → Int) → Prop) : Prop :=
  ∃ n, wide_Or.l2 (fun y0 y1 => K y0) n 0 a0 a1 fun x => 0
noncomputable def wide_Or : (Nat → Int) → (Nat → Int) → ((Nat → Int) → Prop) → Prop := Classical.choose (⟨wide_Or.d, rfl⟩ : ∃ f, f = wide_Or.d)
theorem wide_Or.is : wide_Or = wide_Or.d := Classical.choose_spec (⟨wide_Or.d, rfl⟩ : ∃ f, f = wide_Or.d)
def wide_Right.l5.step (again : Bool → Int → Int → Int → (Nat → Int) → (Nat → Int) → Prop) (k0 : Bool → (Nat → Int) → Prop) (x0 : Bool) (x1 : Int) (x2 : Int) (x3 : Int) (x4 : Nat → Int) (x5 : Nat → Int) : Prop :=
  br (ltI (addI .i64 x3 x1) 6) (gd (leI 0 (addI .i64 x3 x1) && ltI (addI .i64 x3 x1) 6) (gd (!ltI x2 0) (gd (leI 0 x3 && ltI x3 6) (br (ltI (addI .i64 x3 x1) 5) (gd (leI 0 x3 && ltI x3 6) (gd (leI 0 (addI .i64 (addI .i64 x3 x1) 1) && ltI (addI .i64 (addI .i64 x3 x1) 1) 6) (gd (!ltI (subI .u64 64 x2) 0) (gd (leI 0 x3 && ltI x3 6) (again x0 x1 x2 (addI .i64 x3 1) x4 (upd (upd x5 (Int.toNat x3) (shrI .u64 (x4 (Int.toNat (addI .i64 x3 x1))) x2)) (Int.toNat x3) (orI .u64 (upd x5 (Int.toNat x3) (shrI .u64 (x4 (Int.toNat (addI .i64 x3 x1))) x2) (Int.toNat x3)) (shlI .u64 (x4 (Int.toNat (addI .i64 (addI .i64 x3 x1) 1))) (subI .u64 64 x2))))))))) (again x0 x1 x2 (addI .i64 x3 1) x4 (upd x5 (Int.toNat x3) (shrI .u64 (x4 (Int.toNat (addI .i64 x3 x1))) x2))))))) (k0 x0 x5)
def wide_Right.l5 (k0 : Bool → (Nat → Int) → Prop) : Nat → Bool → Int → Int → Int → (Nat → Int) → (Nat → Int) → Prop
  | 0 => fun _ _ _ _ _ _ => False
  | n + 1 => wide_Right.l5.step (wide_Right.l5 k0 n) k0
def wide_Right.l5.entry : LoopEntry := ⟨LV.mk 48 [(0, 48)] 48 0 false, 0, 60, fun vs H K => match vs, H with
  | [EV.ptr 0 [], EV.ptr 1 [], EV.bool x0, EV.int .i64 x1, EV.int .u64 x2, EV.int .i64 x3], [some (EV.arr .u64 6 x4), some (EV.arr .u64 6 x5)] => ∃ n, wide_Right.l5 (fun y0 y1 => K (.exit 0) [EV.ptr 0 [], EV.bool y0] [some (EV.arr .u64 6 y1)]) n x0 x1 x2 x3 x4 x5
  | _, _ => False⟩
def wide_Right.d (a0 : Nat → Int) (a1 : Int) (K : (Nat → Int) → Bool → Prop) : Prop :=
  wide_count a1 fun y0 => br (!eqN 6 a0 fun x => 0) (wide_Low a0 fun y0_1 => ∃ n, wide_Right.l5 (fun y0 y1 => K y1 y0) n (ltI y0_1 y0) (quoI .i64 y0 64) (cvI .u64 (remI .i64 y0 64)) 0 a0 fun x => 0) (∃ n, wide_Right.l5 (fun y0 y1 => K y1 y0) n false (quoI .i64 y0 64) (cvI .u64 (remI .i64 y0 64)) 0 a0 fun x => 0)
noncomputable def wide_Right : (Nat → Int) → Int → ((Nat → Int) → Bool → Prop) → Prop := Classical.choose (⟨wide_Right.d, rfl⟩ : ∃ f, f = wide_Right.d)
theorem wide_Right.is : wide_Right = wide_Right.d := Classical.choose_spec (⟨wide_Right.d, rfl⟩ : ∃ f, f = wide_Right.d)
def wide_ToBits.d (a0 : Nat → Int) (K : Int → Int → Bool → Prop) : Prop :=
  br (!eqI (orI .u64 (orI .u64 (orI .u64 (a0 2) (a0 3)) (a0 4)) (a0 5)) 0) (K 0 0 false) (K (a0 1) (a0 0) true)
noncomputable def wide_ToBits : (Nat → Int) → (Int → Int → Bool → Prop) → Prop := Classical.choose (⟨wide_ToBits.d, rfl⟩ : ∃ f, f = wide_ToBits.d)
theorem wide_ToBits.is : wide_ToBits = wide_ToBits.d := Classical.choose_spec (⟨wide_ToBits.d, rfl⟩ : ∃ f, f = wide_ToBits.d)
end Go.Ev.S

/- The functions as the evaluator has them: what each comes to. -/
set_option maxRecDepth 100000
set_option linter.unusedVariables false
set_option linter.unusedSimpArgs false
namespace Go.Ev.S
open Go Go.Ev
def nat_Check.d (a0 : List UInt8) (K : Int → Prop) : Prop :=
  br (ltI 16384 ↑(List.length a0)) (K 2) (br (!eqS a0 []) (gd (ltI 0 ↑(List.length a0)) (br (eqI (byteAt a0 0) 0) (K 2) (K 0))) (K 0))
noncomputable def nat_Check : List UInt8 → (Int → Prop) → Prop := Classical.choose (⟨nat_Check.d, rfl⟩ : ∃ f, f = nat_Check.d)
theorem nat_Check.is : nat_Check = nat_Check.d := Classical.choose_spec (⟨nat_Check.d, rfl⟩ : ∃ f, f = nat_Check.d)
def nat_right.d (a0 : List UInt8) (a1 : List UInt8) (K : Bool → Prop) : Prop :=
  nat_Check a0 fun y0 => br (eqI y0 0) (nat_Check a1 fun y0 => K (eqI y0 0)) (K false)
noncomputable def nat_right : List UInt8 → List UInt8 → (Bool → Prop) → Prop := Classical.choose (⟨nat_right.d, rfl⟩ : ∃ f, f = nat_right.d)
theorem nat_right.is : nat_right = nat_right.d := Classical.choose_spec (⟨nat_right.d, rfl⟩ : ∃ f, f = nat_right.d)
def nat_cut_o.l1.step (again : Nat → Nat → Nat → (Nat → Int) → Prop) (k0 : Nat → Nat → Nat → (Nat → Int) → Prop) (x0 : Nat) (x1 : Nat) (x2 : Nat) (x3 : Nat → Int) : Prop :=
  br (ltI 0 ↑x0) (gd (leI 0 (subI .i64 (↑x0) 1) && ltI (subI .i64 (↑x0) 1) ↑x0) (br (eqI (x3 (Int.toNat (subI .i64 (↑x0) 1))) 0) (gd (leI 0 (subI .i64 (↑x0) 1) && leI (subI .i64 (↑x0) 1) ↑x1) (again (Int.toNat (subI .i64 (↑x0) 1) - 0) (x1 - 0) x2 x3)) (k0 x0 x1 x2 x3))) (k0 x0 x1 x2 x3)
def nat_cut_o.l1 (k0 : Nat → Nat → Nat → (Nat → Int) → Prop) : Nat → Nat → Nat → Nat → (Nat → Int) → Prop
  | 0 => fun _ _ _ _ => False
  | n + 1 => nat_cut_o.l1.step (nat_cut_o.l1 k0 n) k0
def nat_cut_o.l1.entry : LoopEntry := ⟨LV.mk 1 [(0, 1)] 4 1 false, 1, 21, fun vs H K => match vs, H with
  | [EV.slice 0 0 x0 (some x1) 1], [some (EV.arr .u32 x2 x3)] => ∃ n, nat_cut_o.l1 (fun y0 y1 y2 y3 => K (.exit 0) [EV.slice 0 0 y0 (some y1) 1] [some (EV.arr .u32 y2 y3)]) n x0 x1 x2 x3
  | _, _ => False⟩
def nat_cut_o.d (a0l : Nat) (a0c : Nat) (a0n : Nat) (a0 : Nat → Int) (K : Nat → Nat → Nat → (Nat → Int) → Prop) : Prop :=
  ∃ n, nat_cut_o.l1 (fun y0 y1 y2 y3 => K y0 y1 y2 y3) n a0l a0c a0n a0
noncomputable def nat_cut_o : Nat → Nat → Nat → (Nat → Int) → (Nat → Nat → Nat → (Nat → Int) → Prop) → Prop := Classical.choose (⟨nat_cut_o.d, rfl⟩ : ∃ f, f = nat_cut_o.d)
theorem nat_cut_o.is : nat_cut_o = nat_cut_o.d := Classical.choose_spec (⟨nat_cut_o.d, rfl⟩ : ∃ f, f = nat_cut_o.d)
def nat_cut_r.l1.step (again : Nat → (Nat → Int) → Prop) (k0 : Nat → (Nat → Int) → Prop) (x0 : Nat) (x1 : Nat → Int) : Prop :=
  br (ltI 0 ↑x0) (gd (leI 0 (subI .i64 (↑x0) 1) && ltI (subI .i64 (↑x0) 1) ↑x0) (br (eqI (x1 (Int.toNat (subI .i64 (↑x0) 1))) 0) (gd (leI 0 (subI .i64 (↑x0) 1) && leI (subI .i64 (↑x0) 1) ↑x0) (again (Int.toNat (subI .i64 (↑x0) 1) - 0) x1)) (k0 x0 x1))) (k0 x0 x1)
def nat_cut_r.l1 (k0 : Nat → (Nat → Int) → Prop) : Nat → Nat → (Nat → Int) → Prop
  | 0 => fun _ _ => False
  | n + 1 => nat_cut_r.l1.step (nat_cut_r.l1 k0 n) k0
def nat_cut_r.l1.entry : LoopEntry := ⟨LV.mk 1 [(0, 1)] 4 0 false, 0, 21, fun vs H K => match vs, H with
  | [EV.rsI .u32 x0 x1], [] => ∃ n, nat_cut_r.l1 (fun y0 y1 => K (.exit 0) [EV.rsI .u32 y0 y1] []) n x0 x1
  | _, _ => False⟩
def nat_cut_r.d (a0n : Nat) (a0 : Nat → Int) (K : Nat → (Nat → Int) → Prop) : Prop :=
  ∃ n, nat_cut_r.l1 (fun y0 y1 => K y0 y1) n a0n a0
noncomputable def nat_cut_r : Nat → (Nat → Int) → (Nat → (Nat → Int) → Prop) → Prop := Classical.choose (⟨nat_cut_r.d, rfl⟩ : ∃ f, f = nat_cut_r.d)
theorem nat_cut_r.is : nat_cut_r = nat_cut_r.d := Classical.choose_spec (⟨nat_cut_r.d, rfl⟩ : ∃ f, f = nat_cut_r.d)
def nat_number.l4.step (again : Nat → (Nat → Int) → Nat → Nat → Int → Int → Nat → (Nat → Int) → Prop) (k0 : Nat → Nat → Nat → (Nat → Int) → Prop) (x0 : Nat) (x1 : Nat → Int) (x2 : Nat) (x3 : Nat) (x4 : Int) (x5 : Int) (x6 : Nat) (x7 : Nat → Int) : Prop :=
  br (ltI x5 x4) (gd (leI 0 (quoI .i64 x5 4) && ltI (quoI .i64 x5 4) ↑x0) (gd (!ltI (cvI .u64 (mulI .i64 8 (remI .i64 x5 4))) 0) (gd (leI 0 (subI .i64 (subI .i64 (↑x2) 1) x5) && ltI (subI .i64 (subI .i64 (↑x2) 1) x5) ↑x2) (again x0 x1 x2 x3 x4 (addI .i64 x5 1) x6 (upd x7 (Int.toNat (subI .i64 (subI .i64 (↑x2) 1) x5)) (cvI .u8 (shrI .u32 (x1 (Int.toNat (quoI .i64 x5 4))) (cvI .u64 (mulI .i64 8 (remI .i64 x5 4)))))))))) (k0 x2 x3 x6 x7)
def nat_number.l4 (k0 : Nat → Nat → Nat → (Nat → Int) → Prop) : Nat → Nat → (Nat → Int) → Nat → Nat → Int → Int → Nat → (Nat → Int) → Prop
  | 0 => fun _ _ _ _ _ _ _ _ => False
  | n + 1 => nat_number.l4.step (nat_number.l4 k0 n) k0
def nat_number.l4.entry : LoopEntry := ⟨LV.mk 8 [(0, 8)] 4 0 false, 0, 48, fun vs H K => match vs, H with
  | [EV.rsI .u32 x0 x1, EV.slice 0 0 x2 (some x3) 1, EV.int .i64 x4, EV.int .i64 x5], [some (EV.arr .u8 x6 x7)] => ∃ n, nat_number.l4 (fun y0 y1 y2 y3 => K (.exit 0) [EV.slice 0 0 y0 (some y1) 1] [some (EV.arr .u8 y2 y3)]) n x0 x1 x2 x3 x4 x5 x6 x7
  | _, _ => False⟩
def nat_number.l8.step (again : Nat → Nat → Nat → Nat → (Nat → Int) → Prop) (k0 : Nat → Nat → Nat → Nat → (Nat → Int) → Prop) (x0 : Nat) (x1 : Nat) (x2 : Nat) (x3 : Nat) (x4 : Nat → Int) : Prop :=
  br (ltI 0 ↑x1) (gd (ltI 0 ↑x1) (br (eqI (x4 (addOff x0 0)) 0) (gd (leI 1 ↑x1 && leI ↑x1 ↑x2) (again (addOff x0 1) (Int.toNat ↑x1 - 1) (x2 - 1) x3 x4)) (k0 x0 x1 x2 x3 x4))) (k0 x0 x1 x2 x3 x4)
def nat_number.l8 (k0 : Nat → Nat → Nat → Nat → (Nat → Int) → Prop) : Nat → Nat → Nat → Nat → Nat → (Nat → Int) → Prop
  | 0 => fun _ _ _ _ _ => False
  | n + 1 => nat_number.l8.step (nat_number.l8 k0 n) k0
def nat_number.l8.entry : LoopEntry := ⟨LV.mk 8 [(2, 8)] 4 0 false, 0, 48, fun vs H K => match vs, H with
  | [EV.slice 0 x0 x1 (some x2) 1], [some (EV.arr .u8 x3 x4)] => ∃ n, nat_number.l8 (fun y0 y1 y2 y3 y4 => K (.exit 2) [EV.slice 0 y0 y1 (some y2) 1] [some (EV.arr .u8 y3 y4)]) n x0 x1 x2 x3 x4
  | _, _ => False⟩
def nat_number.d (a0n : Nat) (a0 : Nat → Int) (K : List UInt8 → Prop) : Prop :=
  nat_cut_r a0n a0 fun y0 y1 => gd (leI 0 (mulI .i64 4 ↑y0) && (leI (mulI .i64 4 ↑y0) (mulI .i64 4 ↑y0) && leI (mulI .i64 4 ↑y0) 1099511627776)) (∃ n, nat_number.l4 (fun y0 y1 y2 y3 => ∃ n, nat_number.l8 (fun y0 y1 y2 y3 y4 => K (bytesOf y1 (shift y0 y4))) n 0 y0 y1 y2 y3) n y0 y1 (Int.toNat (mulI .i64 4 ↑y0)) (Int.toNat (mulI .i64 4 ↑y0)) (↑(Int.toNat (mulI .i64 4 ↑y0))) 0 (Int.toNat (mulI .i64 4 ↑y0)) fun x => 0)
noncomputable def nat_number : Nat → (Nat → Int) → (List UInt8 → Prop) → Prop := Classical.choose (⟨nat_number.d, rfl⟩ : ∃ f, f = nat_number.d)
theorem nat_number.is : nat_number = nat_number.d := Classical.choose_spec (⟨nat_number.d, rfl⟩ : ∃ f, f = nat_number.d)
def nat_told.d (a0n : Nat) (a0 : Nat → Int) (K : List UInt8 → Int → Prop) : Prop :=
  nat_number a0n a0 fun y0 => br (ltI 16384 ↑(List.length y0)) (K [] 4) (K y0 0)
noncomputable def nat_told : Nat → (Nat → Int) → (List UInt8 → Int → Prop) → Prop := Classical.choose (⟨nat_told.d, rfl⟩ : ∃ f, f = nat_told.d)
theorem nat_told.is : nat_told = nat_told.d := Classical.choose_spec (⟨nat_told.d, rfl⟩ : ∃ f, f = nat_told.d)
def nat_words.l3.step (again : List UInt8 → Nat → Nat → Int → Int → Nat → (Nat → Int) → Prop) (k0 : Nat → Nat → Nat → (Nat → Int) → Prop) (x0 : List UInt8) (x1 : Nat) (x2 : Nat) (x3 : Int) (x4 : Int) (x5 : Nat) (x6 : Nat → Int) : Prop :=
  br (ltI x4 x3) (gd (leI 0 (quoI .i64 x4 4) && ltI (quoI .i64 x4 4) ↑x1) (gd (leI 0 (subI .i64 (subI .i64 (↑(List.length x0)) 1) x4) && ltI (subI .i64 (subI .i64 (↑(List.length x0)) 1) x4) ↑(List.length x0)) (gd (!ltI (cvI .u64 (mulI .i64 8 (remI .i64 x4 4))) 0) (gd (leI 0 (quoI .i64 x4 4) && ltI (quoI .i64 x4 4) ↑x1) (again x0 x1 x2 x3 (addI .i64 x4 1) x5 (upd x6 (Int.toNat (quoI .i64 x4 4)) (orI .u32 (x6 (Int.toNat (quoI .i64 x4 4))) (shlI .u32 (cvI .u32 (byteAt x0 (Int.toNat (subI .i64 (subI .i64 (↑(List.length x0)) 1) x4)))) (cvI .u64 (mulI .i64 8 (remI .i64 x4 4))))))))))) (k0 x1 x2 x5 x6)
def nat_words.l3 (k0 : Nat → Nat → Nat → (Nat → Int) → Prop) : Nat → List UInt8 → Nat → Nat → Int → Int → Nat → (Nat → Int) → Prop
  | 0 => fun _ _ _ _ _ _ _ => False
  | n + 1 => nat_words.l3.step (nat_words.l3 k0 n) k0
def nat_words.l3.entry : LoopEntry := ⟨LV.mk 8 [(0, 8)] 4 0 false, 0, 37, fun vs H K => match vs, H with
  | [EV.str x0, EV.slice 0 0 x1 (some x2) 1, EV.int .i64 x3, EV.int .i64 x4], [some (EV.arr .u32 x5 x6)] => ∃ n, nat_words.l3 (fun y0 y1 y2 y3 => K (.exit 0) [EV.slice 0 0 y0 (some y1) 1] [some (EV.arr .u32 y2 y3)]) n x0 x1 x2 x3 x4 x5 x6
  | _, _ => False⟩
def nat_words.d (a0 : List UInt8) (K : Nat → (Nat → Int) → Prop) : Prop :=
  gd (leI 0 (quoI .i64 (addI .i64 (↑(List.length a0)) 3) 4) && (leI (quoI .i64 (addI .i64 (↑(List.length a0)) 3) 4) (quoI .i64 (addI .i64 (↑(List.length a0)) 3) 4) && leI (quoI .i64 (addI .i64 (↑(List.length a0)) 3) 4) 1099511627776)) (∃ n, nat_words.l3 (fun y0 y1 y2 y3 => K y0 y3) n a0 (Int.toNat (quoI .i64 (addI .i64 (↑(List.length a0)) 3) 4)) (Int.toNat (quoI .i64 (addI .i64 (↑(List.length a0)) 3) 4)) (↑(List.length a0)) 0 (Int.toNat (quoI .i64 (addI .i64 (↑(List.length a0)) 3) 4)) fun x => 0)
noncomputable def nat_words : List UInt8 → (Nat → (Nat → Int) → Prop) → Prop := Classical.choose (⟨nat_words.d, rfl⟩ : ∃ f, f = nat_words.d)
theorem nat_words.is : nat_words = nat_words.d := Classical.choose_spec (⟨nat_words.d, rfl⟩ : ∃ f, f = nat_words.d)
def nat_cmp.l6.step (again : Nat → (Nat → Int) → Nat → (Nat → Int) → Int → Prop) (k0 : Int → Prop) (k1 : Prop) (x0 : Nat) (x1 : Nat → Int) (x2 : Nat) (x3 : Nat → Int) (x4 : Int) : Prop :=
  br (leI 0 x4) (gd (leI 0 x4 && ltI x4 ↑x0) (gd (leI 0 x4 && ltI x4 ↑x2) (br (ltI (x1 (Int.toNat x4)) (x3 (Int.toNat x4))) (k0 (-1)) (gd (leI 0 x4 && ltI x4 ↑x0) (gd (leI 0 x4 && ltI x4 ↑x2) (br (ltI (x3 (Int.toNat x4)) (x1 (Int.toNat x4))) (k0 1) (again x0 x1 x2 x3 (subI .i64 x4 1)))))))) k1
def nat_cmp.l6 (k0 : Int → Prop) (k1 : Prop) : Nat → Nat → (Nat → Int) → Nat → (Nat → Int) → Int → Prop
  | 0 => fun _ _ _ _ _ => False
  | n + 1 => nat_cmp.l6.step (nat_cmp.l6 k0 k1 n) k0 k1
def nat_cmp.l6.entry : LoopEntry := ⟨LV.mk 0 [(1, 0)] 16 0 false, 0, 45, fun vs H K => match vs, H with
  | [EV.rsI .u32 x0 x1, EV.rsI .u32 x2 x3, EV.int .i64 x4], [] => ∃ n, nat_cmp.l6 (fun y0 => K .ret [EV.int .i64 y0] []) (K (.exit 1) [] []) n x0 x1 x2 x3 x4
  | _, _ => False⟩
def nat_cmp.d (a0n : Nat) (a0 : Nat → Int) (a1n : Nat) (a1 : Nat → Int) (K : Int → Prop) : Prop :=
  br (ltI ↑a0n ↑a1n) (K (-1)) (br (ltI ↑a1n ↑a0n) (K 1) (∃ n, nat_cmp.l6 (fun y0 => K y0) (K 0) n a0n a0 a1n a1 (subI .i64 (↑a0n) 1)))
noncomputable def nat_cmp : Nat → (Nat → Int) → Nat → (Nat → Int) → (Int → Prop) → Prop := Classical.choose (⟨nat_cmp.d, rfl⟩ : ∃ f, f = nat_cmp.d)
theorem nat_cmp.is : nat_cmp = nat_cmp.d := Classical.choose_spec (⟨nat_cmp.d, rfl⟩ : ∃ f, f = nat_cmp.d)
def nat_Cmp.d (a0 : List UInt8) (a1 : List UInt8) (K : Int → Int → Prop) : Prop :=
  nat_right a0 a1 fun y0 => br (!y0) (K 0 2) (nat_words a0 fun y0 y1 => nat_words a1 fun y0_1 y1_1 => nat_cmp y0 y1 y0_1 y1_1 fun y0 => K y0 0)
noncomputable def nat_Cmp : List UInt8 → List UInt8 → (Int → Int → Prop) → Prop := Classical.choose (⟨nat_Cmp.d, rfl⟩ : ∃ f, f = nat_Cmp.d)
theorem nat_Cmp.is : nat_Cmp = nat_Cmp.d := Classical.choose_spec (⟨nat_Cmp.d, rfl⟩ : ∃ f, f = nat_Cmp.d)
def nat_cut_n.l1.step (again : Nat → Nat → (Nat → Int) → Prop) (k0 : Nat → Nat → (Nat → Int) → Prop) (x0 : Nat) (x1 : Nat) (x2 : Nat → Int) : Prop :=
  br (ltI 0 ↑x0) (gd (leI 0 (subI .i64 (↑x0) 1) && ltI (subI .i64 (↑x0) 1) ↑x0) (br (eqI (x2 (Int.toNat (subI .i64 (↑x0) 1))) 0) (gd (leI 0 (subI .i64 (↑x0) 1) && leI (subI .i64 (↑x0) 1) ↑x0) (again (Int.toNat (subI .i64 (↑x0) 1) - 0) x1 x2)) (k0 x0 x1 x2))) (k0 x0 x1 x2)
def nat_cut_n.l1 (k0 : Nat → Nat → (Nat → Int) → Prop) : Nat → Nat → Nat → (Nat → Int) → Prop
  | 0 => fun _ _ _ => False
  | n + 1 => nat_cut_n.l1.step (nat_cut_n.l1 k0 n) k0
def nat_cut_n.l1.entry : LoopEntry := ⟨LV.mk 1 [(0, 1)] 4 1 false, 1, 21, fun vs H K => match vs, H with
  | [EV.slice 0 0 x0 none 1], [some (EV.arr .u32 x1 x2)] => ∃ n, nat_cut_n.l1 (fun y0 y1 y2 => K (.exit 0) [EV.slice 0 0 y0 none 1] [some (EV.arr .u32 y1 y2)]) n x0 x1 x2
  | _, _ => False⟩
def nat_cut_n.d (a0l : Nat) (a0n : Nat) (a0 : Nat → Int) (K : Nat → Nat → (Nat → Int) → Prop) : Prop :=
  ∃ n, nat_cut_n.l1 (fun y0 y1 y2 => K y0 y1 y2) n a0l a0n a0
noncomputable def nat_cut_n : Nat → Nat → (Nat → Int) → (Nat → Nat → (Nat → Int) → Prop) → Prop := Classical.choose (⟨nat_cut_n.d, rfl⟩ : ∃ f, f = nat_cut_n.d)
theorem nat_cut_n.is : nat_cut_n = nat_cut_n.d := Classical.choose_spec (⟨nat_cut_n.d, rfl⟩ : ∃ f, f = nat_cut_n.d)
def nat_down.l5.step (again : Nat → (Nat → Int) → Int → Nat → Nat → Int → Int → Nat → (Nat → Int) → Prop) (k0 : Nat → Nat → Nat → (Nat → Int) → Prop) (x0 : Nat) (x1 : Nat → Int) (x2 : Int) (x3 : Nat) (x4 : Nat) (x5 : Int) (x6 : Int) (x7 : Nat) (x8 : Nat → Int) : Prop :=
  br (ltI x6 x5) (gd (leI 0 (addI .i64 x6 (quoI .i64 x2 32)) && ltI (addI .i64 x6 (quoI .i64 x2 32)) ↑x0) (br (ltI (addI .i64 (addI .i64 x6 (quoI .i64 x2 32)) 1) ↑x0) (gd (leI 0 (addI .i64 (addI .i64 x6 (quoI .i64 x2 32)) 1) && ltI (addI .i64 (addI .i64 x6 (quoI .i64 x2 32)) 1) ↑x0) (gd (!ltI (cvI .u64 (remI .i64 x2 32)) 0) (gd (leI 0 x6 && ltI x6 ↑x3) (again x0 x1 x2 x3 x4 x5 (addI .i64 x6 1) x7 (upd x8 (Int.toNat x6) (cvI .u32 (shrI .u64 (orI .u64 (cvI .u64 (x1 (Int.toNat (addI .i64 x6 (quoI .i64 x2 32))))) (shlI .u64 (cvI .u64 (x1 (Int.toNat (addI .i64 (addI .i64 x6 (quoI .i64 x2 32)) 1)))) 32)) (cvI .u64 (remI .i64 x2 32))))))))) (gd (!ltI (cvI .u64 (remI .i64 x2 32)) 0) (gd (leI 0 x6 && ltI x6 ↑x3) (again x0 x1 x2 x3 x4 x5 (addI .i64 x6 1) x7 (upd x8 (Int.toNat x6) (cvI .u32 (shrI .u64 (cvI .u64 (x1 (Int.toNat (addI .i64 x6 (quoI .i64 x2 32))))) (cvI .u64 (remI .i64 x2 32)))))))))) (k0 x3 x4 x7 x8)
def nat_down.l5 (k0 : Nat → Nat → Nat → (Nat → Int) → Prop) : Nat → Nat → (Nat → Int) → Int → Nat → Nat → Int → Int → Nat → (Nat → Int) → Prop
  | 0 => fun _ _ _ _ _ _ _ _ _ => False
  | n + 1 => nat_down.l5.step (nat_down.l5 k0 n) k0
def nat_down.l5.entry : LoopEntry := ⟨LV.mk 32 [(0, 32)] 16 0 false, 0, 64, fun vs H K => match vs, H with
  | [EV.rsI .u32 x0 x1, EV.int .i64 x2, EV.slice 0 0 x3 (some x4) 1, EV.int .i64 x5, EV.int .i64 x6], [some (EV.arr .u32 x7 x8)] => ∃ n, nat_down.l5 (fun y0 y1 y2 y3 => K (.exit 0) [EV.slice 0 0 y0 (some y1) 1] [some (EV.arr .u32 y2 y3)]) n x0 x1 x2 x3 x4 x5 x6 x7 x8
  | _, _ => False⟩
def nat_down.d (a0n : Nat) (a0 : Nat → Int) (a1 : Int) (K : Nat → (Nat → Int) → Prop) : Prop :=
  br (leI (↑a0n) (quoI .i64 a1 32)) (K 0 fun x => 0) (gd (leI 0 (subI .i64 (↑a0n) (quoI .i64 a1 32)) && (leI (subI .i64 (↑a0n) (quoI .i64 a1 32)) (subI .i64 (↑a0n) (quoI .i64 a1 32)) && leI (subI .i64 (↑a0n) (quoI .i64 a1 32)) 1099511627776)) (∃ n, nat_down.l5 (fun y0 y1 y2 y3 => nat_cut_o y0 y1 y2 y3 fun y0 y1 y2 y3 => K y0 y3) n a0n a0 a1 (Int.toNat (subI .i64 (↑a0n) (quoI .i64 a1 32))) (Int.toNat (subI .i64 (↑a0n) (quoI .i64 a1 32))) (↑(Int.toNat (subI .i64 (↑a0n) (quoI .i64 a1 32)))) 0 (Int.toNat (subI .i64 (↑a0n) (quoI .i64 a1 32))) fun x => 0))
noncomputable def nat_down : Nat → (Nat → Int) → Int → (Nat → (Nat → Int) → Prop) → Prop := Classical.choose (⟨nat_down.d, rfl⟩ : ∃ f, f = nat_down.d)
theorem nat_down.is : nat_down = nat_down.d := Classical.choose_spec (⟨nat_down.d, rfl⟩ : ∃ f, f = nat_down.d)
def nat_up.l5.step (again : Int → Nat → Nat → Nat → (Nat → Int) → Int → Int → Nat → (Nat → Int) → Prop) (k0 : Nat → Nat → Nat → (Nat → Int) → Prop) (x0 : Int) (x1 : Nat) (x2 : Nat) (x3 : Nat) (x4 : Nat → Int) (x5 : Int) (x6 : Int) (x7 : Nat) (x8 : Nat → Int) : Prop :=
  br (ltI x6 x5) (gd (leI 0 x6 && ltI x6 ↑x3) (gd (!ltI (cvI .u64 (remI .i64 x0 32)) 0) (gd (leI 0 (addI .i64 x6 (quoI .i64 x0 32)) && ltI (addI .i64 x6 (quoI .i64 x0 32)) ↑x1) (gd (leI 0 (addI .i64 x6 (quoI .i64 x0 32)) && ltI (addI .i64 x6 (quoI .i64 x0 32)) ↑x1) (gd (leI 0 (addI .i64 (addI .i64 x6 (quoI .i64 x0 32)) 1) && ltI (addI .i64 (addI .i64 x6 (quoI .i64 x0 32)) 1) ↑x1) (gd (leI 0 (addI .i64 (addI .i64 x6 (quoI .i64 x0 32)) 1) && ltI (addI .i64 (addI .i64 x6 (quoI .i64 x0 32)) 1) ↑x1) (again x0 x1 x2 x3 x4 x5 (addI .i64 x6 1) x7 (upd (upd x8 (Int.toNat (addI .i64 x6 (quoI .i64 x0 32))) (orI .u32 (x8 (Int.toNat (addI .i64 x6 (quoI .i64 x0 32)))) (cvI .u32 (shlI .u64 (cvI .u64 (x4 (Int.toNat x6))) (cvI .u64 (remI .i64 x0 32)))))) (Int.toNat (addI .i64 (addI .i64 x6 (quoI .i64 x0 32)) 1)) (orI .u32 (upd x8 (Int.toNat (addI .i64 x6 (quoI .i64 x0 32))) (orI .u32 (x8 (Int.toNat (addI .i64 x6 (quoI .i64 x0 32)))) (cvI .u32 (shlI .u64 (cvI .u64 (x4 (Int.toNat x6))) (cvI .u64 (remI .i64 x0 32))))) (Int.toNat (addI .i64 (addI .i64 x6 (quoI .i64 x0 32)) 1))) (cvI .u32 (shrI .u64 (shlI .u64 (cvI .u64 (x4 (Int.toNat x6))) (cvI .u64 (remI .i64 x0 32))) 32))))))))))) (k0 x1 x2 x7 x8)
def nat_up.l5 (k0 : Nat → Nat → Nat → (Nat → Int) → Prop) : Nat → Int → Nat → Nat → Nat → (Nat → Int) → Int → Int → Nat → (Nat → Int) → Prop
  | 0 => fun _ _ _ _ _ _ _ _ _ => False
  | n + 1 => nat_up.l5.step (nat_up.l5 k0 n) k0
def nat_up.l5.entry : LoopEntry := ⟨LV.mk 32 [(0, 32)] 16 0 false, 0, 59, fun vs H K => match vs, H with
  | [EV.int .i64 x0, EV.slice 0 0 x1 (some x2) 1, EV.rsI .u32 x3 x4, EV.int .i64 x5, EV.int .i64 x6], [some (EV.arr .u32 x7 x8)] => ∃ n, nat_up.l5 (fun y0 y1 y2 y3 => K (.exit 0) [EV.slice 0 0 y0 (some y1) 1] [some (EV.arr .u32 y2 y3)]) n x0 x1 x2 x3 x4 x5 x6 x7 x8
  | _, _ => False⟩
def nat_up.d (a0n : Nat) (a0 : Nat → Int) (a1 : Int) (K0 : Prop) (K1 : Nat → Nat → Nat → (Nat → Int) → Prop) : Prop :=
  br (eqI (↑a0n) 0) K0 (gd (leI 0 (addI .i64 (addI .i64 (↑a0n) (quoI .i64 a1 32)) 1) && (leI (addI .i64 (addI .i64 (↑a0n) (quoI .i64 a1 32)) 1) (addI .i64 (addI .i64 (↑a0n) (quoI .i64 a1 32)) 1) && leI (addI .i64 (addI .i64 (↑a0n) (quoI .i64 a1 32)) 1) 1099511627776)) (∃ n, nat_up.l5 (fun y0 y1 y2 y3 => nat_cut_o y0 y1 y2 y3 fun y0 y1 y2 y3 => K1 y0 y1 y2 y3) n a1 (Int.toNat (addI .i64 (addI .i64 (↑a0n) (quoI .i64 a1 32)) 1)) (Int.toNat (addI .i64 (addI .i64 (↑a0n) (quoI .i64 a1 32)) 1)) a0n a0 (↑a0n) 0 (Int.toNat (addI .i64 (addI .i64 (↑a0n) (quoI .i64 a1 32)) 1)) fun x => 0))
noncomputable def nat_up : Nat → (Nat → Int) → Int → Prop → (Nat → Nat → Nat → (Nat → Int) → Prop) → Prop := Classical.choose (⟨nat_up.d, rfl⟩ : ∃ f, f = nat_up.d)
theorem nat_up.is : nat_up = nat_up.d := Classical.choose_spec (⟨nat_up.d, rfl⟩ : ∃ f, f = nat_up.d)
def nat_parts.l7.step (again : Nat → (Nat → Int) → Nat → (Nat → Int) → Nat → Int → Int → Nat → (Nat → Int) → Prop) (k0 : Nat → Int → Nat → (Nat → Int) → Prop) (x0 : Nat) (x1 : Nat → Int) (x2 : Nat) (x3 : Nat → Int) (x4 : Nat) (x5 : Int) (x6 : Int) (x7 : Nat) (x8 : Nat → Int) : Prop :=
  br (leI 0 x6) (gd (leI 0 x6 && ltI x6 ↑x0) (gd (ltI 0 ↑x2) (gd (!eqI (cvI .u64 (x3 0)) 0) (gd (leI 0 x6 && ltI x6 ↑x4) (gd (ltI 0 ↑x2) (gd (!eqI (cvI .u64 (x3 0)) 0) (again x0 x1 x2 x3 x4 (remI .u64 (orI .u64 (shlI .u64 x5 32) (cvI .u64 (x1 (Int.toNat x6)))) (cvI .u64 (x3 0))) (subI .i64 x6 1) x7 (upd x8 (Int.toNat x6) (cvI .u32 (quoI .u64 (orI .u64 (shlI .u64 x5 32) (cvI .u64 (x1 (Int.toNat x6)))) (cvI .u64 (x3 0)))))))))))) (k0 x4 x5 x7 x8)
def nat_parts.l7 (k0 : Nat → Int → Nat → (Nat → Int) → Prop) : Nat → Nat → (Nat → Int) → Nat → (Nat → Int) → Nat → Int → Int → Nat → (Nat → Int) → Prop
  | 0 => fun _ _ _ _ _ _ _ _ _ => False
  | n + 1 => nat_parts.l7.step (nat_parts.l7 k0 n) k0
def nat_parts.l7.entry : LoopEntry := ⟨LV.mk 80 [(0, 80)] 48 0 true, 0, 285, fun vs H K => match vs, H with
  | [EV.rsI .u32 x0 x1, EV.rsI .u32 x2 x3, EV.slice 0 0 x4 none 1, EV.int .u64 x5, EV.int .i64 x6], [some (EV.arr .u32 x7 x8)] => ∃ n, nat_parts.l7 (fun y0 y1 y2 y3 => K (.exit 0) [EV.slice 0 0 y0 none 1, EV.int .u64 y1] [some (EV.arr .u32 y2 y3)]) n x0 x1 x2 x3 x4 x5 x6 x7 x8
  | _, _ => False⟩
def nat_parts.l16.step (again : Nat → (Nat → Int) → Nat → Int → Nat → Nat → Nat → (Nat → Int) → Nat → (Nat → Int) → Nat → (Nat → Int) → Prop) (k0 : Nat → Int → Nat → Nat → Nat → (Nat → Int) → Nat → (Nat → Int) → Nat → (Nat → Int) → Prop) (x0 : Nat) (x1 : Nat → Int) (x2 : Nat) (x3 : Int) (x4 : Nat) (x5 : Nat) (x6 : Nat) (x7 : Nat → Int) (x8 : Nat) (x9 : Nat → Int) (x10 : Nat) (x11 : Nat → Int) : Prop :=
  br (ltI (↑x5) (addI .i64 (↑x0) 1)) (gd (leN (x5 + 1) 1099511627776) (again x0 x1 x2 x3 x4 (x5 + 1) x6 x7 x8 x9 (x5 + 1) (app x5 x11 (upd (fun x => 0) 0 0)))) (k0 x2 x3 x4 x5 x6 x7 x8 x9 x10 x11)
def nat_parts.l16 (k0 : Nat → Int → Nat → Nat → Nat → (Nat → Int) → Nat → (Nat → Int) → Nat → (Nat → Int) → Prop) : Nat → Nat → (Nat → Int) → Nat → Int → Nat → Nat → Nat → (Nat → Int) → Nat → (Nat → Int) → Nat → (Nat → Int) → Prop
  | 0 => fun _ _ _ _ _ _ _ _ _ _ _ _ => False
  | n + 1 => nat_parts.l16.step (nat_parts.l16 k0 n) k0
def nat_parts.l16.entry : LoopEntry := ⟨LV.mk 1808 [(2, 1808)] 48 0 true, 0, 285, fun vs H K => match vs, H with
  | [EV.rsI .u32 x0 x1, EV.slice 0 0 x2 none 1, EV.int .i64 x3, EV.slice 1 0 x4 none 1, EV.slice 2 0 x5 none 1], [some (EV.arr .u32 x6 x7), some (EV.arr .u32 x8 x9), some (EV.arr .u32 x10 x11)] => ∃ n, nat_parts.l16 (fun y0 y1 y2 y3 y4 y5 y6 y7 y8 y9 => K (.exit 2) [EV.slice 0 0 y0 none 1, EV.int .i64 y1, EV.slice 1 0 y2 none 1, EV.slice 2 0 y3 none 1] [some (EV.arr .u32 y4 y5), some (EV.arr .u32 y6 y7), some (EV.arr .u32 y8 y9)]) n x0 x1 x2 x3 x4 x5 x6 x7 x8 x9 x10 x11
  | _, _ => False⟩
def nat_parts.l24.step (again : Nat → Int → Nat → Nat → Int → Int → Int → Int → Nat → (Nat → Int) → Nat → (Nat → Int) → Nat → (Nat → Int) → Prop) (k0 : Nat → Int → Nat → Nat → Int → Int → Int → Nat → (Nat → Int) → Nat → (Nat → Int) → Nat → (Nat → Int) → Prop) (x0 : Nat) (x1 : Int) (x2 : Nat) (x3 : Nat) (x4 : Int) (x5 : Int) (x6 : Int) (x7 : Int) (x8 : Nat) (x9 : Nat → Int) (x10 : Nat) (x11 : Nat → Int) (x12 : Nat) (x13 : Nat → Int) : Prop :=
  br (leI 4294967296 x6) (gd (leI 0 (subI .i64 x4 1) && ltI (subI .i64 x4 1) ↑x2) (br (leI 4294967296 (addI .u64 x7 (cvI .u64 (x11 (Int.toNat (subI .i64 x4 1)))))) (k0 x0 x1 x2 x3 x4 x5 (subI .u64 x6 1) x8 x9 x10 x11 x12 x13) (again x0 x1 x2 x3 x4 x5 (subI .u64 x6 1) (addI .u64 x7 (cvI .u64 (x11 (Int.toNat (subI .i64 x4 1))))) x8 x9 x10 x11 x12 x13))) (gd (leI 0 (subI .i64 x4 2) && ltI (subI .i64 x4 2) ↑x2) (gd (leI 0 (subI .i64 (addI .i64 x5 x4) 2) && ltI (subI .i64 (addI .i64 x5 x4) 2) ↑x3) (br (ltI (orI .u64 (shlI .u64 x7 32) (cvI .u64 (x13 (Int.toNat (subI .i64 (addI .i64 x5 x4) 2))))) (mulI .u64 x6 (cvI .u64 (x11 (Int.toNat (subI .i64 x4 2)))))) (gd (leI 0 (subI .i64 x4 1) && ltI (subI .i64 x4 1) ↑x2) (br (leI 4294967296 (addI .u64 x7 (cvI .u64 (x11 (Int.toNat (subI .i64 x4 1)))))) (k0 x0 x1 x2 x3 x4 x5 (subI .u64 x6 1) x8 x9 x10 x11 x12 x13) (again x0 x1 x2 x3 x4 x5 (subI .u64 x6 1) (addI .u64 x7 (cvI .u64 (x11 (Int.toNat (subI .i64 x4 1))))) x8 x9 x10 x11 x12 x13))) (k0 x0 x1 x2 x3 x4 x5 x6 x8 x9 x10 x11 x12 x13))))
def nat_parts.l24 (k0 : Nat → Int → Nat → Nat → Int → Int → Int → Nat → (Nat → Int) → Nat → (Nat → Int) → Nat → (Nat → Int) → Prop) : Nat → Nat → Int → Nat → Nat → Int → Int → Int → Int → Nat → (Nat → Int) → Nat → (Nat → Int) → Nat → (Nat → Int) → Prop
  | 0 => fun _ _ _ _ _ _ _ _ _ _ _ _ _ _ => False
  | n + 1 => nat_parts.l24.step (nat_parts.l24 k0 n) k0
def nat_parts.l24.entry : LoopEntry := ⟨LV.mk 24336 [(6, 24336), (5, 7952), (4, 1296)] 48 0 true, 0, 285, fun vs H K => match vs, H with
  | [EV.slice 0 0 x0 none 1, EV.int .i64 x1, EV.slice 1 0 x2 none 1, EV.slice 2 0 x3 none 1, EV.int .i64 x4, EV.int .i64 x5, EV.int .u64 x6, EV.int .u64 x7], [some (EV.arr .u32 x8 x9), some (EV.arr .u32 x10 x11), some (EV.arr .u32 x12 x13)] => ∃ n, nat_parts.l24 (fun y0 y1 y2 y3 y4 y5 y6 y7 y8 y9 y10 y11 y12 => K (.exit 6) [EV.slice 0 0 y0 none 1, EV.int .i64 y1, EV.slice 1 0 y2 none 1, EV.slice 2 0 y3 none 1, EV.int .i64 y4, EV.int .i64 y5, EV.int .u64 y6] [some (EV.arr .u32 y7 y8), some (EV.arr .u32 y9 y10), some (EV.arr .u32 y11 y12)]) n x0 x1 x2 x3 x4 x5 x6 x7 x8 x9 x10 x11 x12 x13
  | _, _ => False⟩
def nat_parts.l31.step (again : Nat → Int → Nat → Nat → Int → Int → Int → Int → Int → Int → Int → Nat → (Nat → Int) → Nat → (Nat → Int) → Nat → (Nat → Int) → Prop) (k0 : Nat → Int → Nat → Nat → Int → Int → Int → Int → Int → Nat → (Nat → Int) → Nat → (Nat → Int) → Nat → (Nat → Int) → Prop) (x0 : Nat) (x1 : Int) (x2 : Nat) (x3 : Nat) (x4 : Int) (x5 : Int) (x6 : Int) (x7 : Int) (x8 : Int) (x9 : Int) (x10 : Int) (x11 : Nat) (x12 : Nat → Int) (x13 : Nat) (x14 : Nat → Int) (x15 : Nat) (x16 : Nat → Int) : Prop :=
  br (ltI x10 x9) (gd (leI 0 x10 && ltI x10 ↑x2) (gd (leI 0 (addI .i64 x5 x10) && ltI (addI .i64 x5 x10) ↑x3) (gd (leI 0 (addI .i64 x5 x10) && ltI (addI .i64 x5 x10) ↑x3) (again x0 x1 x2 x3 x4 x5 x6 (shrI .u64 (addI .u64 x7 (mulI .u64 x6 (cvI .u64 (x14 (Int.toNat x10))))) 32) (shrI .i64 (addI .i64 x8 (subI .i64 (cvI .i64 (x16 (Int.toNat (addI .i64 x5 x10)))) (cvI .i64 (cvI .u32 (addI .u64 x7 (mulI .u64 x6 (cvI .u64 (x14 (Int.toNat x10))))))))) 32) x9 (addI .i64 x10 1) x11 x12 x13 x14 x15 (upd x16 (Int.toNat (addI .i64 x5 x10)) (cvI .u32 (addI .i64 x8 (subI .i64 (cvI .i64 (x16 (Int.toNat (addI .i64 x5 x10)))) (cvI .i64 (cvI .u32 (addI .u64 x7 (mulI .u64 x6 (cvI .u64 (x14 (Int.toNat x10))))))))))))))) (k0 x0 x1 x2 x3 x4 x5 x6 x7 x8 x11 x12 x13 x14 x15 x16)
def nat_parts.l31 (k0 : Nat → Int → Nat → Nat → Int → Int → Int → Int → Int → Nat → (Nat → Int) → Nat → (Nat → Int) → Nat → (Nat → Int) → Prop) : Nat → Nat → Int → Nat → Nat → Int → Int → Int → Int → Int → Int → Int → Nat → (Nat → Int) → Nat → (Nat → Int) → Nat → (Nat → Int) → Prop
  | 0 => fun _ _ _ _ _ _ _ _ _ _ _ _ _ _ _ _ _ => False
  | n + 1 => nat_parts.l31.step (nat_parts.l31 k0 n) k0
def nat_parts.l31.entry : LoopEntry := ⟨LV.mk 220944 [(8, 220944), (5, 7952), (4, 1296)] 48 0 true, 0, 285, fun vs H K => match vs, H with
  | [EV.slice 0 0 x0 none 1, EV.int .i64 x1, EV.slice 1 0 x2 none 1, EV.slice 2 0 x3 none 1, EV.int .i64 x4, EV.int .i64 x5, EV.int .u64 x6, EV.int .u64 x7, EV.int .i64 x8, EV.int .i64 x9, EV.int .i64 x10], [some (EV.arr .u32 x11 x12), some (EV.arr .u32 x13 x14), some (EV.arr .u32 x15 x16)] => ∃ n, nat_parts.l31 (fun y0 y1 y2 y3 y4 y5 y6 y7 y8 y9 y10 y11 y12 y13 y14 => K (.exit 8) [EV.slice 0 0 y0 none 1, EV.int .i64 y1, EV.slice 1 0 y2 none 1, EV.slice 2 0 y3 none 1, EV.int .i64 y4, EV.int .i64 y5, EV.int .u64 y6, EV.int .u64 y7, EV.int .i64 y8] [some (EV.arr .u32 y9 y10), some (EV.arr .u32 y11 y12), some (EV.arr .u32 y13 y14)]) n x0 x1 x2 x3 x4 x5 x6 x7 x8 x9 x10 x11 x12 x13 x14 x15 x16
  | _, _ => False⟩
def nat_parts.l45.step (again : Nat → Int → Nat → Nat → Int → Int → Int → Int → Int → Int → Nat → (Nat → Int) → Nat → (Nat → Int) → Nat → (Nat → Int) → Prop) (k0 : Nat → Int → Nat → Nat → Int → Int → Int → Int → Nat → (Nat → Int) → Nat → (Nat → Int) → Nat → (Nat → Int) → Prop) (x0 : Nat) (x1 : Int) (x2 : Nat) (x3 : Nat) (x4 : Int) (x5 : Int) (x6 : Int) (x7 : Int) (x8 : Int) (x9 : Int) (x10 : Nat) (x11 : Nat → Int) (x12 : Nat) (x13 : Nat → Int) (x14 : Nat) (x15 : Nat → Int) : Prop :=
  br (ltI x9 x8) (gd (leI 0 (addI .i64 x5 x9) && ltI (addI .i64 x5 x9) ↑x3) (gd (leI 0 x9 && ltI x9 ↑x2) (gd (leI 0 (addI .i64 x5 x9) && ltI (addI .i64 x5 x9) ↑x3) (again x0 x1 x2 x3 x4 x5 x6 (shrI .u64 (addI .u64 x7 (addI .u64 (cvI .u64 (x15 (Int.toNat (addI .i64 x5 x9)))) (cvI .u64 (x13 (Int.toNat x9))))) 32) x8 (addI .i64 x9 1) x10 x11 x12 x13 x14 (upd x15 (Int.toNat (addI .i64 x5 x9)) (cvI .u32 (addI .u64 x7 (addI .u64 (cvI .u64 (x15 (Int.toNat (addI .i64 x5 x9)))) (cvI .u64 (x13 (Int.toNat x9))))))))))) (k0 x0 x1 x2 x3 x4 x5 x6 x7 x10 x11 x12 x13 x14 x15)
def nat_parts.l45 (k0 : Nat → Int → Nat → Nat → Int → Int → Int → Int → Nat → (Nat → Int) → Nat → (Nat → Int) → Nat → (Nat → Int) → Prop) : Nat → Nat → Int → Nat → Nat → Int → Int → Int → Int → Int → Int → Nat → (Nat → Int) → Nat → (Nat → Int) → Nat → (Nat → Int) → Prop
  | 0 => fun _ _ _ _ _ _ _ _ _ _ _ _ _ _ _ _ => False
  | n + 1 => nat_parts.l45.step (nat_parts.l45 k0 n) k0
def nat_parts.l45.entry : LoopEntry := ⟨LV.mk 89872 [(10, 89872), (5, 7952), (4, 1296)] 48 0 true, 0, 285, fun vs H K => match vs, H with
  | [EV.slice 0 0 x0 none 1, EV.int .i64 x1, EV.slice 1 0 x2 none 1, EV.slice 2 0 x3 none 1, EV.int .i64 x4, EV.int .i64 x5, EV.int .u64 x6, EV.int .u64 x7, EV.int .i64 x8, EV.int .i64 x9], [some (EV.arr .u32 x10 x11), some (EV.arr .u32 x12 x13), some (EV.arr .u32 x14 x15)] => ∃ n, nat_parts.l45 (fun y0 y1 y2 y3 y4 y5 y6 y7 y8 y9 y10 y11 y12 y13 => K (.exit 10) [EV.slice 0 0 y0 none 1, EV.int .i64 y1, EV.slice 1 0 y2 none 1, EV.slice 2 0 y3 none 1, EV.int .i64 y4, EV.int .i64 y5, EV.int .u64 y6, EV.int .u64 y7] [some (EV.arr .u32 y8 y9), some (EV.arr .u32 y10 y11), some (EV.arr .u32 y12 y13)]) n x0 x1 x2 x3 x4 x5 x6 x7 x8 x9 x10 x11 x12 x13 x14 x15
  | _, _ => False⟩
def nat_parts.l20.step (again : Nat → Int → Nat → Nat → Int → Int → Nat → (Nat → Int) → Nat → (Nat → Int) → Nat → (Nat → Int) → Prop) (k0 : Nat → Int → Nat → Nat → (Nat → Int) → Nat → (Nat → Int) → Prop) (x0 : Nat) (x1 : Int) (x2 : Nat) (x3 : Nat) (x4 : Int) (x5 : Int) (x6 : Nat) (x7 : Nat → Int) (x8 : Nat) (x9 : Nat → Int) (x10 : Nat) (x11 : Nat → Int) : Prop :=
  br (leI 0 x5) (gd (leI 0 (addI .i64 x5 x4) && ltI (addI .i64 x5 x4) ↑x3) (gd (leI 0 (subI .i64 (addI .i64 x5 x4) 1) && ltI (subI .i64 (addI .i64 x5 x4) 1) ↑x3) (gd (leI 0 (subI .i64 x4 1) && ltI (subI .i64 x4 1) ↑x2) (gd (!eqI (cvI .u64 (x9 (Int.toNat (subI .i64 x4 1)))) 0) (gd (leI 0 (subI .i64 x4 1) && ltI (subI .i64 x4 1) ↑x2) (gd (!eqI (cvI .u64 (x9 (Int.toNat (subI .i64 x4 1)))) 0) (∃ n, nat_parts.l24 (fun y0 y1 y2 y3 y4 y5 y6 y7 y8 y9 y10 y11 y12 => ∃ n, nat_parts.l31 (fun y0 y1 y2 y3 y4 y5 y6 y7 y8 y9 y10 y11 y12 y13 y14 => gd (leI 0 (addI .i64 y5 y4) && ltI (addI .i64 y5 y4) ↑y3) (gd (leI 0 (addI .i64 y5 y4) && ltI (addI .i64 y5 y4) ↑y3) (br (ltI (addI .i64 y8 (subI .i64 (cvI .i64 (y14 (Int.toNat (addI .i64 y5 y4)))) (cvI .i64 y7))) 0) (∃ n, nat_parts.l45 (fun y0 y1 y2 y3 y4 y5 y6 y7 y8 y9 y10 y11 y12 y13 => gd (leI 0 (addI .i64 y5 y4) && ltI (addI .i64 y5 y4) ↑y3) (gd (leI 0 (addI .i64 y5 y4) && ltI (addI .i64 y5 y4) ↑y3) (gd (leI 0 y5 && ltI y5 ↑y0) (again y0 y1 y2 y3 y4 (subI .i64 y5 1) y8 (upd y9 (Int.toNat y5) (cvI .u32 y6)) y10 y11 y12 (upd y13 (Int.toNat (addI .i64 y5 y4)) (addI .u32 (y13 (Int.toNat (addI .i64 y5 y4))) (cvI .u32 y7))))))) n y0 y1 y2 y3 y4 y5 (subI .u64 y6 1) 0 y4 0 y9 y10 y11 y12 y13 (upd y14 (Int.toNat (addI .i64 y5 y4)) (cvI .u32 (addI .i64 y8 (subI .i64 (cvI .i64 (y14 (Int.toNat (addI .i64 y5 y4)))) (cvI .i64 y7)))))) (gd (leI 0 y5 && ltI y5 ↑y0) (again y0 y1 y2 y3 y4 (subI .i64 y5 1) y9 (upd y10 (Int.toNat y5) (cvI .u32 y6)) y11 y12 y13 (upd y14 (Int.toNat (addI .i64 y5 y4)) (cvI .u32 (addI .i64 y8 (subI .i64 (cvI .i64 (y14 (Int.toNat (addI .i64 y5 y4)))) (cvI .i64 y7)))))))))) n y0 y1 y2 y3 y4 y5 y6 0 0 y4 0 y7 y8 y9 y10 y11 y12) n x0 x1 x2 x3 x4 x5 (quoI .u64 (orI .u64 (shlI .u64 (cvI .u64 (x11 (Int.toNat (addI .i64 x5 x4)))) 32) (cvI .u64 (x11 (Int.toNat (subI .i64 (addI .i64 x5 x4) 1))))) (cvI .u64 (x9 (Int.toNat (subI .i64 x4 1))))) (remI .u64 (orI .u64 (shlI .u64 (cvI .u64 (x11 (Int.toNat (addI .i64 x5 x4)))) 32) (cvI .u64 (x11 (Int.toNat (subI .i64 (addI .i64 x5 x4) 1))))) (cvI .u64 (x9 (Int.toNat (subI .i64 x4 1))))) x6 x7 x8 x9 x10 x11))))))) (k0 x0 x1 x3 x6 x7 x10 x11)
def nat_parts.l20 (k0 : Nat → Int → Nat → Nat → (Nat → Int) → Nat → (Nat → Int) → Prop) : Nat → Nat → Int → Nat → Nat → Int → Int → Nat → (Nat → Int) → Nat → (Nat → Int) → Nat → (Nat → Int) → Prop
  | 0 => fun _ _ _ _ _ _ _ _ _ _ _ _ => False
  | n + 1 => nat_parts.l20.step (nat_parts.l20 k0 n) k0
def nat_parts.l20.entry : LoopEntry := ⟨LV.mk 1296 [(4, 1296)] 48 0 true, 0, 285, fun vs H K => match vs, H with
  | [EV.slice 0 0 x0 none 1, EV.int .i64 x1, EV.slice 1 0 x2 none 1, EV.slice 2 0 x3 none 1, EV.int .i64 x4, EV.int .i64 x5], [some (EV.arr .u32 x6 x7), some (EV.arr .u32 x8 x9), some (EV.arr .u32 x10 x11)] => ∃ n, nat_parts.l20 (fun y0 y1 y2 y3 y4 y5 y6 => K (.exit 4) [EV.slice 0 0 y0 none 1, EV.int .i64 y1, EV.slice 1 0 y2 none 1] [some (EV.arr .u32 y3 y4), some (EV.arr .u32 y5 y6)]) n x0 x1 x2 x3 x4 x5 x6 x7 x8 x9 x10 x11
  | _, _ => False⟩
def nat_parts.d (a0n : Nat) (a0 : Nat → Int) (a1n : Nat) (a1 : Nat → Int) (K : Nat → (Nat → Int) → Nat → (Nat → Int) → Prop) : Prop :=
  nat_cmp a0n a0 a1n a1 fun y0 => br (ltI y0 0) (K 0 (fun x => 0) a0n a0) (gd (leI 0 ↑a0n && (leI ↑a0n ↑a0n && leI (↑a0n) 1099511627776)) (br (eqI (↑a1n) 1) (∃ n, nat_parts.l7 (fun y0 y1 y2 y3 => nat_cut_n y0 y2 y3 fun y0 y1_1 y2 => nat_cut_o 1 1 1 (upd (fun x => 0) 0 (cvI .u32 y1)) fun y0_1 y1 y2_1 y3 => K y0 y2 y0_1 y3) n a0n a0 a1n a1 (Int.toNat ↑a0n) 0 (subI .i64 (↑a0n) 1) (Int.toNat ↑a0n) fun x => 0) (gd (leI 0 (subI .i64 (↑a1n) 1) && ltI (subI .i64 (↑a1n) 1) ↑a1n) (word_Len (cvI .u64 (a1 (Int.toNat (subI .i64 (↑a1n) 1)))) fun y0 => nat_up a1n a1 (subI .i64 32 y0) False fun y0_1 y1 y2 y3 => nat_up a0n a0 (subI .i64 32 y0) False fun y0_2 y1 y2_1 y3_1 => gd (leN (y0_2 + 1) 1099511627776) (∃ n, nat_parts.l16 (fun y0 y1 y2 y3 y4 y5 y6 y7 y8 y9 => ∃ n, nat_parts.l20 (fun y0 y1 y2 y3 y4 y5 y6 => nat_cut_n y0 y3 y4 fun y0 y1_1 y2_2 => nat_cut_n y2 y5 y6 fun y0_3 y1_2 y2 => nat_down y0_3 y2 y1 fun y0_4 y1 => K y0 y2_2 y0_4 y1) n y0 y1 y2 y3 (↑y2) (subI .i64 (subI .i64 ↑y3 ↑y2) 1) y4 y5 y6 y7 y8 y9) n a0n a0 (Int.toNat ↑a0n) (subI .i64 32 y0) y0_1 (y0_2 + 1) (Int.toNat ↑a0n) (fun x => 0) y2 y3 (y0_2 + 1) (app y0_2 y3_1 (upd (fun x => 0) 0 0)))))))
noncomputable def nat_parts : Nat → (Nat → Int) → Nat → (Nat → Int) → (Nat → (Nat → Int) → Nat → (Nat → Int) → Prop) → Prop := Classical.choose (⟨nat_parts.d, rfl⟩ : ∃ f, f = nat_parts.d)
theorem nat_parts.is : nat_parts = nat_parts.d := Classical.choose_spec (⟨nat_parts.d, rfl⟩ : ∃ f, f = nat_parts.d)
def nat_Div.d (a0 : List UInt8) (a1 : List UInt8) (K : List UInt8 → List UInt8 → Int → Prop) : Prop :=
  nat_right a0 a1 fun y0 => br (!y0) (K [] [] 2) (br (eqS a1 []) (K [] [] 2) (nat_words a0 fun y0 y1 => nat_words a1 fun y0_1 y1_1 => nat_parts y0 y1 y0_1 y1_1 fun y0 y1 y2 y3 => nat_number y0 y1 fun y0 => nat_number y2 y3 fun y0_2 => K y0 y0_2 0))
noncomputable def nat_Div : List UInt8 → List UInt8 → (List UInt8 → List UInt8 → Int → Prop) → Prop := Classical.choose (⟨nat_Div.d, rfl⟩ : ∃ f, f = nat_Div.d)
theorem nat_Div.is : nat_Div = nat_Div.d := Classical.choose_spec (⟨nat_Div.d, rfl⟩ : ∃ f, f = nat_Div.d)
def nat_Gcd.l4.step (again : Nat → (Nat → Int) → Nat → (Nat → Int) → Prop) (k0 : Nat → (Nat → Int) → Prop) (x0 : Nat) (x1 : Nat → Int) (x2 : Nat) (x3 : Nat → Int) : Prop :=
  br (ltI 0 ↑x2) (nat_parts x0 x1 x2 x3 fun y0 y1 y2 y3 => again x2 x3 y2 y3) (k0 x0 x1)
def nat_Gcd.l4 (k0 : Nat → (Nat → Int) → Prop) : Nat → Nat → (Nat → Int) → Nat → (Nat → Int) → Prop
  | 0 => fun _ _ _ _ => False
  | n + 1 => nat_Gcd.l4.step (nat_Gcd.l4 k0 n) k0
def nat_Gcd.l4.entry : LoopEntry := ⟨LV.mk 64 [(0, 64)] 48 0 false, 0, 31, fun vs H K => match vs, H with
  | [EV.rsI .u32 x0 x1, EV.rsI .u32 x2 x3], [] => ∃ n, nat_Gcd.l4 (fun y0 y1 => K (.exit 0) [EV.rsI .u32 y0 y1] []) n x0 x1 x2 x3
  | _, _ => False⟩
def nat_Gcd.d (a0 : List UInt8) (a1 : List UInt8) (K : List UInt8 → Int → Prop) : Prop :=
  nat_right a0 a1 fun y0 => br (!y0) (K [] 2) (nat_words a0 fun y0 y1 => nat_words a1 fun y0_1 y1_1 => ∃ n, nat_Gcd.l4 (fun y0 y1 => nat_number y0 y1 fun y0 => K y0 0) n y0 y1 y0_1 y1_1)
noncomputable def nat_Gcd : List UInt8 → List UInt8 → (List UInt8 → Int → Prop) → Prop := Classical.choose (⟨nat_Gcd.d, rfl⟩ : ∃ f, f = nat_Gcd.d)
theorem nat_Gcd.is : nat_Gcd = nat_Gcd.d := Classical.choose_spec (⟨nat_Gcd.d, rfl⟩ : ∃ f, f = nat_Gcd.d)
def nat_Len.d (a0 : List UInt8) (K : Int → Prop) : Prop :=
  nat_Check a0 fun y0 => br (!eqI y0 0) (K 0) (br (eqS a0 []) (K 0) (gd (ltI 0 ↑(List.length a0)) (word_Len (cvI .u64 (byteAt a0 0)) fun y0 => K (addI .i64 (mulI .i64 8 (subI .i64 (↑(List.length a0)) 1)) y0))))
noncomputable def nat_Len : List UInt8 → (Int → Prop) → Prop := Classical.choose (⟨nat_Len.d, rfl⟩ : ∃ f, f = nat_Len.d)
theorem nat_Len.is : nat_Len = nat_Len.d := Classical.choose_spec (⟨nat_Len.d, rfl⟩ : ∃ f, f = nat_Len.d)
def nat_Left.d (a0 : List UInt8) (a1 : Int) (K : List UInt8 → Int → Prop) : Prop :=
  nat_Check a0 fun y0 => br (!eqI y0 0) (K [] 2) (br (ltI a1 0) (K [] 2) (br (eqS a0 []) (K [] 0) (nat_Len a0 fun y0 => br (ltI (subI .i64 131072 y0) a1) (K [] 4) (nat_words a0 fun y0 y1 => nat_up y0 y1 a1 (nat_told 0 (fun x => 0) fun y0 y1 => K y0 y1) fun y0 y1 y2 y3 => nat_told y0 y3 fun y0 y1 => K y0 y1))))
noncomputable def nat_Left : List UInt8 → Int → (List UInt8 → Int → Prop) → Prop := Classical.choose (⟨nat_Left.d, rfl⟩ : ∃ f, f = nat_Left.d)
theorem nat_Left.is : nat_Left = nat_Left.d := Classical.choose_spec (⟨nat_Left.d, rfl⟩ : ∃ f, f = nat_Left.d)
def nat_Low.l4.step (again : List UInt8 → Int → Prop) (k0 : Int → Prop) (k1 : Prop) (x0 : List UInt8) (x1 : Int) : Prop :=
  br (leI 0 x1) (gd (leI 0 x1 && ltI x1 ↑(List.length x0)) (br (!eqI (byteAt x0 (Int.toNat x1)) 0) (gd (leI 0 x1 && ltI x1 ↑(List.length x0)) (word_Low (cvI .u64 (byteAt x0 (Int.toNat x1))) fun y0 => k0 (addI .i64 (mulI .i64 8 (subI .i64 (subI .i64 (↑(List.length x0)) 1) x1)) y0))) (again x0 (subI .i64 x1 1)))) k1
def nat_Low.l4 (k0 : Int → Prop) (k1 : Prop) : Nat → List UInt8 → Int → Prop
  | 0 => fun _ _ => False
  | n + 1 => nat_Low.l4.step (nat_Low.l4 k0 k1 n) k0 k1
def nat_Low.l4.entry : LoopEntry := ⟨LV.mk 0 [(0, 0)] 4 0 false, 0, 30, fun vs H K => match vs, H with
  | [EV.str x0, EV.int .i64 x1], [] => ∃ n, nat_Low.l4 (fun y0 => K .ret [EV.int .i64 y0] []) (K (.exit 0) [] []) n x0 x1
  | _, _ => False⟩
def nat_Low.d (a0 : List UInt8) (K : Int → Prop) : Prop :=
  nat_Check a0 fun y0 => br (!eqI y0 0) (K 0) (∃ n, nat_Low.l4 (fun y0 => K y0) (K 0) n a0 (subI .i64 (↑(List.length a0)) 1))
noncomputable def nat_Low : List UInt8 → (Int → Prop) → Prop := Classical.choose (⟨nat_Low.d, rfl⟩ : ∃ f, f = nat_Low.d)
theorem nat_Low.is : nat_Low = nat_Low.d := Classical.choose_spec (⟨nat_Low.d, rfl⟩ : ∃ f, f = nat_Low.d)
def nat_OfWide.d (a0 : Nat → Int) (K : List UInt8 → Prop) : Prop :=
  nat_number 12 (app 10 (app 8 (app 6 (app 4 (app 2 (upd (upd (fun x => 0) 0 (cvI .u32 (a0 0))) 1 (cvI .u32 (shrI .u64 (a0 0) 32))) (upd (upd (fun x => 0) 0 (cvI .u32 (a0 1))) 1 (cvI .u32 (shrI .u64 (a0 1) 32)))) (upd (upd (fun x => 0) 0 (cvI .u32 (a0 2))) 1 (cvI .u32 (shrI .u64 (a0 2) 32)))) (upd (upd (fun x => 0) 0 (cvI .u32 (a0 3))) 1 (cvI .u32 (shrI .u64 (a0 3) 32)))) (upd (upd (fun x => 0) 0 (cvI .u32 (a0 4))) 1 (cvI .u32 (shrI .u64 (a0 4) 32)))) (upd (upd (fun x => 0) 0 (cvI .u32 (a0 5))) 1 (cvI .u32 (shrI .u64 (a0 5) 32)))) fun y0 => K y0
noncomputable def nat_OfWide : (Nat → Int) → (List UInt8 → Prop) → Prop := Classical.choose (⟨nat_OfWide.d, rfl⟩ : ∃ f, f = nat_OfWide.d)
theorem nat_OfWide.is : nat_OfWide = nat_OfWide.d := Classical.choose_spec (⟨nat_OfWide.d, rfl⟩ : ∃ f, f = nat_OfWide.d)
def nat_Right.d (a0 : List UInt8) (a1 : Int) (K : List UInt8 → Bool → Int → Prop) : Prop :=
  nat_Check a0 fun y0 => br (!eqI y0 0) (K [] false 2) (br (ltI a1 0) (K [] false 2) (br (eqS a0 []) (K [] false 0) (nat_words a0 fun y0 y1 => nat_down y0 y1 a1 fun y0 y1 => nat_number y0 y1 fun y0 => nat_Low a0 fun y0_1 => K y0 (ltI y0_1 a1) 0)))
noncomputable def nat_Right : List UInt8 → Int → (List UInt8 → Bool → Int → Prop) → Prop := Classical.choose (⟨nat_Right.d, rfl⟩ : ∃ f, f = nat_Right.d)
theorem nat_Right.is : nat_Right = nat_Right.d := Classical.choose_spec (⟨nat_Right.d, rfl⟩ : ∃ f, f = nat_Right.d)
def nat_ToWide.l4.step (again : List UInt8 → Nat → (Nat → Int) → Int → Int → (Nat → Int) → Prop) (k0 : List UInt8 → (Nat → Int) → Prop) (x0 : List UInt8) (x1 : Nat) (x2 : Nat → Int) (x3 : Int) (x4 : Int) (x5 : Nat → Int) : Prop :=
  br (ltI x4 x3) (gd (leI 0 x4 && ltI x4 ↑x1) (gd (leI 0 (quoI .i64 x4 2) && ltI (quoI .i64 x4 2) 6) (gd (!ltI (cvI .u64 (mulI .i64 32 (remI .i64 x4 2))) 0) (gd (leI 0 (quoI .i64 x4 2) && ltI (quoI .i64 x4 2) 6) (again x0 x1 x2 x3 (addI .i64 x4 1) (upd x5 (Int.toNat (quoI .i64 x4 2)) (orI .u64 (x5 (Int.toNat (quoI .i64 x4 2))) (shlI .u64 (cvI .u64 (x2 (Int.toNat x4))) (cvI .u64 (mulI .i64 32 (remI .i64 x4 2))))))))))) (k0 x0 x5)
def nat_ToWide.l4 (k0 : List UInt8 → (Nat → Int) → Prop) : Nat → List UInt8 → Nat → (Nat → Int) → Int → Int → (Nat → Int) → Prop
  | 0 => fun _ _ _ _ _ _ => False
  | n + 1 => nat_ToWide.l4.step (nat_ToWide.l4 k0 n) k0
def nat_ToWide.l4.entry : LoopEntry := ⟨LV.mk 5 [(0, 5)] 12 0 false, 0, 43, fun vs H K => match vs, H with
  | [EV.str x0, EV.ptr 0 [], EV.rsI .u32 x1 x2, EV.int .i64 x3, EV.int .i64 x4], [some (EV.arr .u64 6 x5)] => ∃ n, nat_ToWide.l4 (fun y0 y1 => K (.exit 0) [EV.str y0, EV.ptr 0 []] [some (EV.arr .u64 6 y1)]) n x0 x1 x2 x3 x4 x5
  | _, _ => False⟩
def nat_ToWide.d (a0 : List UInt8) (K : (Nat → Int) → Bool → Prop) : Prop :=
  nat_Check a0 fun y0 => br (!eqI y0 0) (K (fun x => 0) false) (br (ltI 48 ↑(List.length a0)) (K (fun x => 0) false) (nat_words a0 fun y0 y1 => ∃ n, nat_ToWide.l4 (fun y0 y1 => wide_Len y1 fun y0_1 => nat_Len y0 fun y0 => K y1 (eqI y0_1 y0)) n a0 y0 y1 (↑y0) 0 fun x => 0))
noncomputable def nat_ToWide : List UInt8 → ((Nat → Int) → Bool → Prop) → Prop := Classical.choose (⟨nat_ToWide.d, rfl⟩ : ∃ f, f = nat_ToWide.d)
theorem nat_ToWide.is : nat_ToWide = nat_ToWide.d := Classical.choose_spec (⟨nat_ToWide.d, rfl⟩ : ∃ f, f = nat_ToWide.d)
end Go.Ev.S

/- The functions as the evaluator has them: what each comes to. -/
set_option maxRecDepth 100000
set_option linter.unusedVariables false
set_option linter.unusedSimpArgs false
namespace Go.Ev.S
open Go Go.Ev
end Go.Ev.S

/- The functions as the evaluator has them: what each comes to. -/
set_option maxRecDepth 100000
set_option linter.unusedVariables false
set_option linter.unusedSimpArgs false
namespace Go.Ev.S
open Go Go.Ev
end Go.Ev.S

/- The functions as the evaluator has them: what each comes to. -/
set_option maxRecDepth 100000
set_option linter.unusedVariables false
set_option linter.unusedSimpArgs false
namespace Go.Ev.S
open Go Go.Ev
end Go.Ev.S

/- The functions as the evaluator has them: what each comes to. -/
set_option maxRecDepth 100000
set_option linter.unusedVariables false
set_option linter.unusedSimpArgs false
namespace Go.Ev.S
open Go Go.Ev
def exact_null.d (K : Bool → List UInt8 → List UInt8 → Int → Prop) : Prop :=
  K false [] [1] 0
noncomputable def exact_null : (Bool → List UInt8 → List UInt8 → Int → Prop) → Prop := Classical.choose (⟨exact_null.d, rfl⟩ : ∃ f, f = exact_null.d)
theorem exact_null.is : exact_null = exact_null.d := Classical.choose_spec (⟨exact_null.d, rfl⟩ : ∃ f, f = exact_null.d)
def exact_odd.d (a0 : List UInt8) (K : Bool → Prop) : Prop :=
  br (!eqS a0 []) (gd (leI 0 (subI .i64 (↑(List.length a0)) 1) && ltI (subI .i64 (↑(List.length a0)) 1) ↑(List.length a0)) (K (eqI (andI .u8 (byteAt a0 (Int.toNat (subI .i64 (↑(List.length a0)) 1))) 1) 1))) (K false)
noncomputable def exact_odd : List UInt8 → (Bool → Prop) → Prop := Classical.choose (⟨exact_odd.d, rfl⟩ : ∃ f, f = exact_odd.d)
theorem exact_odd.is : exact_odd = exact_odd.d := Classical.choose_spec (⟨exact_odd.d, rfl⟩ : ∃ f, f = exact_odd.d)
def exact_within.d (a0 : Int) (K : Bool → Prop) : Prop :=
  br (leI (-1048576) a0) (K (leI a0 1048576)) (K false)
noncomputable def exact_within : Int → (Bool → Prop) → Prop := Classical.choose (⟨exact_within.d, rfl⟩ : ∃ f, f = exact_within.d)
theorem exact_within.is : exact_within = exact_within.d := Classical.choose_spec (⟨exact_within.d, rfl⟩ : ∃ f, f = exact_within.d)
def exact_Check.d (a0_0 : Bool) (a0_1 : List UInt8) (a0_2 : List UInt8) (a0_3 : Int) (K : Int → Prop) : Prop :=
  nat_Check a0_1 fun y0 => br (!eqI y0 0) (K 2) (nat_Check a0_2 fun y0 => br (!eqI y0 0) (K 2) (exact_odd a0_2 fun y0 => br (!y0) (K 2) (exact_within a0_3 fun y0 => br (!y0) (K 2) (br (eqS a0_1 []) (exact_null fun y0 y1 y2 y3 => br (!(beqB a0_0 y0 && (eqS a0_1 y1 && (eqS a0_2 y2 && eqI a0_3 y3)))) (K 2) (K 0)) (nat_Gcd a0_1 a0_2 fun y0 y1 => exact_odd a0_1 fun y0_1 => br (!y0_1) (K 2) (br (!eqS y0 [1]) (K 2) (K 0)))))))
noncomputable def exact_Check : Bool → List UInt8 → List UInt8 → Int → (Int → Prop) → Prop := Classical.choose (⟨exact_Check.d, rfl⟩ : ∃ f, f = exact_Check.d)
theorem exact_Check.is : exact_Check = exact_Check.d := Classical.choose_spec (⟨exact_Check.d, rfl⟩ : ∃ f, f = exact_Check.d)
def exact_Make.d (a0 : Bool) (a1 : List UInt8) (a2 : List UInt8) (a3 : Int) (K : Bool → List UInt8 → List UInt8 → Int → Int → Prop) : Prop :=
  nat_Check a1 fun y0 => br (!eqI y0 0) (K false [] [] 0 2) (nat_Check a2 fun y0 => br (!eqI y0 0) (K false [] [] 0 2) (br (eqS a2 []) (K false [] [] 0 2) (exact_within a3 fun y0 => br (!y0) (K false [] [] 0 2) (br (eqS a1 []) (exact_null fun y0 y1 y2 y3 => K y0 y1 y2 y3 0) (nat_Low a1 fun y0 => nat_Low a2 fun y0_1 => nat_Right a1 y0 fun y0_2 y1 y2 => nat_Right a2 y0_1 fun y0_3 y1 y2 => nat_Gcd y0_2 y0_3 fun y0_4 y1 => br (!eqS y0_4 [1]) (nat_Div y0_2 y0_4 fun y0_5 y1 y2 => nat_Div y0_3 y0_4 fun y0_6 y1 y2 => exact_within (addI .i64 a3 (subI .i64 y0 y0_1)) fun y0_7 => br (!y0_7) (K false [] [] 0 4) (K a0 y0_5 y0_6 (addI .i64 a3 (subI .i64 y0 y0_1)) 0)) (exact_within (addI .i64 a3 (subI .i64 y0 y0_1)) fun y0_5 => br (!y0_5) (K false [] [] 0 4) (K a0 y0_2 y0_3 (addI .i64 a3 (subI .i64 y0 y0_1)) 0)))))))
noncomputable def exact_Make : Bool → List UInt8 → List UInt8 → Int → (Bool → List UInt8 → List UInt8 → Int → Int → Prop) → Prop := Classical.choose (⟨exact_Make.d, rfl⟩ : ∃ f, f = exact_Make.d)
theorem exact_Make.is : exact_Make = exact_Make.d := Classical.choose_spec (⟨exact_Make.d, rfl⟩ : ∃ f, f = exact_Make.d)
def exact_top.d (a0_0 : Bool) (a0_1 : List UInt8) (a0_2 : List UInt8) (a0_3 : Int) (K : Int → Prop) : Prop :=
  nat_Len a0_1 fun y0 => nat_Len a0_2 fun y0_1 => br (leI 0 (subI .i64 y0 y0_1)) (nat_Left a0_2 (subI .i64 y0 y0_1) fun y0_2 y1 => nat_Cmp a0_1 y0_2 fun y0_3 y1 => br (ltI y0_3 0) (K (addI .i64 (subI .i64 (subI .i64 y0 y0_1) 1) a0_3)) (K (addI .i64 (subI .i64 y0 y0_1) a0_3))) (nat_Left a0_1 (negI .i64 (subI .i64 y0 y0_1)) fun y0_2 y1 => nat_Cmp y0_2 a0_2 fun y0_3 y1 => br (ltI y0_3 0) (K (addI .i64 (subI .i64 (subI .i64 y0 y0_1) 1) a0_3)) (K (addI .i64 (subI .i64 y0 y0_1) a0_3)))
noncomputable def exact_top : Bool → List UInt8 → List UInt8 → Int → (Int → Prop) → Prop := Classical.choose (⟨exact_top.d, rfl⟩ : ∃ f, f = exact_top.d)
theorem exact_top.is : exact_top = exact_top.d := Classical.choose_spec (⟨exact_top.d, rfl⟩ : ∃ f, f = exact_top.d)
def exact_Floor.d (a0_0 : Bool) (a0_1 : List UInt8) (a0_2 : List UInt8) (a0_3 : Int) (a1 : Int) (K : List UInt8 → Bool → Int → Prop) : Prop :=
  exact_Check a0_0 a0_1 a0_2 a0_3 fun y0 => br (!eqI y0 0) (K [] false 2) (br (ltI a1 (-2097152)) (K [] false 2) (br (ltI 2097152 a1) (K [] false 2) (br (eqS a0_1 []) (K [] true 0) (br (leI a1 a0_3) (nat_Left a0_1 (subI .i64 a0_3 a1) fun y0 y1 => br (!eqI y1 0) (K [] false y1) (nat_Div y0 a0_2 fun y0 y1 y2 => K y0 (eqS y1 []) 0)) (exact_top a0_0 a0_1 a0_2 a0_3 fun y0 => br (ltI y0 a1) (K [] false 0) (nat_Left a0_2 (subI .i64 a1 a0_3) fun y0 y1 => nat_Div a0_1 y0 fun y0 y1 y2 => K y0 (eqS y1 []) 0))))))
noncomputable def exact_Floor : Bool → List UInt8 → List UInt8 → Int → Int → (List UInt8 → Bool → Int → Prop) → Prop := Classical.choose (⟨exact_Floor.d, rfl⟩ : ∃ f, f = exact_Floor.d)
theorem exact_Floor.is : exact_Floor = exact_Floor.d := Classical.choose_spec (⟨exact_Floor.d, rfl⟩ : ∃ f, f = exact_Floor.d)
def exact_Top.d (a0_0 : Bool) (a0_1 : List UInt8) (a0_2 : List UInt8) (a0_3 : Int) (K : Int → Int → Prop) : Prop :=
  exact_Check a0_0 a0_1 a0_2 a0_3 fun y0 => br (!eqI y0 0) (K 0 2) (br (eqS a0_1 []) (K 0 2) (exact_top a0_0 a0_1 a0_2 a0_3 fun y0 => K y0 0))
noncomputable def exact_Top : Bool → List UInt8 → List UInt8 → Int → (Int → Int → Prop) → Prop := Classical.choose (⟨exact_Top.d, rfl⟩ : ∃ f, f = exact_Top.d)
theorem exact_Top.is : exact_Top = exact_Top.d := Classical.choose_spec (⟨exact_Top.d, rfl⟩ : ∃ f, f = exact_Top.d)
end Go.Ev.S

/- The functions as the evaluator has them: what each comes to. -/
set_option maxRecDepth 100000
set_option linter.unusedVariables false
set_option linter.unusedSimpArgs false
namespace Go.Ev.S
open Go Go.Ev
def shape_Check.d (a0 : Int) (K : Int → Prop) : Prop :=
  br (ltI 3 a0) (K 2) (K 0)
noncomputable def shape_Check : Int → (Int → Prop) → Prop := Classical.choose (⟨shape_Check.d, rfl⟩ : ∃ f, f = shape_Check.d)
theorem shape_Check.is : shape_Check = shape_Check.d := Classical.choose_spec (⟨shape_Check.d, rfl⟩ : ∃ f, f = shape_Check.d)
def shape_numbers.d (a0 : Int) (K : Int → Int → Int → List UInt8 → Prop) : Prop :=
  br (leI 4 (cvI .i64 a0)) (K 0 0 0 []) (br (eqI a0 0) (br (eqI a0 0) (br (eqI a0 0) (br (eqI a0 0) (K 32 24 127 [115]) (br (eqI a0 1) (K 32 24 127 [100]) (br (eqI a0 2) (K 32 24 127 [104]) (br (eqI a0 3) (K 32 24 127 [113]) False)))) (br (eqI a0 1) (br (eqI a0 0) (K 32 24 1023 [115]) (br (eqI a0 1) (K 32 24 1023 [100]) (br (eqI a0 2) (K 32 24 1023 [104]) (br (eqI a0 3) (K 32 24 1023 [113]) False)))) (br (eqI a0 2) (br (eqI a0 0) (K 32 24 15 [115]) (br (eqI a0 1) (K 32 24 15 [100]) (br (eqI a0 2) (K 32 24 15 [104]) (br (eqI a0 3) (K 32 24 15 [113]) False)))) (br (eqI a0 3) (br (eqI a0 0) (K 32 24 16383 [115]) (br (eqI a0 1) (K 32 24 16383 [100]) (br (eqI a0 2) (K 32 24 16383 [104]) (br (eqI a0 3) (K 32 24 16383 [113]) False)))) False)))) (br (eqI a0 1) (br (eqI a0 0) (br (eqI a0 0) (K 32 53 127 [115]) (br (eqI a0 1) (K 32 53 127 [100]) (br (eqI a0 2) (K 32 53 127 [104]) (br (eqI a0 3) (K 32 53 127 [113]) False)))) (br (eqI a0 1) (br (eqI a0 0) (K 32 53 1023 [115]) (br (eqI a0 1) (K 32 53 1023 [100]) (br (eqI a0 2) (K 32 53 1023 [104]) (br (eqI a0 3) (K 32 53 1023 [113]) False)))) (br (eqI a0 2) (br (eqI a0 0) (K 32 53 15 [115]) (br (eqI a0 1) (K 32 53 15 [100]) (br (eqI a0 2) (K 32 53 15 [104]) (br (eqI a0 3) (K 32 53 15 [113]) False)))) (br (eqI a0 3) (br (eqI a0 0) (K 32 53 16383 [115]) (br (eqI a0 1) (K 32 53 16383 [100]) (br (eqI a0 2) (K 32 53 16383 [104]) (br (eqI a0 3) (K 32 53 16383 [113]) False)))) False)))) (br (eqI a0 2) (br (eqI a0 0) (br (eqI a0 0) (K 32 11 127 [115]) (br (eqI a0 1) (K 32 11 127 [100]) (br (eqI a0 2) (K 32 11 127 [104]) (br (eqI a0 3) (K 32 11 127 [113]) False)))) (br (eqI a0 1) (br (eqI a0 0) (K 32 11 1023 [115]) (br (eqI a0 1) (K 32 11 1023 [100]) (br (eqI a0 2) (K 32 11 1023 [104]) (br (eqI a0 3) (K 32 11 1023 [113]) False)))) (br (eqI a0 2) (br (eqI a0 0) (K 32 11 15 [115]) (br (eqI a0 1) (K 32 11 15 [100]) (br (eqI a0 2) (K 32 11 15 [104]) (br (eqI a0 3) (K 32 11 15 [113]) False)))) (br (eqI a0 3) (br (eqI a0 0) (K 32 11 16383 [115]) (br (eqI a0 1) (K 32 11 16383 [100]) (br (eqI a0 2) (K 32 11 16383 [104]) (br (eqI a0 3) (K 32 11 16383 [113]) False)))) False)))) (br (eqI a0 3) (br (eqI a0 0) (br (eqI a0 0) (K 32 113 127 [115]) (br (eqI a0 1) (K 32 113 127 [100]) (br (eqI a0 2) (K 32 113 127 [104]) (br (eqI a0 3) (K 32 113 127 [113]) False)))) (br (eqI a0 1) (br (eqI a0 0) (K 32 113 1023 [115]) (br (eqI a0 1) (K 32 113 1023 [100]) (br (eqI a0 2) (K 32 113 1023 [104]) (br (eqI a0 3) (K 32 113 1023 [113]) False)))) (br (eqI a0 2) (br (eqI a0 0) (K 32 113 15 [115]) (br (eqI a0 1) (K 32 113 15 [100]) (br (eqI a0 2) (K 32 113 15 [104]) (br (eqI a0 3) (K 32 113 15 [113]) False)))) (br (eqI a0 3) (br (eqI a0 0) (K 32 113 16383 [115]) (br (eqI a0 1) (K 32 113 16383 [100]) (br (eqI a0 2) (K 32 113 16383 [104]) (br (eqI a0 3) (K 32 113 16383 [113]) False)))) False)))) False)))) (br (eqI a0 1) (br (eqI a0 0) (br (eqI a0 0) (br (eqI a0 0) (K 64 24 127 [115]) (br (eqI a0 1) (K 64 24 127 [100]) (br (eqI a0 2) (K 64 24 127 [104]) (br (eqI a0 3) (K 64 24 127 [113]) False)))) (br (eqI a0 1) (br (eqI a0 0) (K 64 24 1023 [115]) (br (eqI a0 1) (K 64 24 1023 [100]) (br (eqI a0 2) (K 64 24 1023 [104]) (br (eqI a0 3) (K 64 24 1023 [113]) False)))) (br (eqI a0 2) (br (eqI a0 0) (K 64 24 15 [115]) (br (eqI a0 1) (K 64 24 15 [100]) (br (eqI a0 2) (K 64 24 15 [104]) (br (eqI a0 3) (K 64 24 15 [113]) False)))) (br (eqI a0 3) (br (eqI a0 0) (K 64 24 16383 [115]) (br (eqI a0 1) (K 64 24 16383 [100]) (br (eqI a0 2) (K 64 24 16383 [104]) (br (eqI a0 3) (K 64 24 16383 [113]) False)))) False)))) (br (eqI a0 1) (br (eqI a0 0) (br (eqI a0 0) (K 64 53 127 [115]) (br (eqI a0 1) (K 64 53 127 [100]) (br (eqI a0 2) (K 64 53 127 [104]) (br (eqI a0 3) (K 64 53 127 [113]) False)))) (br (eqI a0 1) (br (eqI a0 0) (K 64 53 1023 [115]) (br (eqI a0 1) (K 64 53 1023 [100]) (br (eqI a0 2) (K 64 53 1023 [104]) (br (eqI a0 3) (K 64 53 1023 [113]) False)))) (br (eqI a0 2) (br (eqI a0 0) (K 64 53 15 [115]) (br (eqI a0 1) (K 64 53 15 [100]) (br (eqI a0 2) (K 64 53 15 [104]) (br (eqI a0 3) (K 64 53 15 [113]) False)))) (br (eqI a0 3) (br (eqI a0 0) (K 64 53 16383 [115]) (br (eqI a0 1) (K 64 53 16383 [100]) (br (eqI a0 2) (K 64 53 16383 [104]) (br (eqI a0 3) (K 64 53 16383 [113]) False)))) False)))) (br (eqI a0 2) (br (eqI a0 0) (br (eqI a0 0) (K 64 11 127 [115]) (br (eqI a0 1) (K 64 11 127 [100]) (br (eqI a0 2) (K 64 11 127 [104]) (br (eqI a0 3) (K 64 11 127 [113]) False)))) (br (eqI a0 1) (br (eqI a0 0) (K 64 11 1023 [115]) (br (eqI a0 1) (K 64 11 1023 [100]) (br (eqI a0 2) (K 64 11 1023 [104]) (br (eqI a0 3) (K 64 11 1023 [113]) False)))) (br (eqI a0 2) (br (eqI a0 0) (K 64 11 15 [115]) (br (eqI a0 1) (K 64 11 15 [100]) (br (eqI a0 2) (K 64 11 15 [104]) (br (eqI a0 3) (K 64 11 15 [113]) False)))) (br (eqI a0 3) (br (eqI a0 0) (K 64 11 16383 [115]) (br (eqI a0 1) (K 64 11 16383 [100]) (br (eqI a0 2) (K 64 11 16383 [104]) (br (eqI a0 3) (K 64 11 16383 [113]) False)))) False)))) (br (eqI a0 3) (br (eqI a0 0) (br (eqI a0 0) (K 64 113 127 [115]) (br (eqI a0 1) (K 64 113 127 [100]) (br (eqI a0 2) (K 64 113 127 [104]) (br (eqI a0 3) (K 64 113 127 [113]) False)))) (br (eqI a0 1) (br (eqI a0 0) (K 64 113 1023 [115]) (br (eqI a0 1) (K 64 113 1023 [100]) (br (eqI a0 2) (K 64 113 1023 [104]) (br (eqI a0 3) (K 64 113 1023 [113]) False)))) (br (eqI a0 2) (br (eqI a0 0) (K 64 113 15 [115]) (br (eqI a0 1) (K 64 113 15 [100]) (br (eqI a0 2) (K 64 113 15 [104]) (br (eqI a0 3) (K 64 113 15 [113]) False)))) (br (eqI a0 3) (br (eqI a0 0) (K 64 113 16383 [115]) (br (eqI a0 1) (K 64 113 16383 [100]) (br (eqI a0 2) (K 64 113 16383 [104]) (br (eqI a0 3) (K 64 113 16383 [113]) False)))) False)))) False)))) (br (eqI a0 2) (br (eqI a0 0) (br (eqI a0 0) (br (eqI a0 0) (K 16 24 127 [115]) (br (eqI a0 1) (K 16 24 127 [100]) (br (eqI a0 2) (K 16 24 127 [104]) (br (eqI a0 3) (K 16 24 127 [113]) False)))) (br (eqI a0 1) (br (eqI a0 0) (K 16 24 1023 [115]) (br (eqI a0 1) (K 16 24 1023 [100]) (br (eqI a0 2) (K 16 24 1023 [104]) (br (eqI a0 3) (K 16 24 1023 [113]) False)))) (br (eqI a0 2) (br (eqI a0 0) (K 16 24 15 [115]) (br (eqI a0 1) (K 16 24 15 [100]) (br (eqI a0 2) (K 16 24 15 [104]) (br (eqI a0 3) (K 16 24 15 [113]) False)))) (br (eqI a0 3) (br (eqI a0 0) (K 16 24 16383 [115]) (br (eqI a0 1) (K 16 24 16383 [100]) (br (eqI a0 2) (K 16 24 16383 [104]) (br (eqI a0 3) (K 16 24 16383 [113]) False)))) False)))) (br (eqI a0 1) (br (eqI a0 0) (br (eqI a0 0) (K 16 53 127 [115]) (br (eqI a0 1) (K 16 53 127 [100]) (br (eqI a0 2) (K 16 53 127 [104]) (br (eqI a0 3) (K 16 53 127 [113]) False)))) (br (eqI a0 1) (br (eqI a0 0) (K 16 53 1023 [115]) (br (eqI a0 1) (K 16 53 1023 [100]) (br (eqI a0 2) (K 16 53 1023 [104]) (br (eqI a0 3) (K 16 53 1023 [113]) False)))) (br (eqI a0 2) (br (eqI a0 0) (K 16 53 15 [115]) (br (eqI a0 1) (K 16 53 15 [100]) (br (eqI a0 2) (K 16 53 15 [104]) (br (eqI a0 3) (K 16 53 15 [113]) False)))) (br (eqI a0 3) (br (eqI a0 0) (K 16 53 16383 [115]) (br (eqI a0 1) (K 16 53 16383 [100]) (br (eqI a0 2) (K 16 53 16383 [104]) (br (eqI a0 3) (K 16 53 16383 [113]) False)))) False)))) (br (eqI a0 2) (br (eqI a0 0) (br (eqI a0 0) (K 16 11 127 [115]) (br (eqI a0 1) (K 16 11 127 [100]) (br (eqI a0 2) (K 16 11 127 [104]) (br (eqI a0 3) (K 16 11 127 [113]) False)))) (br (eqI a0 1) (br (eqI a0 0) (K 16 11 1023 [115]) (br (eqI a0 1) (K 16 11 1023 [100]) (br (eqI a0 2) (K 16 11 1023 [104]) (br (eqI a0 3) (K 16 11 1023 [113]) False)))) (br (eqI a0 2) (br (eqI a0 0) (K 16 11 15 [115]) (br (eqI a0 1) (K 16 11 15 [100]) (br (eqI a0 2) (K 16 11 15 [104]) (br (eqI a0 3) (K 16 11 15 [113]) False)))) (br (eqI a0 3) (br (eqI a0 0) (K 16 11 16383 [115]) (br (eqI a0 1) (K 16 11 16383 [100]) (br (eqI a0 2) (K 16 11 16383 [104]) (br (eqI a0 3) (K 16 11 16383 [113]) False)))) False)))) (br (eqI a0 3) (br (eqI a0 0) (br (eqI a0 0) (K 16 113 127 [115]) (br (eqI a0 1) (K 16 113 127 [100]) (br (eqI a0 2) (K 16 113 127 [104]) (br (eqI a0 3) (K 16 113 127 [113]) False)))) (br (eqI a0 1) (br (eqI a0 0) (K 16 113 1023 [115]) (br (eqI a0 1) (K 16 113 1023 [100]) (br (eqI a0 2) (K 16 113 1023 [104]) (br (eqI a0 3) (K 16 113 1023 [113]) False)))) (br (eqI a0 2) (br (eqI a0 0) (K 16 113 15 [115]) (br (eqI a0 1) (K 16 113 15 [100]) (br (eqI a0 2) (K 16 113 15 [104]) (br (eqI a0 3) (K 16 113 15 [113]) False)))) (br (eqI a0 3) (br (eqI a0 0) (K 16 113 16383 [115]) (br (eqI a0 1) (K 16 113 16383 [100]) (br (eqI a0 2) (K 16 113 16383 [104]) (br (eqI a0 3) (K 16 113 16383 [113]) False)))) False)))) False)))) (br (eqI a0 3) (br (eqI a0 0) (br (eqI a0 0) (br (eqI a0 0) (K 128 24 127 [115]) (br (eqI a0 1) (K 128 24 127 [100]) (br (eqI a0 2) (K 128 24 127 [104]) (br (eqI a0 3) (K 128 24 127 [113]) False)))) (br (eqI a0 1) (br (eqI a0 0) (K 128 24 1023 [115]) (br (eqI a0 1) (K 128 24 1023 [100]) (br (eqI a0 2) (K 128 24 1023 [104]) (br (eqI a0 3) (K 128 24 1023 [113]) False)))) (br (eqI a0 2) (br (eqI a0 0) (K 128 24 15 [115]) (br (eqI a0 1) (K 128 24 15 [100]) (br (eqI a0 2) (K 128 24 15 [104]) (br (eqI a0 3) (K 128 24 15 [113]) False)))) (br (eqI a0 3) (br (eqI a0 0) (K 128 24 16383 [115]) (br (eqI a0 1) (K 128 24 16383 [100]) (br (eqI a0 2) (K 128 24 16383 [104]) (br (eqI a0 3) (K 128 24 16383 [113]) False)))) False)))) (br (eqI a0 1) (br (eqI a0 0) (br (eqI a0 0) (K 128 53 127 [115]) (br (eqI a0 1) (K 128 53 127 [100]) (br (eqI a0 2) (K 128 53 127 [104]) (br (eqI a0 3) (K 128 53 127 [113]) False)))) (br (eqI a0 1) (br (eqI a0 0) (K 128 53 1023 [115]) (br (eqI a0 1) (K 128 53 1023 [100]) (br (eqI a0 2) (K 128 53 1023 [104]) (br (eqI a0 3) (K 128 53 1023 [113]) False)))) (br (eqI a0 2) (br (eqI a0 0) (K 128 53 15 [115]) (br (eqI a0 1) (K 128 53 15 [100]) (br (eqI a0 2) (K 128 53 15 [104]) (br (eqI a0 3) (K 128 53 15 [113]) False)))) (br (eqI a0 3) (br (eqI a0 0) (K 128 53 16383 [115]) (br (eqI a0 1) (K 128 53 16383 [100]) (br (eqI a0 2) (K 128 53 16383 [104]) (br (eqI a0 3) (K 128 53 16383 [113]) False)))) False)))) (br (eqI a0 2) (br (eqI a0 0) (br (eqI a0 0) (K 128 11 127 [115]) (br (eqI a0 1) (K 128 11 127 [100]) (br (eqI a0 2) (K 128 11 127 [104]) (br (eqI a0 3) (K 128 11 127 [113]) False)))) (br (eqI a0 1) (br (eqI a0 0) (K 128 11 1023 [115]) (br (eqI a0 1) (K 128 11 1023 [100]) (br (eqI a0 2) (K 128 11 1023 [104]) (br (eqI a0 3) (K 128 11 1023 [113]) False)))) (br (eqI a0 2) (br (eqI a0 0) (K 128 11 15 [115]) (br (eqI a0 1) (K 128 11 15 [100]) (br (eqI a0 2) (K 128 11 15 [104]) (br (eqI a0 3) (K 128 11 15 [113]) False)))) (br (eqI a0 3) (br (eqI a0 0) (K 128 11 16383 [115]) (br (eqI a0 1) (K 128 11 16383 [100]) (br (eqI a0 2) (K 128 11 16383 [104]) (br (eqI a0 3) (K 128 11 16383 [113]) False)))) False)))) (br (eqI a0 3) (br (eqI a0 0) (br (eqI a0 0) (K 128 113 127 [115]) (br (eqI a0 1) (K 128 113 127 [100]) (br (eqI a0 2) (K 128 113 127 [104]) (br (eqI a0 3) (K 128 113 127 [113]) False)))) (br (eqI a0 1) (br (eqI a0 0) (K 128 113 1023 [115]) (br (eqI a0 1) (K 128 113 1023 [100]) (br (eqI a0 2) (K 128 113 1023 [104]) (br (eqI a0 3) (K 128 113 1023 [113]) False)))) (br (eqI a0 2) (br (eqI a0 0) (K 128 113 15 [115]) (br (eqI a0 1) (K 128 113 15 [100]) (br (eqI a0 2) (K 128 113 15 [104]) (br (eqI a0 3) (K 128 113 15 [113]) False)))) (br (eqI a0 3) (br (eqI a0 0) (K 128 113 16383 [115]) (br (eqI a0 1) (K 128 113 16383 [100]) (br (eqI a0 2) (K 128 113 16383 [104]) (br (eqI a0 3) (K 128 113 16383 [113]) False)))) False)))) False)))) False))))
noncomputable def shape_numbers : Int → (Int → Int → Int → List UInt8 → Prop) → Prop := Classical.choose (⟨shape_numbers.d, rfl⟩ : ∃ f, f = shape_numbers.d)
theorem shape_numbers.is : shape_numbers = shape_numbers.d := Classical.choose_spec (⟨shape_numbers.d, rfl⟩ : ∃ f, f = shape_numbers.d)
def shape_Emax.d (a0 : Int) (K : Int → Prop) : Prop :=
  shape_numbers a0 fun y0 y1 y2 y3 => K y2
noncomputable def shape_Emax : Int → (Int → Prop) → Prop := Classical.choose (⟨shape_Emax.d, rfl⟩ : ∃ f, f = shape_Emax.d)
theorem shape_Emax.is : shape_Emax = shape_Emax.d := Classical.choose_spec (⟨shape_Emax.d, rfl⟩ : ∃ f, f = shape_Emax.d)
def shape_Emin.d (a0 : Int) (K : Int → Prop) : Prop :=
  shape_Check a0 fun y0 => br (!eqI y0 0) (K 0) (shape_Emax a0 fun y0 => K (subI .i64 1 y0))
noncomputable def shape_Emin : Int → (Int → Prop) → Prop := Classical.choose (⟨shape_Emin.d, rfl⟩ : ∃ f, f = shape_Emin.d)
theorem shape_Emin.is : shape_Emin = shape_Emin.d := Classical.choose_spec (⟨shape_Emin.d, rfl⟩ : ∃ f, f = shape_Emin.d)
def shape_Width.d (a0 : Int) (K : Int → Prop) : Prop :=
  shape_numbers a0 fun y0 y1 y2 y3 => K y0
noncomputable def shape_Width : Int → (Int → Prop) → Prop := Classical.choose (⟨shape_Width.d, rfl⟩ : ∃ f, f = shape_Width.d)
theorem shape_Width.is : shape_Width = shape_Width.d := Classical.choose_spec (⟨shape_Width.d, rfl⟩ : ∃ f, f = shape_Width.d)
def shape_Fits.d (a0 : Int) (a1_0 : Int) (a1_1 : Int) (K : Bool → Prop) : Prop :=
  br (eqI a0 3) (K true) (br (eqI a0 1) (K (eqI a1_0 0)) (br (eqI a0 0) (br (eqI a0 0) (br (eqI a1_0 0) (shape_Width a0 fun y0 => gd (!ltI (cvI .u64 y0) 0) (K (eqI (shrI .u64 a1_1 (cvI .u64 y0)) 0))) (K false)) (K false)) (br (eqI a0 2) (br (eqI a1_0 0) (shape_Width a0 fun y0 => gd (!ltI (cvI .u64 y0) 0) (K (eqI (shrI .u64 a1_1 (cvI .u64 y0)) 0))) (K false)) (K false))))
noncomputable def shape_Fits : Int → Int → Int → (Bool → Prop) → Prop := Classical.choose (⟨shape_Fits.d, rfl⟩ : ∃ f, f = shape_Fits.d)
theorem shape_Fits.is : shape_Fits = shape_Fits.d := Classical.choose_spec (⟨shape_Fits.d, rfl⟩ : ∃ f, f = shape_Fits.d)
def shape_Precision.d (a0 : Int) (K : Int → Prop) : Prop :=
  shape_numbers a0 fun y0 y1 y2 y3 => K y1
noncomputable def shape_Precision : Int → (Int → Prop) → Prop := Classical.choose (⟨shape_Precision.d, rfl⟩ : ∃ f, f = shape_Precision.d)
theorem shape_Precision.is : shape_Precision = shape_Precision.d := Classical.choose_spec (⟨shape_Precision.d, rfl⟩ : ∃ f, f = shape_Precision.d)
end Go.Ev.S

/- The functions as the evaluator has them: what each comes to. -/
set_option maxRecDepth 100000
set_option linter.unusedVariables false
set_option linter.unusedSimpArgs false
namespace Go.Ev.S
open Go Go.Ev
def kind_fields.d (a0 : Int) (a1_0 : Int) (a1_1 : Int) (K : Bool → Int → (Nat → Int) → Prop) : Prop :=
  wide_OfBits a1_0 a1_1 fun y0 => shape_Precision a0 fun y0_1 => shape_Width a0 fun y0_2 => wide_Mask (subI .i64 y0_1 1) fun y0_3 => wide_And y0 y0_3 fun y0_4 => wide_Right y0 (subI .i64 y0_1 1) fun y0_5 y1 => wide_Bit y0 (subI .i64 y0_2 1) fun y0 => gd (!ltI (cvI .u64 (subI .i64 y0_2 y0_1)) 0) (K y0 (andI .i64 (cvI .i64 (y0_5 0)) (subI .i64 (shlI .i64 1 (cvI .u64 (subI .i64 y0_2 y0_1))) 1)) y0_4)
noncomputable def kind_fields : Int → Int → Int → (Bool → Int → (Nat → Int) → Prop) → Prop := Classical.choose (⟨kind_fields.d, rfl⟩ : ∃ f, f = kind_fields.d)
theorem kind_fields.is : kind_fields = kind_fields.d := Classical.choose_spec (⟨kind_fields.d, rfl⟩ : ∃ f, f = kind_fields.d)
def kind_class.d (a0 : Int) (a1_0 : Int) (a1_1 : Int) (K : Int → Prop) : Prop :=
  kind_fields a0 a1_0 a1_1 fun y0 y1 y2 => shape_Emax a0 fun y0_1 => br (eqI y1 (addI .i64 (mulI .i64 2 y0_1) 1)) (br (!eqN 6 y2 fun x => 0) (shape_Precision a0 fun y0 => wide_Bit y2 (subI .i64 y0 2) fun y0 => br y0 (K 9) (K 8)) (br (!eqI y1 0) (br (eqN 6 y2 fun x => 0) (shape_Emax a0 fun y0_2 => br (eqI y1 (addI .i64 (mulI .i64 2 y0_2) 1)) (br y0 (K 0) (K 7)) (br (!eqI y1 0) (br y0 (K 1) (K 6)) (br (!eqN 6 y2 fun x => 0) (br y0 (K 2) (K 5)) (br y0 (K 3) (K 4))))) (br (!eqI y1 0) (br y0 (K 1) (K 6)) (br (!eqN 6 y2 fun x => 0) (br y0 (K 2) (K 5)) (br y0 (K 3) (K 4))))) (br (!eqI y1 0) (br y0 (K 1) (K 6)) (br (!eqN 6 y2 fun x => 0) (br y0 (K 2) (K 5)) (br y0 (K 3) (K 4)))))) (br (!eqI y1 0) (br (eqN 6 y2 fun x => 0) (shape_Emax a0 fun y0_2 => br (eqI y1 (addI .i64 (mulI .i64 2 y0_2) 1)) (br y0 (K 0) (K 7)) (br (!eqI y1 0) (br y0 (K 1) (K 6)) (br (!eqN 6 y2 fun x => 0) (br y0 (K 2) (K 5)) (br y0 (K 3) (K 4))))) (br (!eqI y1 0) (br y0 (K 1) (K 6)) (br (!eqN 6 y2 fun x => 0) (br y0 (K 2) (K 5)) (br y0 (K 3) (K 4))))) (br (!eqI y1 0) (br y0 (K 1) (K 6)) (br (!eqN 6 y2 fun x => 0) (br y0 (K 2) (K 5)) (br y0 (K 3) (K 4)))))
noncomputable def kind_class : Int → Int → Int → (Int → Prop) → Prop := Classical.choose (⟨kind_class.d, rfl⟩ : ∃ f, f = kind_class.d)
theorem kind_class.is : kind_class = kind_class.d := Classical.choose_spec (⟨kind_class.d, rfl⟩ : ∃ f, f = kind_class.d)
def kind_Class.d (a0 : Int) (a1_0 : Int) (a1_1 : Int) (K : Int → Int → Prop) : Prop :=
  shape_Fits a0 a1_0 a1_1 fun y0 => br (!y0) (K 0 2) (kind_class a0 a1_0 a1_1 fun y0 => K y0 0)
noncomputable def kind_Class : Int → Int → Int → (Int → Int → Prop) → Prop := Classical.choose (⟨kind_Class.d, rfl⟩ : ∃ f, f = kind_Class.d)
theorem kind_Class.is : kind_Class = kind_Class.d := Classical.choose_spec (⟨kind_Class.d, rfl⟩ : ∃ f, f = kind_Class.d)
def kind_build.d (a0 : Int) (a1 : Bool) (a2 : Int) (a3 : Nat → Int) (K : Int → Int → Prop) : Prop :=
  wide_Of (cvI .u64 a2) fun y0 => shape_Precision a0 fun y0_1 => wide_Left y0 (subI .i64 y0_1 1) fun y0 y1 => wide_Or y0 a3 fun y0 => br a1 (shape_Width a0 fun y0_2 => gd (leI 0 (quoI .i64 (subI .i64 y0_2 1) 64) && ltI (quoI .i64 (subI .i64 y0_2 1) 64) 6) (gd (!ltI (cvI .u64 (remI .i64 (subI .i64 y0_2 1) 64)) 0) (gd (leI 0 (quoI .i64 (subI .i64 y0_2 1) 64) && ltI (quoI .i64 (subI .i64 y0_2 1) 64) 6) (wide_ToBits (upd y0 (Int.toNat (quoI .i64 (subI .i64 y0_2 1) 64)) (orI .u64 (y0 (Int.toNat (quoI .i64 (subI .i64 y0_2 1) 64))) (shlI .u64 1 (cvI .u64 (remI .i64 (subI .i64 y0_2 1) 64))))) fun y0 y1 y2 => K y0 y1)))) (wide_ToBits y0 fun y0 y1 y2 => K y0 y1)
noncomputable def kind_build : Int → Bool → Int → (Nat → Int) → (Int → Int → Prop) → Prop := Classical.choose (⟨kind_build.d, rfl⟩ : ∃ f, f = kind_build.d)
theorem kind_build.is : kind_build = kind_build.d := Classical.choose_spec (⟨kind_build.d, rfl⟩ : ∃ f, f = kind_build.d)
def kind_Of.d (a0 : Int) (a1_0 : Bool) (a1_1 : List UInt8) (a1_2 : List UInt8) (a1_3 : Int) (K : Int → Int → Bool → Int → Prop) : Prop :=
  shape_Check a0 fun y0 => br (!eqI y0 0) (K 0 0 false 2) (exact_Check a1_0 a1_1 a1_2 a1_3 fun y0 => br (!eqI y0 0) (K 0 0 false 2) (br (eqS a1_1 []) (K 0 0 true 0) (shape_Precision a0 fun y0 => exact_Top a1_0 a1_1 a1_2 a1_3 fun y0_1 y1 => shape_Emin a0 fun y0_2 => br (!eqS a1_2 [1]) (K 0 0 false 0) (shape_Emax a0 fun y0_3 => br (ltI y0_3 y0_1) (K 0 0 false 0) (br (ltI a1_3 (addI .i64 (subI .i64 (maxI y0_1 y0_2) y0) 1)) (K 0 0 false 0) (exact_Floor a1_0 a1_1 a1_2 a1_3 (addI .i64 (subI .i64 (maxI y0_1 y0_2) y0) 1) fun y0_4 y1 y2 => nat_ToWide y0_4 fun y0_5 y1 => wide_Bit y0_5 (subI .i64 y0 1) fun y0_6 => br y0_6 (shape_Emin a0 fun y0_7 => wide_Mask (subI .i64 y0 1) fun y0_8 => wide_And y0_5 y0_8 fun y0_9 => kind_build a0 a1_0 (addI .i64 (subI .i64 (addI .i64 (subI .i64 (maxI y0_1 y0_2) y0) 1) y0_7) y0) y0_9 fun y0 y1 => K y0 y1 true 0) (wide_Mask (subI .i64 y0 1) fun y0 => wide_And y0_5 y0 fun y0 => kind_build a0 a1_0 0 y0 fun y0 y1 => K y0 y1 true 0)))))))
noncomputable def kind_Of : Int → Bool → List UInt8 → List UInt8 → Int → (Int → Int → Bool → Int → Prop) → Prop := Classical.choose (⟨kind_Of.d, rfl⟩ : ∃ f, f = kind_Of.d)
theorem kind_Of.is : kind_Of = kind_Of.d := Classical.choose_spec (⟨kind_Of.d, rfl⟩ : ∃ f, f = kind_Of.d)
def kind_Unpack.d (a0 : Int) (a1_0 : Int) (a1_1 : Int) (K : Int → (Nat → Int) → Int → (Nat → Int) → Int → Prop) : Prop :=
  shape_Fits a0 a1_0 a1_1 fun y0 => br (!y0) (K 0 (fun x => 0) 0 (fun x => 0) 2) (shape_Precision a0 fun y0 => kind_fields a0 a1_0 a1_1 fun y0_1 y1 y2 => kind_class a0 a1_0 a1_1 fun y0_2 => br (eqI y0_2 8) (br (eqI y0_2 8) (K y0_2 (fun x => 0) 0 y2 0) (br (eqI y0_2 1) (br (eqI y0_2 1) (gd (leI 0 (quoI .i64 (subI .i64 y0 1) 64) && ltI (quoI .i64 (subI .i64 y0 1) 64) 6) (gd (!ltI (cvI .u64 (remI .i64 (subI .i64 y0 1) 64)) 0) (gd (leI 0 (quoI .i64 (subI .i64 y0 1) 64) && ltI (quoI .i64 (subI .i64 y0 1) 64) 6) (shape_Emin a0 fun y0_3 => K y0_2 (upd y2 (Int.toNat (quoI .i64 (subI .i64 y0 1) 64)) (orI .u64 (y2 (Int.toNat (quoI .i64 (subI .i64 y0 1) 64))) (shlI .u64 1 (cvI .u64 (remI .i64 (subI .i64 y0 1) 64))))) (addI .i64 (subI .i64 (addI .i64 (subI .i64 y1 1) y0_3) y0) 1) (fun x => 0) 0)))) (br (eqI y0_2 2) (br (eqI y0_2 2) (shape_Emin a0 fun y0_3 => K y0_2 y2 (addI .i64 (subI .i64 (addI .i64 y1 y0_3) y0) 1) (fun x => 0) 0) (K y0_2 (fun x => 0) 0 (fun x => 0) 0)) (br (eqI y0_2 5) (shape_Emin a0 fun y0_3 => K y0_2 y2 (addI .i64 (subI .i64 (addI .i64 y1 y0_3) y0) 1) (fun x => 0) 0) (K y0_2 (fun x => 0) 0 (fun x => 0) 0)))) (br (eqI y0_2 6) (gd (leI 0 (quoI .i64 (subI .i64 y0 1) 64) && ltI (quoI .i64 (subI .i64 y0 1) 64) 6) (gd (!ltI (cvI .u64 (remI .i64 (subI .i64 y0 1) 64)) 0) (gd (leI 0 (quoI .i64 (subI .i64 y0 1) 64) && ltI (quoI .i64 (subI .i64 y0 1) 64) 6) (shape_Emin a0 fun y0_3 => K y0_2 (upd y2 (Int.toNat (quoI .i64 (subI .i64 y0 1) 64)) (orI .u64 (y2 (Int.toNat (quoI .i64 (subI .i64 y0 1) 64))) (shlI .u64 1 (cvI .u64 (remI .i64 (subI .i64 y0 1) 64))))) (addI .i64 (subI .i64 (addI .i64 (subI .i64 y1 1) y0_3) y0) 1) (fun x => 0) 0)))) (br (eqI y0_2 2) (br (eqI y0_2 2) (shape_Emin a0 fun y0_3 => K y0_2 y2 (addI .i64 (subI .i64 (addI .i64 y1 y0_3) y0) 1) (fun x => 0) 0) (K y0_2 (fun x => 0) 0 (fun x => 0) 0)) (br (eqI y0_2 5) (shape_Emin a0 fun y0_3 => K y0_2 y2 (addI .i64 (subI .i64 (addI .i64 y1 y0_3) y0) 1) (fun x => 0) 0) (K y0_2 (fun x => 0) 0 (fun x => 0) 0)))))) (br (eqI y0_2 9) (K y0_2 (fun x => 0) 0 y2 0) (br (eqI y0_2 1) (br (eqI y0_2 1) (gd (leI 0 (quoI .i64 (subI .i64 y0 1) 64) && ltI (quoI .i64 (subI .i64 y0 1) 64) 6) (gd (!ltI (cvI .u64 (remI .i64 (subI .i64 y0 1) 64)) 0) (gd (leI 0 (quoI .i64 (subI .i64 y0 1) 64) && ltI (quoI .i64 (subI .i64 y0 1) 64) 6) (shape_Emin a0 fun y0_3 => K y0_2 (upd y2 (Int.toNat (quoI .i64 (subI .i64 y0 1) 64)) (orI .u64 (y2 (Int.toNat (quoI .i64 (subI .i64 y0 1) 64))) (shlI .u64 1 (cvI .u64 (remI .i64 (subI .i64 y0 1) 64))))) (addI .i64 (subI .i64 (addI .i64 (subI .i64 y1 1) y0_3) y0) 1) (fun x => 0) 0)))) (br (eqI y0_2 2) (br (eqI y0_2 2) (shape_Emin a0 fun y0_3 => K y0_2 y2 (addI .i64 (subI .i64 (addI .i64 y1 y0_3) y0) 1) (fun x => 0) 0) (K y0_2 (fun x => 0) 0 (fun x => 0) 0)) (br (eqI y0_2 5) (shape_Emin a0 fun y0_3 => K y0_2 y2 (addI .i64 (subI .i64 (addI .i64 y1 y0_3) y0) 1) (fun x => 0) 0) (K y0_2 (fun x => 0) 0 (fun x => 0) 0)))) (br (eqI y0_2 6) (gd (leI 0 (quoI .i64 (subI .i64 y0 1) 64) && ltI (quoI .i64 (subI .i64 y0 1) 64) 6) (gd (!ltI (cvI .u64 (remI .i64 (subI .i64 y0 1) 64)) 0) (gd (leI 0 (quoI .i64 (subI .i64 y0 1) 64) && ltI (quoI .i64 (subI .i64 y0 1) 64) 6) (shape_Emin a0 fun y0_3 => K y0_2 (upd y2 (Int.toNat (quoI .i64 (subI .i64 y0 1) 64)) (orI .u64 (y2 (Int.toNat (quoI .i64 (subI .i64 y0 1) 64))) (shlI .u64 1 (cvI .u64 (remI .i64 (subI .i64 y0 1) 64))))) (addI .i64 (subI .i64 (addI .i64 (subI .i64 y1 1) y0_3) y0) 1) (fun x => 0) 0)))) (br (eqI y0_2 2) (br (eqI y0_2 2) (shape_Emin a0 fun y0_3 => K y0_2 y2 (addI .i64 (subI .i64 (addI .i64 y1 y0_3) y0) 1) (fun x => 0) 0) (K y0_2 (fun x => 0) 0 (fun x => 0) 0)) (br (eqI y0_2 5) (shape_Emin a0 fun y0_3 => K y0_2 y2 (addI .i64 (subI .i64 (addI .i64 y1 y0_3) y0) 1) (fun x => 0) 0) (K y0_2 (fun x => 0) 0 (fun x => 0) 0)))))))
noncomputable def kind_Unpack : Int → Int → Int → (Int → (Nat → Int) → Int → (Nat → Int) → Int → Prop) → Prop := Classical.choose (⟨kind_Unpack.d, rfl⟩ : ∃ f, f = kind_Unpack.d)
theorem kind_Unpack.is : kind_Unpack = kind_Unpack.d := Classical.choose_spec (⟨kind_Unpack.d, rfl⟩ : ∃ f, f = kind_Unpack.d)
def kind_Value.d (a0 : Int) (a1_0 : Int) (a1_1 : Int) (K : Bool → List UInt8 → List UInt8 → Int → Int → Prop) : Prop :=
  kind_Unpack a0 a1_0 a1_1 fun y0 y1 y2 y3 y4 => br (!eqI y4 0) (K false [] [] 0 y4) (br (eqI y0 0) (K false [] [] 0 80) (br (leI 7 y0) (K false [] [] 0 80) (nat_OfWide y1 fun y0_1 => exact_Make (ltI y0 4) y0_1 [1] y2 fun y0 y1 y2 y3 y4 => K y0 y1 y2 y3 y4)))
noncomputable def kind_Value : Int → Int → Int → (Bool → List UInt8 → List UInt8 → Int → Int → Prop) → Prop := Classical.choose (⟨kind_Value.d, rfl⟩ : ∃ f, f = kind_Value.d)
theorem kind_Value.is : kind_Value = kind_Value.d := Classical.choose_spec (⟨kind_Value.d, rfl⟩ : ∃ f, f = kind_Value.d)
end Go.Ev.S

/- The functions as the evaluator has them: what each comes to. -/
set_option maxRecDepth 100000
set_option linter.unusedVariables false
set_option linter.unusedSimpArgs false
namespace Go.Ev.S
open Go Go.Ev
def r01_Bit.d (a0 : Int) (a1 : Int) (K : Bool → Prop) : Prop :=
  br (leI 0 a1) (br (ltI a1 64) (gd (!ltI (cvI .u64 a1) 0) (K (eqI (andI .u64 (shrI .u64 a0 (cvI .u64 a1)) 1) 1))) (K false)) (K false)
noncomputable def r01_Bit : Int → Int → (Bool → Prop) → Prop := Classical.choose (⟨r01_Bit.d, rfl⟩ : ∃ f, f = r01_Bit.d)
theorem r01_Bit.is : r01_Bit = r01_Bit.d := Classical.choose_spec (⟨r01_Bit.d, rfl⟩ : ∃ f, f = r01_Bit.d)
def r01_Add.l3.step (again : Int → Int → Bool → Int → Int → Prop) (k0 : Bool → Int → Prop) (x0 : Int) (x1 : Int) (x2 : Bool) (x3 : Int) (x4 : Int) : Prop :=
  br (ltI x4 64) (r01_Bit x0 x4 fun y0 => r01_Bit x1 x4 fun y0_1 => br (!beqB (!beqB y0 y0_1) x2) (gd (!ltI (cvI .u64 x4) 0) (br y0 (br y0_1 (again x0 x1 true (orI .u64 x3 (shlI .u64 1 (cvI .u64 x4))) (addI .i64 x4 1)) (br y0 (br x2 (again x0 x1 true (orI .u64 x3 (shlI .u64 1 (cvI .u64 x4))) (addI .i64 x4 1)) (br y0_1 (again x0 x1 x2 (orI .u64 x3 (shlI .u64 1 (cvI .u64 x4))) (addI .i64 x4 1)) (again x0 x1 false (orI .u64 x3 (shlI .u64 1 (cvI .u64 x4))) (addI .i64 x4 1)))) (br y0_1 (again x0 x1 x2 (orI .u64 x3 (shlI .u64 1 (cvI .u64 x4))) (addI .i64 x4 1)) (again x0 x1 false (orI .u64 x3 (shlI .u64 1 (cvI .u64 x4))) (addI .i64 x4 1))))) (br y0 (br x2 (again x0 x1 true (orI .u64 x3 (shlI .u64 1 (cvI .u64 x4))) (addI .i64 x4 1)) (br y0_1 (again x0 x1 x2 (orI .u64 x3 (shlI .u64 1 (cvI .u64 x4))) (addI .i64 x4 1)) (again x0 x1 false (orI .u64 x3 (shlI .u64 1 (cvI .u64 x4))) (addI .i64 x4 1)))) (br y0_1 (again x0 x1 x2 (orI .u64 x3 (shlI .u64 1 (cvI .u64 x4))) (addI .i64 x4 1)) (again x0 x1 false (orI .u64 x3 (shlI .u64 1 (cvI .u64 x4))) (addI .i64 x4 1)))))) (br y0 (br y0_1 (again x0 x1 true x3 (addI .i64 x4 1)) (br y0 (br x2 (again x0 x1 true x3 (addI .i64 x4 1)) (br y0_1 (again x0 x1 x2 x3 (addI .i64 x4 1)) (again x0 x1 false x3 (addI .i64 x4 1)))) (br y0_1 (again x0 x1 x2 x3 (addI .i64 x4 1)) (again x0 x1 false x3 (addI .i64 x4 1))))) (br y0 (br x2 (again x0 x1 true x3 (addI .i64 x4 1)) (br y0_1 (again x0 x1 x2 x3 (addI .i64 x4 1)) (again x0 x1 false x3 (addI .i64 x4 1)))) (br y0_1 (again x0 x1 x2 x3 (addI .i64 x4 1)) (again x0 x1 false x3 (addI .i64 x4 1)))))) (k0 x2 x3)
def r01_Add.l3 (k0 : Bool → Int → Prop) : Nat → Int → Int → Bool → Int → Int → Prop
  | 0 => fun _ _ _ _ _ => False
  | n + 1 => r01_Add.l3.step (r01_Add.l3 k0 n) k0
def r01_Add.l3.entry : LoopEntry := ⟨LV.mk 260 [(0, 260)] 192 0 false, 0, 50, fun vs H K => match vs, H with
  | [EV.int .u64 x0, EV.int .u64 x1, EV.bool x2, EV.int .u64 x3, EV.int .i64 x4], [] => ∃ n, r01_Add.l3 (fun y0 y1 => K (.exit 0) [EV.bool y0, EV.int .u64 y1] []) n x0 x1 x2 x3 x4
  | _, _ => False⟩
def r01_Add.d (a0 : Int) (a1 : Int) (a2 : Bool) (K : Int → Bool → Prop) : Prop :=
  ∃ n, r01_Add.l3 (fun y0 y1 => K y1 y0) n a0 a1 a2 0 0
noncomputable def r01_Add : Int → Int → Bool → (Int → Bool → Prop) → Prop := Classical.choose (⟨r01_Add.d, rfl⟩ : ∃ f, f = r01_Add.d)
theorem r01_Add.is : r01_Add = r01_Add.d := Classical.choose_spec (⟨r01_Add.d, rfl⟩ : ∃ f, f = r01_Add.d)
def r01_Len.l3.step (again : Int → Int → Int → Prop) (k0 : Int → Prop) (x0 : Int) (x1 : Int) (x2 : Int) : Prop :=
  br (ltI x2 64) (r01_Bit x0 x2 fun y0 => br y0 (again x0 (addI .i64 x2 1) (addI .i64 x2 1)) (again x0 x1 (addI .i64 x2 1))) (k0 x1)
def r01_Len.l3 (k0 : Int → Prop) : Nat → Int → Int → Int → Prop
  | 0 => fun _ _ _ => False
  | n + 1 => r01_Len.l3.step (r01_Len.l3 k0 n) k0
def r01_Len.l3.entry : LoopEntry := ⟨LV.mk 8 [(0, 8)] 4 0 false, 0, 15, fun vs H K => match vs, H with
  | [EV.int .u64 x0, EV.int .i64 x1, EV.int .i64 x2], [] => ∃ n, r01_Len.l3 (fun y0 => K (.exit 0) [EV.int .i64 y0] []) n x0 x1 x2
  | _, _ => False⟩
def r01_Len.d (a0 : Int) (K : Int → Prop) : Prop :=
  ∃ n, r01_Len.l3 (fun y0 => K y0) n a0 0 0
noncomputable def r01_Len : Int → (Int → Prop) → Prop := Classical.choose (⟨r01_Len.d, rfl⟩ : ∃ f, f = r01_Len.d)
theorem r01_Len.is : r01_Len = r01_Len.d := Classical.choose_spec (⟨r01_Len.d, rfl⟩ : ∃ f, f = r01_Len.d)
def r01_Low.l2.step (again : Int → Int → Prop) (k0 : Int → Prop) (k1 : Prop) (x0 : Int) (x1 : Int) : Prop :=
  br (ltI x1 64) (r01_Bit x0 x1 fun y0 => br y0 (k0 x1) (again x0 (addI .i64 x1 1))) k1
def r01_Low.l2 (k0 : Int → Prop) (k1 : Prop) : Nat → Int → Int → Prop
  | 0 => fun _ _ => False
  | n + 1 => r01_Low.l2.step (r01_Low.l2 k0 k1 n) k0 k1
def r01_Low.l2.entry : LoopEntry := ⟨LV.mk 0 [(0, 0)] 4 0 false, 0, 12, fun vs H K => match vs, H with
  | [EV.int .u64 x0, EV.int .i64 x1], [] => ∃ n, r01_Low.l2 (fun y0 => K .ret [EV.int .i64 y0] []) (K (.exit 0) [] []) n x0 x1
  | _, _ => False⟩
def r01_Low.d (a0 : Int) (K : Int → Prop) : Prop :=
  ∃ n, r01_Low.l2 (fun y0 => K y0) (K 64) n a0 0
noncomputable def r01_Low : Int → (Int → Prop) → Prop := Classical.choose (⟨r01_Low.d, rfl⟩ : ∃ f, f = r01_Low.d)
theorem r01_Low.is : r01_Low = r01_Low.d := Classical.choose_spec (⟨r01_Low.d, rfl⟩ : ∃ f, f = r01_Low.d)
end Go.Ev.S

/- The functions as the evaluator has them: what each comes to. -/
set_option maxRecDepth 100000
set_option linter.unusedVariables false
set_option linter.unusedSimpArgs false
namespace Go.Ev.S
open Go Go.Ev
def r02_Add.l4.step (again : Bool → Int → (Nat → Int) → (Nat → Int) → (Nat → Int) → (Nat → Int) → Prop) (k0 : Bool → (Nat → Int) → (Nat → Int) → Prop) (x0 : Bool) (x1 : Int) (x2 : Nat → Int) (x3 : Nat → Int) (x4 : Nat → Int) (x5 : Nat → Int) : Prop :=
  br (ltI x1 6) (gd (leI 0 x1 && ltI x1 6) (gd (leI 0 x1 && ltI x1 6) (r01_Add (x2 (Int.toNat x1)) (x3 (Int.toNat x1)) x0 fun y0 y1 => gd (leI 0 x1 && ltI x1 6) (again y1 (addI .i64 x1 1) x2 x3 x4 (upd x5 (Int.toNat x1) y0))))) (k0 x0 x4 x5)
def r02_Add.l4 (k0 : Bool → (Nat → Int) → (Nat → Int) → Prop) : Nat → Bool → Int → (Nat → Int) → (Nat → Int) → (Nat → Int) → (Nat → Int) → Prop
  | 0 => fun _ _ _ _ _ _ => False
  | n + 1 => r02_Add.l4.step (r02_Add.l4 k0 n) k0
def r02_Add.l4.entry : LoopEntry := ⟨LV.mk 208 [(0, 208)] 48 0 false, 0, 32, fun vs H K => match vs, H with
  | [EV.ptr 0 [], EV.ptr 1 [], EV.ptr 2 [], EV.ptr 3 [], EV.bool x0, EV.int .i64 x1], [some (EV.arr .u64 6 x2), some (EV.arr .u64 6 x3), some (EV.arr .u64 6 x4), some (EV.arr .u64 6 x5)] => ∃ n, r02_Add.l4 (fun y0 y1 y2 => K (.exit 0) [EV.ptr 0 [], EV.ptr 1 [], EV.bool y0] [some (EV.arr .u64 6 y1), some (EV.arr .u64 6 y2)]) n x0 x1 x2 x3 x4 x5
  | _, _ => False⟩
def r02_Add.d (a0 : Nat → Int) (a1 : Nat → Int) (K : (Nat → Int) → Bool → Prop) : Prop :=
  ∃ n, r02_Add.l4 (fun y0 y1 y2 => K y2 y0) n false 0 a0 a1 (fun x => 0) fun x => 0
noncomputable def r02_Add : (Nat → Int) → (Nat → Int) → ((Nat → Int) → Bool → Prop) → Prop := Classical.choose (⟨r02_Add.d, rfl⟩ : ∃ f, f = r02_Add.d)
theorem r02_Add.is : r02_Add = r02_Add.d := Classical.choose_spec (⟨r02_Add.d, rfl⟩ : ∃ f, f = r02_Add.d)
def r02_And.l2.step (again : Int → (Nat → Int) → (Nat → Int) → (Nat → Int) → Prop) (k0 : (Nat → Int) → (Nat → Int) → Prop) (x0 : Int) (x1 : Nat → Int) (x2 : Nat → Int) (x3 : Nat → Int) : Prop :=
  br (ltI x0 6) (gd (leI 0 x0 && ltI x0 6) (gd (leI 0 x0 && ltI x0 6) (gd (leI 0 x0 && ltI x0 6) (again (addI .i64 x0 1) (upd x1 (Int.toNat x0) (andI .u64 (x1 (Int.toNat x0)) (x2 (Int.toNat x0)))) x2 x3)))) (k0 x1 x3)
def r02_And.l2 (k0 : (Nat → Int) → (Nat → Int) → Prop) : Nat → Int → (Nat → Int) → (Nat → Int) → (Nat → Int) → Prop
  | 0 => fun _ _ _ _ => False
  | n + 1 => r02_And.l2.step (r02_And.l2 k0 n) k0
def r02_And.l2.entry : LoopEntry := ⟨LV.mk 20 [(0, 20)] 16 0 false, 0, 20, fun vs H K => match vs, H with
  | [EV.ptr 0 [], EV.ptr 1 [], EV.ptr 2 [], EV.int .i64 x0], [some (EV.arr .u64 6 x1), some (EV.arr .u64 6 x2), some (EV.arr .u64 6 x3)] => ∃ n, r02_And.l2 (fun y0 y1 => K (.exit 0) [EV.ptr 0 [], EV.ptr 1 []] [some (EV.arr .u64 6 y0), some (EV.arr .u64 6 y1)]) n x0 x1 x2 x3
  | _, _ => False⟩
def r02_And.d (a0 : Nat → Int) (a1 : Nat → Int) (K : (Nat → Int) → Prop) : Prop :=
  ∃ n, r02_And.l2 (fun y0 y1 => K y0) n 0 a0 a1 fun x => 0
noncomputable def r02_And : (Nat → Int) → (Nat → Int) → ((Nat → Int) → Prop) → Prop := Classical.choose (⟨r02_And.d, rfl⟩ : ∃ f, f = r02_And.d)
theorem r02_And.is : r02_And = r02_And.d := Classical.choose_spec (⟨r02_And.d, rfl⟩ : ∃ f, f = r02_And.d)
def r02_Bit.d (a0 : Nat → Int) (a1 : Int) (K : Bool → Prop) : Prop :=
  br (leI 0 a1) (br (ltI a1 384) (gd (leI 0 (quoI .i64 a1 64) && ltI (quoI .i64 a1 64) 6) (r01_Bit (a0 (Int.toNat (quoI .i64 a1 64))) (remI .i64 a1 64) fun y0 => K y0)) (K false)) (K false)
noncomputable def r02_Bit : (Nat → Int) → Int → (Bool → Prop) → Prop := Classical.choose (⟨r02_Bit.d, rfl⟩ : ∃ f, f = r02_Bit.d)
theorem r02_Bit.is : r02_Bit = r02_Bit.d := Classical.choose_spec (⟨r02_Bit.d, rfl⟩ : ∃ f, f = r02_Bit.d)
def r02_Count.d (a0 : Int) (K : Int → Prop) : Prop :=
  br (ltI a0 0) (K 0) (br (ltI 384 a0) (K 384) (K a0))
noncomputable def r02_Count : Int → (Int → Prop) → Prop := Classical.choose (⟨r02_Count.d, rfl⟩ : ∃ f, f = r02_Count.d)
theorem r02_Count.is : r02_Count = r02_Count.d := Classical.choose_spec (⟨r02_Count.d, rfl⟩ : ∃ f, f = r02_Count.d)
def r02_Left.l5.step (again : Int → Bool → Int → (Nat → Int) → (Nat → Int) → (Nat → Int) → Prop) (k0 : Bool → (Nat → Int) → (Nat → Int) → Prop) (x0 : Int) (x1 : Bool) (x2 : Int) (x3 : Nat → Int) (x4 : Nat → Int) (x5 : Nat → Int) : Prop :=
  br (ltI x2 384) (r02_Bit x3 x2 fun y0 => br y0 (br (ltI (addI .i64 x2 x0) 384) (gd (leI 0 (quoI .i64 (addI .i64 x2 x0) 64) && ltI (quoI .i64 (addI .i64 x2 x0) 64) 6) (gd (!ltI (cvI .u64 (remI .i64 (addI .i64 x2 x0) 64)) 0) (gd (leI 0 (quoI .i64 (addI .i64 x2 x0) 64) && ltI (quoI .i64 (addI .i64 x2 x0) 64) 6) (again x0 x1 (addI .i64 x2 1) x3 x4 (upd x5 (Int.toNat (quoI .i64 (addI .i64 x2 x0) 64)) (orI .u64 (x5 (Int.toNat (quoI .i64 (addI .i64 x2 x0) 64))) (shlI .u64 1 (cvI .u64 (remI .i64 (addI .i64 x2 x0) 64))))))))) (again x0 true (addI .i64 x2 1) x3 x4 x5)) (again x0 x1 (addI .i64 x2 1) x3 x4 x5)) (k0 x1 x4 x5)
def r02_Left.l5 (k0 : Bool → (Nat → Int) → (Nat → Int) → Prop) : Nat → Int → Bool → Int → (Nat → Int) → (Nat → Int) → (Nat → Int) → Prop
  | 0 => fun _ _ _ _ _ _ => False
  | n + 1 => r02_Left.l5.step (r02_Left.l5 k0 n) k0
def r02_Left.l5.entry : LoopEntry := ⟨LV.mk 208 [(0, 208)] 48 0 false, 0, 42, fun vs H K => match vs, H with
  | [EV.int .i64 x0, EV.ptr 0 [], EV.ptr 1 [], EV.ptr 2 [], EV.bool x1, EV.int .i64 x2], [some (EV.arr .u64 6 x3), some (EV.arr .u64 6 x4), some (EV.arr .u64 6 x5)] => ∃ n, r02_Left.l5 (fun y0 y1 y2 => K (.exit 0) [EV.ptr 0 [], EV.ptr 1 [], EV.bool y0] [some (EV.arr .u64 6 y1), some (EV.arr .u64 6 y2)]) n x0 x1 x2 x3 x4 x5
  | _, _ => False⟩
def r02_Left.d (a0 : Nat → Int) (a1 : Int) (K : (Nat → Int) → Bool → Prop) : Prop :=
  r02_Count a1 fun y0 => ∃ n, r02_Left.l5 (fun y0 y1 y2 => K y2 y0) n y0 false 0 a0 (fun x => 0) fun x => 0
noncomputable def r02_Left : (Nat → Int) → Int → ((Nat → Int) → Bool → Prop) → Prop := Classical.choose (⟨r02_Left.d, rfl⟩ : ∃ f, f = r02_Left.d)
theorem r02_Left.is : r02_Left = r02_Left.d := Classical.choose_spec (⟨r02_Left.d, rfl⟩ : ∃ f, f = r02_Left.d)
def r02_Len.l2.step (again : Int → (Nat → Int) → Prop) (k0 : Int → Prop) (k1 : Prop) (x0 : Int) (x1 : Nat → Int) : Prop :=
  br (leI 0 x0) (gd (leI 0 x0 && ltI x0 6) (br (!eqI (x1 (Int.toNat x0)) 0) (gd (leI 0 x0 && ltI x0 6) (r01_Len (x1 (Int.toNat x0)) fun y0 => k0 (addI .i64 (mulI .i64 64 x0) y0))) (again (subI .i64 x0 1) x1))) k1
def r02_Len.l2 (k0 : Int → Prop) (k1 : Prop) : Nat → Int → (Nat → Int) → Prop
  | 0 => fun _ _ => False
  | n + 1 => r02_Len.l2.step (r02_Len.l2 k0 k1 n) k0 k1
def r02_Len.l2.entry : LoopEntry := ⟨LV.mk 0 [(0, 0)] 4 0 false, 0, 19, fun vs H K => match vs, H with
  | [EV.ptr 0 [], EV.int .i64 x0], [some (EV.arr .u64 6 x1)] => ∃ n, r02_Len.l2 (fun y0 => K .ret [EV.int .i64 y0] []) (K (.exit 0) [] []) n x0 x1
  | _, _ => False⟩
def r02_Len.d (a0 : Nat → Int) (K : Int → Prop) : Prop :=
  ∃ n, r02_Len.l2 (fun y0 => K y0) (K 0) n 5 a0
noncomputable def r02_Len : (Nat → Int) → (Int → Prop) → Prop := Classical.choose (⟨r02_Len.d, rfl⟩ : ∃ f, f = r02_Len.d)
theorem r02_Len.is : r02_Len = r02_Len.d := Classical.choose_spec (⟨r02_Len.d, rfl⟩ : ∃ f, f = r02_Len.d)
def r02_Mask.l4.step (again : Int → Int → (Nat → Int) → (Nat → Int) → Prop) (k0 : (Nat → Int) → (Nat → Int) → Prop) (x0 : Int) (x1 : Int) (x2 : Nat → Int) (x3 : Nat → Int) : Prop :=
  br (ltI x1 x0) (gd (leI 0 (quoI .i64 x1 64) && ltI (quoI .i64 x1 64) 6) (gd (!ltI (cvI .u64 (remI .i64 x1 64)) 0) (gd (leI 0 (quoI .i64 x1 64) && ltI (quoI .i64 x1 64) 6) (again x0 (addI .i64 x1 1) x2 (upd x3 (Int.toNat (quoI .i64 x1 64)) (orI .u64 (x3 (Int.toNat (quoI .i64 x1 64))) (shlI .u64 1 (cvI .u64 (remI .i64 x1 64))))))))) (k0 x2 x3)
def r02_Mask.l4 (k0 : (Nat → Int) → (Nat → Int) → Prop) : Nat → Int → Int → (Nat → Int) → (Nat → Int) → Prop
  | 0 => fun _ _ _ _ => False
  | n + 1 => r02_Mask.l4.step (r02_Mask.l4 k0 n) k0
def r02_Mask.l4.entry : LoopEntry := ⟨LV.mk 12 [(0, 12)] 4 0 false, 0, 25, fun vs H K => match vs, H with
  | [EV.int .i64 x0, EV.ptr 0 [], EV.ptr 1 [], EV.int .i64 x1], [some (EV.arr .u64 6 x2), some (EV.arr .u64 6 x3)] => ∃ n, r02_Mask.l4 (fun y0 y1 => K (.exit 0) [EV.ptr 0 [], EV.ptr 1 []] [some (EV.arr .u64 6 y0), some (EV.arr .u64 6 y1)]) n x0 x1 x2 x3
  | _, _ => False⟩
def r02_Mask.d (a0 : Int) (K : (Nat → Int) → Prop) : Prop :=
  r02_Count a0 fun y0 => ∃ n, r02_Mask.l4 (fun y0 y1 => K y1) n y0 0 (fun x => 0) fun x => 0
noncomputable def r02_Mask : Int → ((Nat → Int) → Prop) → Prop := Classical.choose (⟨r02_Mask.d, rfl⟩ : ∃ f, f = r02_Mask.d)
theorem r02_Mask.is : r02_Mask = r02_Mask.d := Classical.choose_spec (⟨r02_Mask.d, rfl⟩ : ∃ f, f = r02_Mask.d)
def r02_Of.d (a0 : Int) (K : (Nat → Int) → Prop) : Prop :=
  K (upd (fun x => 0) 0 a0)
noncomputable def r02_Of : Int → ((Nat → Int) → Prop) → Prop := Classical.choose (⟨r02_Of.d, rfl⟩ : ∃ f, f = r02_Of.d)
theorem r02_Of.is : r02_Of = r02_Of.d := Classical.choose_spec (⟨r02_Of.d, rfl⟩ : ∃ f, f = r02_Of.d)
def r02_OfBits.d (a0_0 : Int) (a0_1 : Int) (K : (Nat → Int) → Prop) : Prop :=
  K (upd (upd (fun x => 0) 0 a0_1) 1 a0_0)
noncomputable def r02_OfBits : Int → Int → ((Nat → Int) → Prop) → Prop := Classical.choose (⟨r02_OfBits.d, rfl⟩ : ∃ f, f = r02_OfBits.d)
theorem r02_OfBits.is : r02_OfBits = r02_OfBits.d := Classical.choose_spec (⟨r02_OfBits.d, rfl⟩ : ∃ f, f = r02_OfBits.d)
def r02_Right.l5.step (again : Int → Bool → Int → (Nat → Int) → (Nat → Int) → (Nat → Int) → Prop) (k0 : Bool → (Nat → Int) → (Nat → Int) → Prop) (x0 : Int) (x1 : Bool) (x2 : Int) (x3 : Nat → Int) (x4 : Nat → Int) (x5 : Nat → Int) : Prop :=
  br (ltI x2 384) (r02_Bit x3 x2 fun y0 => br y0 (br (leI x0 x2) (gd (leI 0 (quoI .i64 (subI .i64 x2 x0) 64) && ltI (quoI .i64 (subI .i64 x2 x0) 64) 6) (gd (!ltI (cvI .u64 (remI .i64 (subI .i64 x2 x0) 64)) 0) (gd (leI 0 (quoI .i64 (subI .i64 x2 x0) 64) && ltI (quoI .i64 (subI .i64 x2 x0) 64) 6) (again x0 x1 (addI .i64 x2 1) x3 x4 (upd x5 (Int.toNat (quoI .i64 (subI .i64 x2 x0) 64)) (orI .u64 (x5 (Int.toNat (quoI .i64 (subI .i64 x2 x0) 64))) (shlI .u64 1 (cvI .u64 (remI .i64 (subI .i64 x2 x0) 64))))))))) (again x0 true (addI .i64 x2 1) x3 x4 x5)) (again x0 x1 (addI .i64 x2 1) x3 x4 x5)) (k0 x1 x4 x5)
def r02_Right.l5 (k0 : Bool → (Nat → Int) → (Nat → Int) → Prop) : Nat → Int → Bool → Int → (Nat → Int) → (Nat → Int) → (Nat → Int) → Prop
  | 0 => fun _ _ _ _ _ _ => False
  | n + 1 => r02_Right.l5.step (r02_Right.l5 k0 n) k0
def r02_Right.l5.entry : LoopEntry := ⟨LV.mk 208 [(0, 208)] 48 0 false, 0, 41, fun vs H K => match vs, H with
  | [EV.int .i64 x0, EV.ptr 0 [], EV.ptr 1 [], EV.ptr 2 [], EV.bool x1, EV.int .i64 x2], [some (EV.arr .u64 6 x3), some (EV.arr .u64 6 x4), some (EV.arr .u64 6 x5)] => ∃ n, r02_Right.l5 (fun y0 y1 y2 => K (.exit 0) [EV.ptr 0 [], EV.ptr 1 [], EV.bool y0] [some (EV.arr .u64 6 y1), some (EV.arr .u64 6 y2)]) n x0 x1 x2 x3 x4 x5
  | _, _ => False⟩
def r02_Right.d (a0 : Nat → Int) (a1 : Int) (K : (Nat → Int) → Bool → Prop) : Prop :=
  r02_Count a1 fun y0 => ∃ n, r02_Right.l5 (fun y0 y1 y2 => K y2 y0) n y0 false 0 a0 (fun x => 0) fun x => 0
noncomputable def r02_Right : (Nat → Int) → Int → ((Nat → Int) → Bool → Prop) → Prop := Classical.choose (⟨r02_Right.d, rfl⟩ : ∃ f, f = r02_Right.d)
theorem r02_Right.is : r02_Right = r02_Right.d := Classical.choose_spec (⟨r02_Right.d, rfl⟩ : ∃ f, f = r02_Right.d)
def r02_ToBits.d (a0 : Nat → Int) (K : Int → Int → Bool → Prop) : Prop :=
  br (!eqI (a0 2) 0) (K 0 0 false) (br (!eqI (a0 3) 0) (K 0 0 false) (br (!eqI (a0 4) 0) (K 0 0 false) (br (!eqI (a0 5) 0) (K 0 0 false) (K (a0 1) (a0 0) true))))
noncomputable def r02_ToBits : (Nat → Int) → (Int → Int → Bool → Prop) → Prop := Classical.choose (⟨r02_ToBits.d, rfl⟩ : ∃ f, f = r02_ToBits.d)
theorem r02_ToBits.is : r02_ToBits = r02_ToBits.d := Classical.choose_spec (⟨r02_ToBits.d, rfl⟩ : ∃ f, f = r02_ToBits.d)
end Go.Ev.S

/- The functions as the evaluator has them: what each comes to. -/
set_option maxRecDepth 100000
set_option linter.unusedVariables false
set_option linter.unusedSimpArgs false
namespace Go.Ev.S
open Go Go.Ev
def r05_at.d (a0 : List UInt8) (a1 : Int) (K : Int → Prop) : Prop :=
  br (leI (↑(List.length a0)) a1) (K 0) (gd (leI 0 (subI .i64 (subI .i64 (↑(List.length a0)) 1) a1) && ltI (subI .i64 (subI .i64 (↑(List.length a0)) 1) a1) ↑(List.length a0)) (K (cvI .i64 (byteAt a0 (Int.toNat (subI .i64 (subI .i64 (↑(List.length a0)) 1) a1))))))
noncomputable def r05_at : List UInt8 → Int → (Int → Prop) → Prop := Classical.choose (⟨r05_at.d, rfl⟩ : ∃ f, f = r05_at.d)
theorem r05_at.is : r05_at = r05_at.d := Classical.choose_spec (⟨r05_at.d, rfl⟩ : ∃ f, f = r05_at.d)
def r05_fit.l2.step (again : Nat → (Nat → Int) → Int → Prop) (k0 : Nat → (Nat → Int) → Int → Prop) (x0 : Nat) (x1 : Nat → Int) (x2 : Int) : Prop :=
  br (ltI 0 x2) (gd (leI 0 (subI .i64 x2 1) && ltI (subI .i64 x2 1) ↑x0) (br (eqI (x1 (Int.toNat (subI .i64 x2 1))) 0) (again x0 x1 (subI .i64 x2 1)) (k0 x0 x1 x2))) (k0 x0 x1 x2)
def r05_fit.l2 (k0 : Nat → (Nat → Int) → Int → Prop) : Nat → Nat → (Nat → Int) → Int → Prop
  | 0 => fun _ _ _ => False
  | n + 1 => r05_fit.l2.step (r05_fit.l2 k0 n) k0
def r05_fit.l2.entry : LoopEntry := ⟨LV.mk 9 [(0, 9)] 4 0 false, 0, 39, fun vs H K => match vs, H with
  | [EV.rsI .u8 x0 x1, EV.int .i64 x2], [] => ∃ n, r05_fit.l2 (fun y0 y1 y2 => K (.exit 0) [EV.rsI .u8 y0 y1, EV.int .i64 y2] []) n x0 x1 x2
  | _, _ => False⟩
def r05_fit.l6.step (again : Nat → (Nat → Int) → Int → Nat → Nat → Int → Nat → (Nat → Int) → Prop) (k0 : Nat → Nat → Nat → (Nat → Int) → Prop) (x0 : Nat) (x1 : Nat → Int) (x2 : Int) (x3 : Nat) (x4 : Nat) (x5 : Int) (x6 : Nat) (x7 : Nat → Int) : Prop :=
  br (ltI x5 x2) (gd (leI 0 x5 && ltI x5 ↑x0) (gd (leI 0 (subI .i64 (subI .i64 x2 1) x5) && ltI (subI .i64 (subI .i64 x2 1) x5) ↑x3) (again x0 x1 x2 x3 x4 (addI .i64 x5 1) x6 (upd x7 (Int.toNat (subI .i64 (subI .i64 x2 1) x5)) (x1 (Int.toNat x5)))))) (k0 x3 x4 x6 x7)
def r05_fit.l6 (k0 : Nat → Nat → Nat → (Nat → Int) → Prop) : Nat → Nat → (Nat → Int) → Int → Nat → Nat → Int → Nat → (Nat → Int) → Prop
  | 0 => fun _ _ _ _ _ _ _ _ => False
  | n + 1 => r05_fit.l6.step (r05_fit.l6 k0 n) k0
def r05_fit.l6.entry : LoopEntry := ⟨LV.mk 16 [(2, 16)] 4 0 false, 0, 39, fun vs H K => match vs, H with
  | [EV.rsI .u8 x0 x1, EV.int .i64 x2, EV.slice 0 0 x3 (some x4) 1, EV.int .i64 x5], [some (EV.arr .u8 x6 x7)] => ∃ n, r05_fit.l6 (fun y0 y1 y2 y3 => K (.exit 2) [EV.slice 0 0 y0 (some y1) 1] [some (EV.arr .u8 y2 y3)]) n x0 x1 x2 x3 x4 x5 x6 x7
  | _, _ => False⟩
def r05_fit.d (a0n : Nat) (a0 : Nat → Int) (K : List UInt8 → Prop) : Prop :=
  ∃ n, r05_fit.l2 (fun y0 y1 y2 => gd (leI 0 y2 && (leI y2 y2 && leI y2 1099511627776)) (∃ n, r05_fit.l6 (fun y0 y1 y2 y3 => K (bytesOf y0 y3)) n y0 y1 y2 (Int.toNat y2) (Int.toNat y2) 0 (Int.toNat y2) fun x => 0)) n a0n a0 ↑a0n
noncomputable def r05_fit : Nat → (Nat → Int) → (List UInt8 → Prop) → Prop := Classical.choose (⟨r05_fit.d, rfl⟩ : ∃ f, f = r05_fit.d)
theorem r05_fit.is : r05_fit = r05_fit.d := Classical.choose_spec (⟨r05_fit.d, rfl⟩ : ∃ f, f = r05_fit.d)
def r05_Cmp.d (a0 : List UInt8) (a1 : List UInt8) (K : Int → Prop) : Prop :=
  br (!eqI ↑(List.length a0) ↑(List.length a1)) (br (ltI ↑(List.length a0) ↑(List.length a1)) (K (-1)) (K 1)) (br (ltS a0 a1) (K (-1)) (br (!(ltS a0 a1 || eqS a0 a1)) (K 1) (K 0)))
noncomputable def r05_Cmp : List UInt8 → List UInt8 → (Int → Prop) → Prop := Classical.choose (⟨r05_Cmp.d, rfl⟩ : ∃ f, f = r05_Cmp.d)
theorem r05_Cmp.is : r05_Cmp = r05_Cmp.d := Classical.choose_spec (⟨r05_Cmp.d, rfl⟩ : ∃ f, f = r05_Cmp.d)
def r05_May.d (a0 : List UInt8) (K : Bool → Prop) : Prop :=
  br (leI (↑(List.length a0)) 16384) (br (eqS a0 []) (K true) (gd (ltI 0 ↑(List.length a0)) (K !eqI (byteAt a0 0) 0))) (K false)
noncomputable def r05_May : List UInt8 → (Bool → Prop) → Prop := Classical.choose (⟨r05_May.d, rfl⟩ : ∃ f, f = r05_May.d)
theorem r05_May.is : r05_May = r05_May.d := Classical.choose_spec (⟨r05_May.d, rfl⟩ : ∃ f, f = r05_May.d)
def r05_Len.d (a0 : List UInt8) (K : Int → Prop) : Prop :=
  r05_May a0 fun y0 => br (!y0) (K 0) (br (eqS a0 []) (K 0) (gd (ltI 0 ↑(List.length a0)) (r01_Len (cvI .u64 (byteAt a0 0)) fun y0 => K (addI .i64 (mulI .i64 8 (subI .i64 (↑(List.length a0)) 1)) y0))))
noncomputable def r05_Len : List UInt8 → (Int → Prop) → Prop := Classical.choose (⟨r05_Len.d, rfl⟩ : ∃ f, f = r05_Len.d)
theorem r05_Len.is : r05_Len = r05_Len.d := Classical.choose_spec (⟨r05_Len.d, rfl⟩ : ∃ f, f = r05_Len.d)
def r05_Low.l4.step (again : List UInt8 → Int → Prop) (k0 : Int → Prop) (k1 : Prop) (x0 : List UInt8) (x1 : Int) : Prop :=
  br (ltI x1 ↑(List.length x0)) (r05_at x0 x1 fun y0 => br (!eqI y0 0) (r05_at x0 x1 fun y0 => r01_Low (cvI .u64 y0) fun y0 => k0 (addI .i64 (mulI .i64 8 x1) y0)) (again x0 (addI .i64 x1 1))) k1
def r05_Low.l4 (k0 : Int → Prop) (k1 : Prop) : Nat → List UInt8 → Int → Prop
  | 0 => fun _ _ => False
  | n + 1 => r05_Low.l4.step (r05_Low.l4 k0 k1 n) k0 k1
def r05_Low.l4.entry : LoopEntry := ⟨LV.mk 0 [(0, 0)] 4 0 false, 0, 25, fun vs H K => match vs, H with
  | [EV.str x0, EV.int .i64 x1], [] => ∃ n, r05_Low.l4 (fun y0 => K .ret [EV.int .i64 y0] []) (K (.exit 0) [] []) n x0 x1
  | _, _ => False⟩
def r05_Low.d (a0 : List UInt8) (K : Int → Prop) : Prop :=
  r05_May a0 fun y0 => br (!y0) (K 0) (∃ n, r05_Low.l4 (fun y0 => K y0) (K 0) n a0 0)
noncomputable def r05_Low : List UInt8 → (Int → Prop) → Prop := Classical.choose (⟨r05_Low.d, rfl⟩ : ∃ f, f = r05_Low.d)
theorem r05_Low.is : r05_Low = r05_Low.d := Classical.choose_spec (⟨r05_Low.d, rfl⟩ : ∃ f, f = r05_Low.d)
def r05_Right.l11.step (again : List UInt8 → Int → Bool → Int → Nat → Nat → Int → Nat → (Nat → Int) → Prop) (k0 : Bool → Nat → Nat → Nat → (Nat → Int) → Prop) (x0 : List UInt8) (x1 : Int) (x2 : Bool) (x3 : Int) (x4 : Nat) (x5 : Nat) (x6 : Int) (x7 : Nat) (x8 : Nat → Int) : Prop :=
  br (ltI x6 x3) (r05_at x0 (addI .i64 x6 (quoI .i64 x1 8)) fun y0 => r05_at x0 (addI .i64 (addI .i64 x6 (quoI .i64 x1 8)) 1) fun y0_1 => gd (!ltI (cvI .u64 (remI .i64 x1 8)) 0) (gd (leI 0 x6 && ltI x6 ↑x4) (again x0 x1 x2 x3 x4 x5 (addI .i64 x6 1) x7 (upd x8 (Int.toNat x6) (cvI .u8 (shrI .i64 (orI .i64 y0 (shlI .i64 y0_1 8)) (cvI .u64 (remI .i64 x1 8)))))))) (k0 x2 x4 x5 x7 x8)
def r05_Right.l11 (k0 : Bool → Nat → Nat → Nat → (Nat → Int) → Prop) : Nat → List UInt8 → Int → Bool → Int → Nat → Nat → Int → Nat → (Nat → Int) → Prop
  | 0 => fun _ _ _ _ _ _ _ _ _ => False
  | n + 1 => r05_Right.l11.step (r05_Right.l11 k0 n) k0
def r05_Right.l11.entry : LoopEntry := ⟨LV.mk 640 [(0, 640)] 112 0 false, 0, 65, fun vs H K => match vs, H with
  | [EV.str x0, EV.int .i64 x1, EV.bool x2, EV.int .i64 x3, EV.slice 0 0 x4 (some x5) 1, EV.int .i64 x6], [some (EV.arr .u8 x7 x8)] => ∃ n, r05_Right.l11 (fun y0 y1 y2 y3 y4 => K (.exit 0) [EV.bool y0, EV.slice 0 0 y1 (some y2) 1] [some (EV.arr .u8 y3 y4)]) n x0 x1 x2 x3 x4 x5 x6 x7 x8
  | _, _ => False⟩
def r05_Right.d (a0 : List UInt8) (a1 : Int) (K : List UInt8 → Bool → Int → Prop) : Prop :=
  br (ltI a1 0) (K [] false 2) (br (eqS a0 []) (K [] false 0) (r05_Low a0 fun y0 => br (leI (mulI .i64 8 ↑(List.length a0)) a1) (K [] (ltI y0 a1) 0) (gd (leI 0 (subI .i64 (↑(List.length a0)) (quoI .i64 a1 8)) && (leI (subI .i64 (↑(List.length a0)) (quoI .i64 a1 8)) (subI .i64 (↑(List.length a0)) (quoI .i64 a1 8)) && leI (subI .i64 (↑(List.length a0)) (quoI .i64 a1 8)) 1099511627776)) (∃ n, r05_Right.l11 (fun y0 y1 y2 y3 y4 => r05_fit y1 y4 fun y0_1 => K y0_1 y0 0) n a0 a1 (ltI y0 a1) (subI .i64 (↑(List.length a0)) (quoI .i64 a1 8)) (Int.toNat (subI .i64 (↑(List.length a0)) (quoI .i64 a1 8))) (Int.toNat (subI .i64 (↑(List.length a0)) (quoI .i64 a1 8))) 0 (Int.toNat (subI .i64 (↑(List.length a0)) (quoI .i64 a1 8))) fun x => 0))))
noncomputable def r05_Right : List UInt8 → Int → (List UInt8 → Bool → Int → Prop) → Prop := Classical.choose (⟨r05_Right.d, rfl⟩ : ∃ f, f = r05_Right.d)
theorem r05_Right.is : r05_Right = r05_Right.d := Classical.choose_spec (⟨r05_Right.d, rfl⟩ : ∃ f, f = r05_Right.d)
def r05_bit.d (a0 : List UInt8) (a1 : Int) (K : Int → Prop) : Prop :=
  r05_at a0 (quoI .i64 a1 8) fun y0 => gd (!ltI (cvI .u64 (remI .i64 a1 8)) 0) (K (andI .i64 (shrI .i64 y0 (cvI .u64 (remI .i64 a1 8))) 1))
noncomputable def r05_bit : List UInt8 → Int → (Int → Prop) → Prop := Classical.choose (⟨r05_bit.d, rfl⟩ : ∃ f, f = r05_bit.d)
theorem r05_bit.is : r05_bit = r05_bit.d := Classical.choose_spec (⟨r05_bit.d, rfl⟩ : ∃ f, f = r05_bit.d)
def r05_double.l4.step (again : List UInt8 → Nat → Nat → Int → Int → Nat → (Nat → Int) → Prop) (k0 : Nat → Nat → Nat → (Nat → Int) → Prop) (x0 : List UInt8) (x1 : Nat) (x2 : Nat) (x3 : Int) (x4 : Int) (x5 : Nat) (x6 : Nat → Int) : Prop :=
  br (leI x4 ↑(List.length x0)) (r05_at x0 x4 fun y0 => gd (leI 0 x4 && ltI x4 ↑x1) (again x0 x1 x2 (shrI .i64 (addI .i64 x3 (mulI .i64 2 y0)) 8) (addI .i64 x4 1) x5 (upd x6 (Int.toNat x4) (cvI .u8 (addI .i64 x3 (mulI .i64 2 y0)))))) (k0 x1 x2 x5 x6)
def r05_double.l4 (k0 : Nat → Nat → Nat → (Nat → Int) → Prop) : Nat → List UInt8 → Nat → Nat → Int → Int → Nat → (Nat → Int) → Prop
  | 0 => fun _ _ _ _ _ _ _ => False
  | n + 1 => r05_double.l4.step (r05_double.l4 k0 n) k0
def r05_double.l4.entry : LoopEntry := ⟨LV.mk 32 [(0, 32)] 16 0 false, 0, 34, fun vs H K => match vs, H with
  | [EV.str x0, EV.slice 0 0 x1 (some x2) 1, EV.int .i64 x3, EV.int .i64 x4], [some (EV.arr .u8 x5 x6)] => ∃ n, r05_double.l4 (fun y0 y1 y2 y3 => K (.exit 0) [EV.slice 0 0 y0 (some y1) 1] [some (EV.arr .u8 y2 y3)]) n x0 x1 x2 x3 x4 x5 x6
  | _, _ => False⟩
def r05_double.d (a0 : List UInt8) (a1 : Int) (K : List UInt8 → Prop) : Prop :=
  gd (leI 0 (addI .i64 (↑(List.length a0)) 1) && (leI (addI .i64 (↑(List.length a0)) 1) (addI .i64 (↑(List.length a0)) 1) && leI (addI .i64 (↑(List.length a0)) 1) 1099511627776)) (∃ n, r05_double.l4 (fun y0 y1 y2 y3 => r05_fit y0 y3 fun y0 => K y0) n a0 (Int.toNat (addI .i64 (↑(List.length a0)) 1)) (Int.toNat (addI .i64 (↑(List.length a0)) 1)) a1 0 (Int.toNat (addI .i64 (↑(List.length a0)) 1)) fun x => 0)
noncomputable def r05_double : List UInt8 → Int → (List UInt8 → Prop) → Prop := Classical.choose (⟨r05_double.d, rfl⟩ : ∃ f, f = r05_double.d)
theorem r05_double.is : r05_double = r05_double.d := Classical.choose_spec (⟨r05_double.d, rfl⟩ : ∃ f, f = r05_double.d)
def r05_sub.l4.step (again : List UInt8 → List UInt8 → Nat → Nat → Int → Int → Nat → (Nat → Int) → Prop) (k0 : Nat → Nat → Nat → (Nat → Int) → Prop) (x0 : List UInt8) (x1 : List UInt8) (x2 : Nat) (x3 : Nat) (x4 : Int) (x5 : Int) (x6 : Nat) (x7 : Nat → Int) : Prop :=
  br (ltI x5 ↑(List.length x0)) (r05_at x0 x5 fun y0 => r05_at x1 x5 fun y0_1 => gd (leI 0 x5 && ltI x5 ↑x2) (br (ltI (subI .i64 (subI .i64 y0 y0_1) x4) 0) (again x0 x1 x2 x3 1 (addI .i64 x5 1) x6 (upd x7 (Int.toNat x5) (cvI .u8 (subI .i64 (subI .i64 y0 y0_1) x4)))) (again x0 x1 x2 x3 0 (addI .i64 x5 1) x6 (upd x7 (Int.toNat x5) (cvI .u8 (subI .i64 (subI .i64 y0 y0_1) x4)))))) (k0 x2 x3 x6 x7)
def r05_sub.l4 (k0 : Nat → Nat → Nat → (Nat → Int) → Prop) : Nat → List UInt8 → List UInt8 → Nat → Nat → Int → Int → Nat → (Nat → Int) → Prop
  | 0 => fun _ _ _ _ _ _ _ _ => False
  | n + 1 => r05_sub.l4.step (r05_sub.l4 k0 n) k0
def r05_sub.l4.entry : LoopEntry := ⟨LV.mk 32 [(0, 32)] 16 0 false, 0, 35, fun vs H K => match vs, H with
  | [EV.str x0, EV.str x1, EV.slice 0 0 x2 (some x3) 1, EV.int .i64 x4, EV.int .i64 x5], [some (EV.arr .u8 x6 x7)] => ∃ n, r05_sub.l4 (fun y0 y1 y2 y3 => K (.exit 0) [EV.slice 0 0 y0 (some y1) 1] [some (EV.arr .u8 y2 y3)]) n x0 x1 x2 x3 x4 x5 x6 x7
  | _, _ => False⟩
def r05_sub.d (a0 : List UInt8) (a1 : List UInt8) (K : List UInt8 → Prop) : Prop :=
  gd (leI 0 ↑(List.length a0) && (leI ↑(List.length a0) ↑(List.length a0) && leI (↑(List.length a0)) 1099511627776)) (∃ n, r05_sub.l4 (fun y0 y1 y2 y3 => r05_fit y0 y3 fun y0 => K y0) n a0 a1 (Int.toNat ↑(List.length a0)) (Int.toNat ↑(List.length a0)) 0 0 (Int.toNat ↑(List.length a0)) fun x => 0)
noncomputable def r05_sub : List UInt8 → List UInt8 → (List UInt8 → Prop) → Prop := Classical.choose (⟨r05_sub.d, rfl⟩ : ∃ f, f = r05_sub.d)
theorem r05_sub.is : r05_sub = r05_sub.d := Classical.choose_spec (⟨r05_sub.d, rfl⟩ : ∃ f, f = r05_sub.d)
def r05_Div.l10.step (again : List UInt8 → List UInt8 → List UInt8 → Nat → Nat → Int → Nat → (Nat → Int) → Prop) (k0 : List UInt8 → Nat → Nat → Nat → (Nat → Int) → Prop) (x0 : List UInt8) (x1 : List UInt8) (x2 : List UInt8) (x3 : Nat) (x4 : Nat) (x5 : Int) (x6 : Nat) (x7 : Nat → Int) : Prop :=
  br (leI 0 x5) (r05_bit x0 x5 fun y0 => r05_double x2 y0 fun y0 => r05_Cmp y0 x1 fun y0_1 => br (leI 0 y0_1) (r05_sub y0 x1 fun y0 => gd (leI 0 (quoI .i64 x5 8) && ltI (quoI .i64 x5 8) ↑x3) (gd (!ltI (cvI .u64 (remI .i64 x5 8)) 0) (gd (leI 0 (quoI .i64 x5 8) && ltI (quoI .i64 x5 8) ↑x3) (again x0 x1 y0 x3 x4 (subI .i64 x5 1) x6 (upd x7 (Int.toNat (quoI .i64 x5 8)) (orI .u8 (x7 (Int.toNat (quoI .i64 x5 8))) (shlI .u8 1 (cvI .u64 (remI .i64 x5 8))))))))) (again x0 x1 y0 x3 x4 (subI .i64 x5 1) x6 x7)) (k0 x2 x3 x4 x6 x7)
def r05_Div.l10 (k0 : List UInt8 → Nat → Nat → Nat → (Nat → Int) → Prop) : Nat → List UInt8 → List UInt8 → List UInt8 → Nat → Nat → Int → Nat → (Nat → Int) → Prop
  | 0 => fun _ _ _ _ _ _ _ _ => False
  | n + 1 => r05_Div.l10.step (r05_Div.l10 k0 n) k0
def r05_Div.l10.entry : LoopEntry := ⟨LV.mk 4608 [(0, 4608)] 112 0 false, 0, 76, fun vs H K => match vs, H with
  | [EV.str x0, EV.str x1, EV.str x2, EV.slice 0 0 x3 (some x4) 1, EV.int .i64 x5], [some (EV.arr .u8 x6 x7)] => ∃ n, r05_Div.l10 (fun y0 y1 y2 y3 y4 => K (.exit 0) [EV.str y0, EV.slice 0 0 y1 (some y2) 1] [some (EV.arr .u8 y3 y4)]) n x0 x1 x2 x3 x4 x5 x6 x7
  | _, _ => False⟩
def r05_Div.d (a0 : List UInt8) (a1 : List UInt8) (K : List UInt8 → List UInt8 → Int → Prop) : Prop :=
  br (eqS a1 []) (K [] [] 2) (r05_Cmp a0 a1 fun y0 => br (ltI y0 0) (K [] a0 0) (r05_Len a0 fun y0 => r05_Len a1 fun y0_1 => r05_Right a0 (subI .i64 y0 (subI .i64 y0_1 1)) fun y0_2 y1 y2 => gd (leI 0 (addI .i64 (↑(List.length a0)) 1) && (leI (addI .i64 (↑(List.length a0)) 1) (addI .i64 (↑(List.length a0)) 1) && leI (addI .i64 (↑(List.length a0)) 1) 1099511627776)) (∃ n, r05_Div.l10 (fun y0 y1 y2 y3 y4 => r05_fit y1 y4 fun y0_3 => K y0_3 y0 0) n a0 a1 y0_2 (Int.toNat (addI .i64 (↑(List.length a0)) 1)) (Int.toNat (addI .i64 (↑(List.length a0)) 1)) (subI .i64 (subI .i64 y0 (subI .i64 y0_1 1)) 1) (Int.toNat (addI .i64 (↑(List.length a0)) 1)) fun x => 0)))
noncomputable def r05_Div : List UInt8 → List UInt8 → (List UInt8 → List UInt8 → Int → Prop) → Prop := Classical.choose (⟨r05_Div.d, rfl⟩ : ∃ f, f = r05_Div.d)
theorem r05_Div.is : r05_Div = r05_Div.d := Classical.choose_spec (⟨r05_Div.d, rfl⟩ : ∃ f, f = r05_Div.d)
def r05_Gcd.l1.step (again : List UInt8 → List UInt8 → Prop) (k0 : List UInt8 → Prop) (x0 : List UInt8) (x1 : List UInt8) : Prop :=
  br (!eqS x1 []) (r05_Div x0 x1 fun y0 y1 y2 => again x1 y1) (k0 x0)
def r05_Gcd.l1 (k0 : List UInt8 → Prop) : Nat → List UInt8 → List UInt8 → Prop
  | 0 => fun _ _ => False
  | n + 1 => r05_Gcd.l1.step (r05_Gcd.l1 k0 n) k0
def r05_Gcd.l1.entry : LoopEntry := ⟨LV.mk 1 [(0, 1)] 16 0 false, 0, 20, fun vs H K => match vs, H with
  | [EV.str x0, EV.str x1], [] => ∃ n, r05_Gcd.l1 (fun y0 => K (.exit 0) [EV.str y0] []) n x0 x1
  | _, _ => False⟩
def r05_Gcd.d (a0 : List UInt8) (a1 : List UInt8) (K : List UInt8 → Prop) : Prop :=
  ∃ n, r05_Gcd.l1 (fun y0 => K y0) n a0 a1
noncomputable def r05_Gcd : List UInt8 → List UInt8 → (List UInt8 → Prop) → Prop := Classical.choose (⟨r05_Gcd.d, rfl⟩ : ∃ f, f = r05_Gcd.d)
theorem r05_Gcd.is : r05_Gcd = r05_Gcd.d := Classical.choose_spec (⟨r05_Gcd.d, rfl⟩ : ∃ f, f = r05_Gcd.d)
def r05_Left.l9.step (again : List UInt8 → Int → Nat → Nat → Int → Nat → (Nat → Int) → Prop) (k0 : Nat → Nat → Nat → (Nat → Int) → Prop) (x0 : List UInt8) (x1 : Int) (x2 : Nat) (x3 : Nat) (x4 : Int) (x5 : Nat) (x6 : Nat → Int) : Prop :=
  br (ltI x4 ↑(List.length x0)) (r05_at x0 x4 fun y0 => gd (!ltI (cvI .u64 (remI .i64 x1 8)) 0) (gd (leI 0 (addI .i64 x4 (quoI .i64 x1 8)) && ltI (addI .i64 x4 (quoI .i64 x1 8)) ↑x2) (gd (leI 0 (addI .i64 x4 (quoI .i64 x1 8)) && ltI (addI .i64 x4 (quoI .i64 x1 8)) ↑x2) (gd (leI 0 (addI .i64 (addI .i64 x4 (quoI .i64 x1 8)) 1) && ltI (addI .i64 (addI .i64 x4 (quoI .i64 x1 8)) 1) ↑x2) (again x0 x1 x2 x3 (addI .i64 x4 1) x5 (upd (upd x6 (Int.toNat (addI .i64 x4 (quoI .i64 x1 8))) (orI .u8 (x6 (Int.toNat (addI .i64 x4 (quoI .i64 x1 8)))) (cvI .u8 (shlI .i64 y0 (cvI .u64 (remI .i64 x1 8)))))) (Int.toNat (addI .i64 (addI .i64 x4 (quoI .i64 x1 8)) 1)) (cvI .u8 (shrI .i64 (shlI .i64 y0 (cvI .u64 (remI .i64 x1 8))) 8)))))))) (k0 x2 x3 x5 x6)
def r05_Left.l9 (k0 : Nat → Nat → Nat → (Nat → Int) → Prop) : Nat → List UInt8 → Int → Nat → Nat → Int → Nat → (Nat → Int) → Prop
  | 0 => fun _ _ _ _ _ _ _ => False
  | n + 1 => r05_Left.l9.step (r05_Left.l9 k0 n) k0
def r05_Left.l9.entry : LoopEntry := ⟨LV.mk 64 [(0, 64)] 48 0 false, 0, 70, fun vs H K => match vs, H with
  | [EV.str x0, EV.int .i64 x1, EV.slice 0 0 x2 (some x3) 1, EV.int .i64 x4], [some (EV.arr .u8 x5 x6)] => ∃ n, r05_Left.l9 (fun y0 y1 y2 y3 => K (.exit 0) [EV.slice 0 0 y0 (some y1) 1] [some (EV.arr .u8 y2 y3)]) n x0 x1 x2 x3 x4 x5 x6
  | _, _ => False⟩
def r05_Left.d (a0 : List UInt8) (a1 : Int) (K : List UInt8 → Int → Prop) : Prop :=
  br (ltI a1 0) (K [] 2) (br (eqS a0 []) (K [] 0) (br (ltI 131072 a1) (K [] 4) (r05_Len a0 fun y0 => br (ltI 131072 (addI .i64 y0 a1)) (K [] 4) (gd (leI 0 (addI .i64 (addI .i64 (↑(List.length a0)) (quoI .i64 a1 8)) 1) && (leI (addI .i64 (addI .i64 (↑(List.length a0)) (quoI .i64 a1 8)) 1) (addI .i64 (addI .i64 (↑(List.length a0)) (quoI .i64 a1 8)) 1) && leI (addI .i64 (addI .i64 (↑(List.length a0)) (quoI .i64 a1 8)) 1) 1099511627776)) (∃ n, r05_Left.l9 (fun y0 y1 y2 y3 => r05_fit y0 y3 fun y0 => K y0 0) n a0 a1 (Int.toNat (addI .i64 (addI .i64 (↑(List.length a0)) (quoI .i64 a1 8)) 1)) (Int.toNat (addI .i64 (addI .i64 (↑(List.length a0)) (quoI .i64 a1 8)) 1)) 0 (Int.toNat (addI .i64 (addI .i64 (↑(List.length a0)) (quoI .i64 a1 8)) 1)) fun x => 0)))))
noncomputable def r05_Left : List UInt8 → Int → (List UInt8 → Int → Prop) → Prop := Classical.choose (⟨r05_Left.d, rfl⟩ : ∃ f, f = r05_Left.d)
theorem r05_Left.is : r05_Left = r05_Left.d := Classical.choose_spec (⟨r05_Left.d, rfl⟩ : ∃ f, f = r05_Left.d)
def r05_OfWide.l3.step (again : Int → (Nat → Int) → (Nat → Int) → Prop) (k0 : (Nat → Int) → Prop) (x0 : Int) (x1 : Nat → Int) (x2 : Nat → Int) : Prop :=
  br (ltI x0 48) (gd (leI 0 (quoI .i64 x0 8) && ltI (quoI .i64 x0 8) 6) (gd (!ltI (cvI .u64 (mulI .i64 8 (remI .i64 x0 8))) 0) (gd (leI 0 x0 && ltI x0 48) (again (addI .i64 x0 1) x1 (upd x2 (Int.toNat x0) (cvI .u8 (shrI .u64 (x1 (Int.toNat (quoI .i64 x0 8))) (cvI .u64 (mulI .i64 8 (remI .i64 x0 8)))))))))) (k0 x2)
def r05_OfWide.l3 (k0 : (Nat → Int) → Prop) : Nat → Int → (Nat → Int) → (Nat → Int) → Prop
  | 0 => fun _ _ _ => False
  | n + 1 => r05_OfWide.l3.step (r05_OfWide.l3 k0 n) k0
def r05_OfWide.l3.entry : LoopEntry := ⟨LV.mk 8 [(0, 8)] 4 0 false, 0, 25, fun vs H K => match vs, H with
  | [EV.ptr 0 [], EV.slice 1 0 48 (some 48) 1, EV.int .i64 x0], [some (EV.arr .u64 6 x1), some (EV.arr .u8 48 x2)] => ∃ n, r05_OfWide.l3 (fun y0 => K (.exit 0) [EV.slice 0 0 48 (some 48) 1] [some (EV.arr .u8 48 y0)]) n x0 x1 x2
  | _, _ => False⟩
def r05_OfWide.d (a0 : Nat → Int) (K : List UInt8 → Prop) : Prop :=
  ∃ n, r05_OfWide.l3 (fun y0 => r05_fit 48 y0 fun y0 => K y0) n 0 a0 fun x => 0
noncomputable def r05_OfWide : (Nat → Int) → (List UInt8 → Prop) → Prop := Classical.choose (⟨r05_OfWide.d, rfl⟩ : ∃ f, f = r05_OfWide.d)
theorem r05_OfWide.is : r05_OfWide = r05_OfWide.d := Classical.choose_spec (⟨r05_OfWide.d, rfl⟩ : ∃ f, f = r05_OfWide.d)
def r05_ToWide.l5.step (again : List UInt8 → Int → (Nat → Int) → (Nat → Int) → Prop) (k0 : (Nat → Int) → (Nat → Int) → Prop) (x0 : List UInt8) (x1 : Int) (x2 : Nat → Int) (x3 : Nat → Int) : Prop :=
  br (ltI x1 ↑(List.length x0)) (gd (leI 0 (quoI .i64 x1 8) && ltI (quoI .i64 x1 8) 6) (r05_at x0 x1 fun y0 => gd (!ltI (cvI .u64 (mulI .i64 8 (remI .i64 x1 8))) 0) (gd (leI 0 (quoI .i64 x1 8) && ltI (quoI .i64 x1 8) 6) (again x0 (addI .i64 x1 1) x2 (upd x3 (Int.toNat (quoI .i64 x1 8)) (orI .u64 (x3 (Int.toNat (quoI .i64 x1 8))) (shlI .u64 (cvI .u64 y0) (cvI .u64 (mulI .i64 8 (remI .i64 x1 8)))))))))) (k0 x2 x3)
def r05_ToWide.l5 (k0 : (Nat → Int) → (Nat → Int) → Prop) : Nat → List UInt8 → Int → (Nat → Int) → (Nat → Int) → Prop
  | 0 => fun _ _ _ _ => False
  | n + 1 => r05_ToWide.l5.step (r05_ToWide.l5 k0 n) k0
def r05_ToWide.l5.entry : LoopEntry := ⟨LV.mk 20 [(0, 20)] 12 0 false, 0, 39, fun vs H K => match vs, H with
  | [EV.str x0, EV.ptr 0 [], EV.ptr 1 [], EV.int .i64 x1], [some (EV.arr .u64 6 x2), some (EV.arr .u64 6 x3)] => ∃ n, r05_ToWide.l5 (fun y0 y1 => K (.exit 0) [EV.ptr 0 [], EV.ptr 1 []] [some (EV.arr .u64 6 y0), some (EV.arr .u64 6 y1)]) n x0 x1 x2 x3
  | _, _ => False⟩
def r05_ToWide.d (a0 : List UInt8) (K : (Nat → Int) → Bool → Prop) : Prop :=
  r05_May a0 fun y0 => br (!y0) (K (fun x => 0) false) (br (ltI 48 ↑(List.length a0)) (K (fun x => 0) false) (∃ n, r05_ToWide.l5 (fun y0 y1 => K y1 true) n a0 0 (fun x => 0) fun x => 0))
noncomputable def r05_ToWide : List UInt8 → ((Nat → Int) → Bool → Prop) → Prop := Classical.choose (⟨r05_ToWide.d, rfl⟩ : ∃ f, f = r05_ToWide.d)
theorem r05_ToWide.is : r05_ToWide = r05_ToWide.d := Classical.choose_spec (⟨r05_ToWide.d, rfl⟩ : ∃ f, f = r05_ToWide.d)
end Go.Ev.S

/- The functions as the evaluator has them: what each comes to. -/
set_option maxRecDepth 100000
set_option linter.unusedVariables false
set_option linter.unusedSimpArgs false
namespace Go.Ev.S
open Go Go.Ev
def r06_Null.d (K : Bool → List UInt8 → List UInt8 → Int → Prop) : Prop :=
  K false [] [1] 0
noncomputable def r06_Null : (Bool → List UInt8 → List UInt8 → Int → Prop) → Prop := Classical.choose (⟨r06_Null.d, rfl⟩ : ∃ f, f = r06_Null.d)
theorem r06_Null.is : r06_Null = r06_Null.d := Classical.choose_spec (⟨r06_Null.d, rfl⟩ : ∃ f, f = r06_Null.d)
def r06_odd.d (a0 : List UInt8) (K : Bool → Prop) : Prop :=
  br (!eqS a0 []) (gd (leI 0 (subI .i64 (↑(List.length a0)) 1) && ltI (subI .i64 (↑(List.length a0)) 1) ↑(List.length a0)) (K (eqI (andI .u8 (byteAt a0 (Int.toNat (subI .i64 (↑(List.length a0)) 1))) 1) 1))) (K false)
noncomputable def r06_odd : List UInt8 → (Bool → Prop) → Prop := Classical.choose (⟨r06_odd.d, rfl⟩ : ∃ f, f = r06_odd.d)
theorem r06_odd.is : r06_odd = r06_odd.d := Classical.choose_spec (⟨r06_odd.d, rfl⟩ : ∃ f, f = r06_odd.d)
def r06_May.d (a0_0 : Bool) (a0_1 : List UInt8) (a0_2 : List UInt8) (a0_3 : Int) (K : Bool → Prop) : Prop :=
  r05_May a0_1 fun y0 => br (!y0) (K false) (r05_May a0_2 fun y0 => br (!y0) (K false) (r06_odd a0_2 fun y0 => br (!y0) (K false) (br (ltI a0_3 (-1048576)) (K false) (br (ltI 1048576 a0_3) (K false) (br (eqS a0_1 []) (r06_Null fun y0 y1 y2 y3 => K (beqB a0_0 y0 && (eqS a0_1 y1 && (eqS a0_2 y2 && eqI a0_3 y3)))) (r06_odd a0_1 fun y0 => br y0 (r05_Gcd a0_1 a0_2 fun y0 => K (eqS y0 [1])) (K false)))))))
noncomputable def r06_May : Bool → List UInt8 → List UInt8 → Int → (Bool → Prop) → Prop := Classical.choose (⟨r06_May.d, rfl⟩ : ∃ f, f = r06_May.d)
theorem r06_May.is : r06_May = r06_May.d := Classical.choose_spec (⟨r06_May.d, rfl⟩ : ∃ f, f = r06_May.d)
def r06_Make.d (a0 : Bool) (a1 : List UInt8) (a2 : List UInt8) (a3 : Int) (K : Bool → List UInt8 → List UInt8 → Int → Int → Prop) : Prop :=
  r05_May a1 fun y0 => br (!y0) (K false [] [] 0 2) (r05_May a2 fun y0 => br (!y0) (K false [] [] 0 2) (br (eqS a2 []) (K false [] [] 0 2) (br (ltI a3 (-1048576)) (K false [] [] 0 2) (br (ltI 1048576 a3) (K false [] [] 0 2) (br (eqS a1 []) (r06_Null fun y0 y1 y2 y3 => K y0 y1 y2 y3 0) (r05_Low a1 fun y0 => r05_Low a2 fun y0_1 => r05_Right a1 y0 fun y0_2 y1 y2 => r05_Right a2 y0_1 fun y0_3 y1 y2 => r05_Gcd y0_2 y0_3 fun y0_4 => br (!eqS y0_4 [1]) (r05_Div y0_2 y0_4 fun y0_5 y1 y2 => r05_Div y0_3 y0_4 fun y0_6 y1 y2 => br (ltI (subI .i64 (addI .i64 a3 y0) y0_1) (-1048576)) (K false [] [] 0 4) (br (ltI 1048576 (subI .i64 (addI .i64 a3 y0) y0_1)) (K false [] [] 0 4) (K a0 y0_5 y0_6 (subI .i64 (addI .i64 a3 y0) y0_1) 0))) (br (ltI (subI .i64 (addI .i64 a3 y0) y0_1) (-1048576)) (K false [] [] 0 4) (br (ltI 1048576 (subI .i64 (addI .i64 a3 y0) y0_1)) (K false [] [] 0 4) (K a0 y0_2 y0_3 (subI .i64 (addI .i64 a3 y0) y0_1) 0)))))))))
noncomputable def r06_Make : Bool → List UInt8 → List UInt8 → Int → (Bool → List UInt8 → List UInt8 → Int → Int → Prop) → Prop := Classical.choose (⟨r06_Make.d, rfl⟩ : ∃ f, f = r06_Make.d)
theorem r06_Make.is : r06_Make = r06_Make.d := Classical.choose_spec (⟨r06_Make.d, rfl⟩ : ∃ f, f = r06_Make.d)
def r06_shifted.d (a0 : List UInt8) (a1 : Int) (K : List UInt8 → Prop) : Prop :=
  r05_Left a0 a1 fun y0 y1 => K y0
noncomputable def r06_shifted : List UInt8 → Int → (List UInt8 → Prop) → Prop := Classical.choose (⟨r06_shifted.d, rfl⟩ : ∃ f, f = r06_shifted.d)
theorem r06_shifted.is : r06_shifted = r06_shifted.d := Classical.choose_spec (⟨r06_shifted.d, rfl⟩ : ∃ f, f = r06_shifted.d)
def r06_Top.d (a0_0 : Bool) (a0_1 : List UInt8) (a0_2 : List UInt8) (a0_3 : Int) (K : Int → Int → Prop) : Prop :=
  br (eqS a0_1 []) (K 0 2) (r05_Len a0_1 fun y0 => r05_Len a0_2 fun y0_1 => br (leI 0 (subI .i64 y0 y0_1)) (r06_shifted a0_2 (subI .i64 y0 y0_1) fun y0_2 => r05_Cmp a0_1 y0_2 fun y0_3 => br (!leI 0 y0_3) (K (addI .i64 (subI .i64 (subI .i64 y0 y0_1) 1) a0_3) 0) (K (addI .i64 (subI .i64 y0 y0_1) a0_3) 0)) (r06_shifted a0_1 (negI .i64 (subI .i64 y0 y0_1)) fun y0_2 => r05_Cmp y0_2 a0_2 fun y0_3 => br (!leI 0 y0_3) (K (addI .i64 (subI .i64 (subI .i64 y0 y0_1) 1) a0_3) 0) (K (addI .i64 (subI .i64 y0 y0_1) a0_3) 0)))
noncomputable def r06_Top : Bool → List UInt8 → List UInt8 → Int → (Int → Int → Prop) → Prop := Classical.choose (⟨r06_Top.d, rfl⟩ : ∃ f, f = r06_Top.d)
theorem r06_Top.is : r06_Top = r06_Top.d := Classical.choose_spec (⟨r06_Top.d, rfl⟩ : ∃ f, f = r06_Top.d)
def r06_Floor.d (a0_0 : Bool) (a0_1 : List UInt8) (a0_2 : List UInt8) (a0_3 : Int) (a1 : Int) (K : List UInt8 → Bool → Int → Prop) : Prop :=
  br (ltI a1 (-2097152)) (K [] false 2) (br (ltI 2097152 a1) (K [] false 2) (br (eqS a0_1 []) (K [] true 0) (br (leI a1 a0_3) (r05_Left a0_1 (subI .i64 a0_3 a1) fun y0 y1 => br (!eqI y1 0) (K [] false 4) (r05_Div y0 a0_2 fun y0 y1 y2 => K y0 (eqS y1 []) 0)) (r06_Top a0_0 a0_1 a0_2 a0_3 fun y0 y1 => br (ltI y0 a1) (K [] false 0) (r05_Left a0_2 (subI .i64 a1 a0_3) fun y0 y1 => r05_Div a0_1 y0 fun y0 y1 y2 => K y0 (eqS y1 []) 0)))))
noncomputable def r06_Floor : Bool → List UInt8 → List UInt8 → Int → Int → (List UInt8 → Bool → Int → Prop) → Prop := Classical.choose (⟨r06_Floor.d, rfl⟩ : ∃ f, f = r06_Floor.d)
theorem r06_Floor.is : r06_Floor = r06_Floor.d := Classical.choose_spec (⟨r06_Floor.d, rfl⟩ : ∃ f, f = r06_Floor.d)
end Go.Ev.S

/- The functions as the evaluator has them: what each comes to. -/
set_option maxRecDepth 100000
set_option linter.unusedVariables false
set_option linter.unusedSimpArgs false
namespace Go.Ev.S
open Go Go.Ev
def r07_Precision.d (a0 : Int) (K : Int → Prop) : Prop :=
  br (eqI a0 2) (K 11) (br (eqI a0 0) (K 24) (br (eqI a0 1) (K 53) (br (eqI a0 3) (K 113) (K 0))))
noncomputable def r07_Precision : Int → (Int → Prop) → Prop := Classical.choose (⟨r07_Precision.d, rfl⟩ : ∃ f, f = r07_Precision.d)
theorem r07_Precision.is : r07_Precision = r07_Precision.d := Classical.choose_spec (⟨r07_Precision.d, rfl⟩ : ∃ f, f = r07_Precision.d)
def r07_Right.d (a0 : Int) (K : Bool → Prop) : Prop :=
  K (leI a0 3)
noncomputable def r07_Right : Int → (Bool → Prop) → Prop := Classical.choose (⟨r07_Right.d, rfl⟩ : ∃ f, f = r07_Right.d)
theorem r07_Right.is : r07_Right = r07_Right.d := Classical.choose_spec (⟨r07_Right.d, rfl⟩ : ∃ f, f = r07_Right.d)
def r07_Width.d (a0 : Int) (K : Int → Prop) : Prop :=
  br (eqI a0 2) (K 16) (br (eqI a0 0) (K 32) (br (eqI a0 1) (K 64) (br (eqI a0 3) (K 128) (K 0))))
noncomputable def r07_Width : Int → (Int → Prop) → Prop := Classical.choose (⟨r07_Width.d, rfl⟩ : ∃ f, f = r07_Width.d)
theorem r07_Width.is : r07_Width = r07_Width.d := Classical.choose_spec (⟨r07_Width.d, rfl⟩ : ∃ f, f = r07_Width.d)
def r07_Build.d (a0 : Int) (a1 : Bool) (a2 : Int) (a3 : Nat → Int) (K : Int → Int → Prop) : Prop :=
  r07_Right a0 fun y0 => br (!y0) (K 0 0) (r02_Of (cvI .u64 a2) fun y0 => r07_Precision a0 fun y0_1 => r02_Left y0 (subI .i64 y0_1 1) fun y0 y1 => r02_Add y0 a3 fun y0 y1 => br a1 (r02_Of 1 fun y0_2 => r07_Width a0 fun y0_3 => r02_Left y0_2 (subI .i64 y0_3 1) fun y0_4 y1 => r02_Add y0 y0_4 fun y0 y1 => r02_ToBits y0 fun y0 y1 y2 => K y0 y1) (r02_ToBits y0 fun y0 y1 y2 => K y0 y1))
noncomputable def r07_Build : Int → Bool → Int → (Nat → Int) → (Int → Int → Prop) → Prop := Classical.choose (⟨r07_Build.d, rfl⟩ : ∃ f, f = r07_Build.d)
theorem r07_Build.is : r07_Build = r07_Build.d := Classical.choose_spec (⟨r07_Build.d, rfl⟩ : ∃ f, f = r07_Build.d)
def r07_Emax.d (a0 : Int) (K : Int → Prop) : Prop :=
  br (eqI a0 2) (K 15) (br (eqI a0 0) (K 127) (br (eqI a0 1) (K 1023) (br (eqI a0 3) (K 16383) (K 0))))
noncomputable def r07_Emax : Int → (Int → Prop) → Prop := Classical.choose (⟨r07_Emax.d, rfl⟩ : ∃ f, f = r07_Emax.d)
theorem r07_Emax.is : r07_Emax = r07_Emax.d := Classical.choose_spec (⟨r07_Emax.d, rfl⟩ : ∃ f, f = r07_Emax.d)
def r07_Emin.d (a0 : Int) (K : Int → Prop) : Prop :=
  r07_Right a0 fun y0 => br (!y0) (K 0) (r07_Emax a0 fun y0 => K (subI .i64 1 y0))
noncomputable def r07_Emin : Int → (Int → Prop) → Prop := Classical.choose (⟨r07_Emin.d, rfl⟩ : ∃ f, f = r07_Emin.d)
theorem r07_Emin.is : r07_Emin = r07_Emin.d := Classical.choose_spec (⟨r07_Emin.d, rfl⟩ : ∃ f, f = r07_Emin.d)
def r07_Ones.d (a0 : Int) (K : Int → Prop) : Prop :=
  r07_Emax a0 fun y0 => K (addI .i64 (mulI .i64 2 y0) 1)
noncomputable def r07_Ones : Int → (Int → Prop) → Prop := Classical.choose (⟨r07_Ones.d, rfl⟩ : ∃ f, f = r07_Ones.d)
theorem r07_Ones.is : r07_Ones = r07_Ones.d := Classical.choose_spec (⟨r07_Ones.d, rfl⟩ : ∃ f, f = r07_Ones.d)
def r07_Fields.d (a0 : Int) (a1_0 : Int) (a1_1 : Int) (K : Bool → Int → (Nat → Int) → Prop) : Prop :=
  r02_OfBits a1_0 a1_1 fun y0 => r07_Width a0 fun y0_1 => r02_Bit y0 (subI .i64 y0_1 1) fun y0_2 => r07_Precision a0 fun y0_3 => r02_Mask (subI .i64 y0_3 1) fun y0_4 => r02_And y0 y0_4 fun y0_5 => r07_Precision a0 fun y0_6 => r02_Right y0 (subI .i64 y0_6 1) fun y0 y1 => r07_Ones a0 fun y0_7 => K y0_2 (andI .i64 (cvI .i64 (y0 0)) y0_7) y0_5
noncomputable def r07_Fields : Int → Int → Int → (Bool → Int → (Nat → Int) → Prop) → Prop := Classical.choose (⟨r07_Fields.d, rfl⟩ : ∃ f, f = r07_Fields.d)
theorem r07_Fields.is : r07_Fields = r07_Fields.d := Classical.choose_spec (⟨r07_Fields.d, rfl⟩ : ∃ f, f = r07_Fields.d)
def r07_Fits.d (a0 : Int) (a1_0 : Int) (a1_1 : Int) (K : Bool → Prop) : Prop :=
  r07_Right a0 fun y0 => br y0 (r02_OfBits a1_0 a1_1 fun y0 => r02_Len y0 fun y0 => r07_Width a0 fun y0_1 => K (leI y0 y0_1)) (K false)
noncomputable def r07_Fits : Int → Int → Int → (Bool → Prop) → Prop := Classical.choose (⟨r07_Fits.d, rfl⟩ : ∃ f, f = r07_Fits.d)
theorem r07_Fits.is : r07_Fits = r07_Fits.d := Classical.choose_spec (⟨r07_Fits.d, rfl⟩ : ∃ f, f = r07_Fits.d)
end Go.Ev.S

/- The functions as the evaluator has them: what each comes to. -/
set_option maxRecDepth 100000
set_option linter.unusedVariables false
set_option linter.unusedSimpArgs false
namespace Go.Ev.S
open Go Go.Ev
def r08_Class.d (a0 : Int) (a1_0 : Int) (a1_1 : Int) (K : Int → Prop) : Prop :=
  r07_Fields a0 a1_0 a1_1 fun y0 y1 y2 => r07_Ones a0 fun y0_1 => br (eqI y1 y0_1) (br (!eqN 6 y2 fun x => 0) (r07_Precision a0 fun y0 => r02_Bit y2 (subI .i64 y0 2) fun y0 => br y0 (K 9) (K 8)) (br y0 (K 0) (K 7))) (br (!eqI y1 0) (br y0 (K 1) (K 6)) (br (!eqN 6 y2 fun x => 0) (br y0 (K 2) (K 5)) (br y0 (K 3) (K 4))))
noncomputable def r08_Class : Int → Int → Int → (Int → Prop) → Prop := Classical.choose (⟨r08_Class.d, rfl⟩ : ∃ f, f = r08_Class.d)
theorem r08_Class.is : r08_Class = r08_Class.d := Classical.choose_spec (⟨r08_Class.d, rfl⟩ : ∃ f, f = r08_Class.d)
def r08_Sign.d (a0 : Int) (a1_0 : Int) (a1_1 : Int) (K : Bool → Prop) : Prop :=
  r07_Fits a0 a1_0 a1_1 fun y0 => br (!y0) (K false) (r07_Fields a0 a1_0 a1_1 fun y0 y1 y2 => K y0)
noncomputable def r08_Sign : Int → Int → Int → (Bool → Prop) → Prop := Classical.choose (⟨r08_Sign.d, rfl⟩ : ∃ f, f = r08_Sign.d)
theorem r08_Sign.is : r08_Sign = r08_Sign.d := Classical.choose_spec (⟨r08_Sign.d, rfl⟩ : ∃ f, f = r08_Sign.d)
def r08_Of.d (a0 : Int) (a1_0 : Bool) (a1_1 : List UInt8) (a1_2 : List UInt8) (a1_3 : Int) (K : Int → Int → Bool → Prop) : Prop :=
  br (eqS a1_1 []) (K 0 0 true) (r07_Precision a0 fun y0 => r06_Top a1_0 a1_1 a1_2 a1_3 fun y0_1 y1 => br (!eqS a1_2 [1]) (K 0 0 false) (r07_Emax a0 fun y0_2 => br (ltI y0_2 y0_1) (K 0 0 false) (r07_Emin a0 fun y0_3 => br (ltI y0_1 y0_3) (r07_Emin a0 fun y0_4 => br (ltI a1_3 (addI .i64 (subI .i64 y0_4 y0) 1)) (K 0 0 false) (r06_Floor a1_0 a1_1 a1_2 a1_3 (addI .i64 (subI .i64 y0_4 y0) 1) fun y0_5 y1 y2 => r05_ToWide y0_5 fun y0_6 y1 => r02_Len y0_6 fun y0_7 => br (ltI y0_7 y0) (r07_Build a0 a1_0 0 y0_6 fun y0 y1 => K y0 y1 true) (r02_Mask (subI .i64 y0 1) fun y0_8 => r02_And y0_6 y0_8 fun y0_9 => r07_Emin a0 fun y0_10 => r07_Build a0 a1_0 (addI .i64 (subI .i64 (addI .i64 (subI .i64 y0_4 y0) 1) y0_10) y0) y0_9 fun y0 y1 => K y0 y1 true))) (br (ltI a1_3 (addI .i64 (subI .i64 y0_1 y0) 1)) (K 0 0 false) (r06_Floor a1_0 a1_1 a1_2 a1_3 (addI .i64 (subI .i64 y0_1 y0) 1) fun y0_4 y1 y2 => r05_ToWide y0_4 fun y0_5 y1 => r02_Len y0_5 fun y0_6 => br (ltI y0_6 y0) (r07_Build a0 a1_0 0 y0_5 fun y0 y1 => K y0 y1 true) (r02_Mask (subI .i64 y0 1) fun y0_7 => r02_And y0_5 y0_7 fun y0_8 => r07_Emin a0 fun y0_9 => r07_Build a0 a1_0 (addI .i64 (subI .i64 (addI .i64 (subI .i64 y0_1 y0) 1) y0_9) y0) y0_8 fun y0 y1 => K y0 y1 true))))))
noncomputable def r08_Of : Int → Bool → List UInt8 → List UInt8 → Int → (Int → Int → Bool → Prop) → Prop := Classical.choose (⟨r08_Of.d, rfl⟩ : ∃ f, f = r08_Of.d)
theorem r08_Of.is : r08_Of = r08_Of.d := Classical.choose_spec (⟨r08_Of.d, rfl⟩ : ∃ f, f = r08_Of.d)
def r08_Unpack.d (a0 : Int) (a1_0 : Int) (a1_1 : Int) (K : Int → (Nat → Int) → Int → (Nat → Int) → Prop) : Prop :=
  r08_Class a0 a1_0 a1_1 fun y0 => r07_Fields a0 a1_0 a1_1 fun y0_1 y1 y2 => r07_Precision a0 fun y0_2 => br (eqI y0 8) (br (eqI y0 8) (K y0 (fun x => 0) 0 y2) (br (eqI y0 2) (br (eqI y0 2) (r07_Emin a0 fun y0_3 => K y0 y2 (addI .i64 (subI .i64 y0_3 y0_2) 1) fun x => 0) (br (eqI y0 1) (br (eqI y0 1) (r02_Of 1 fun y0_3 => r02_Left y0_3 (subI .i64 y0_2 1) fun y0_4 y1_1 => r02_Add y0_4 y2 fun y0_5 y1_2 => r07_Emax a0 fun y0_6 => K y0 y0_5 (addI .i64 (subI .i64 (subI .i64 y1 y0_6) y0_2) 1) fun x => 0) (K y0 (fun x => 0) 0 fun x => 0)) (br (eqI y0 6) (r02_Of 1 fun y0_3 => r02_Left y0_3 (subI .i64 y0_2 1) fun y0_4 y1_1 => r02_Add y0_4 y2 fun y0_5 y1_2 => r07_Emax a0 fun y0_6 => K y0 y0_5 (addI .i64 (subI .i64 (subI .i64 y1 y0_6) y0_2) 1) fun x => 0) (K y0 (fun x => 0) 0 fun x => 0)))) (br (eqI y0 5) (r07_Emin a0 fun y0_3 => K y0 y2 (addI .i64 (subI .i64 y0_3 y0_2) 1) fun x => 0) (br (eqI y0 1) (br (eqI y0 1) (r02_Of 1 fun y0_3 => r02_Left y0_3 (subI .i64 y0_2 1) fun y0_4 y1_1 => r02_Add y0_4 y2 fun y0_5 y1_2 => r07_Emax a0 fun y0_6 => K y0 y0_5 (addI .i64 (subI .i64 (subI .i64 y1 y0_6) y0_2) 1) fun x => 0) (K y0 (fun x => 0) 0 fun x => 0)) (br (eqI y0 6) (r02_Of 1 fun y0_3 => r02_Left y0_3 (subI .i64 y0_2 1) fun y0_4 y1_1 => r02_Add y0_4 y2 fun y0_5 y1_2 => r07_Emax a0 fun y0_6 => K y0 y0_5 (addI .i64 (subI .i64 (subI .i64 y1 y0_6) y0_2) 1) fun x => 0) (K y0 (fun x => 0) 0 fun x => 0)))))) (br (eqI y0 9) (K y0 (fun x => 0) 0 y2) (br (eqI y0 2) (br (eqI y0 2) (r07_Emin a0 fun y0_3 => K y0 y2 (addI .i64 (subI .i64 y0_3 y0_2) 1) fun x => 0) (br (eqI y0 1) (br (eqI y0 1) (r02_Of 1 fun y0_3 => r02_Left y0_3 (subI .i64 y0_2 1) fun y0_4 y1_1 => r02_Add y0_4 y2 fun y0_5 y1_2 => r07_Emax a0 fun y0_6 => K y0 y0_5 (addI .i64 (subI .i64 (subI .i64 y1 y0_6) y0_2) 1) fun x => 0) (K y0 (fun x => 0) 0 fun x => 0)) (br (eqI y0 6) (r02_Of 1 fun y0_3 => r02_Left y0_3 (subI .i64 y0_2 1) fun y0_4 y1_1 => r02_Add y0_4 y2 fun y0_5 y1_2 => r07_Emax a0 fun y0_6 => K y0 y0_5 (addI .i64 (subI .i64 (subI .i64 y1 y0_6) y0_2) 1) fun x => 0) (K y0 (fun x => 0) 0 fun x => 0)))) (br (eqI y0 5) (r07_Emin a0 fun y0_3 => K y0 y2 (addI .i64 (subI .i64 y0_3 y0_2) 1) fun x => 0) (br (eqI y0 1) (br (eqI y0 1) (r02_Of 1 fun y0_3 => r02_Left y0_3 (subI .i64 y0_2 1) fun y0_4 y1_1 => r02_Add y0_4 y2 fun y0_5 y1_2 => r07_Emax a0 fun y0_6 => K y0 y0_5 (addI .i64 (subI .i64 (subI .i64 y1 y0_6) y0_2) 1) fun x => 0) (K y0 (fun x => 0) 0 fun x => 0)) (br (eqI y0 6) (r02_Of 1 fun y0_3 => r02_Left y0_3 (subI .i64 y0_2 1) fun y0_4 y1_1 => r02_Add y0_4 y2 fun y0_5 y1_2 => r07_Emax a0 fun y0_6 => K y0 y0_5 (addI .i64 (subI .i64 (subI .i64 y1 y0_6) y0_2) 1) fun x => 0) (K y0 (fun x => 0) 0 fun x => 0))))))
noncomputable def r08_Unpack : Int → Int → Int → (Int → (Nat → Int) → Int → (Nat → Int) → Prop) → Prop := Classical.choose (⟨r08_Unpack.d, rfl⟩ : ∃ f, f = r08_Unpack.d)
theorem r08_Unpack.is : r08_Unpack = r08_Unpack.d := Classical.choose_spec (⟨r08_Unpack.d, rfl⟩ : ∃ f, f = r08_Unpack.d)
def r08_Value.d (a0 : Int) (a1_0 : Int) (a1_1 : Int) (K : Bool → List UInt8 → List UInt8 → Int → Int → Prop) : Prop :=
  r08_Unpack a0 a1_0 a1_1 fun y0 y1 y2 y3 => br (eqI y0 8) (br (eqI y0 8) (K false [] [] 0 80) (r08_Sign a0 a1_0 a1_1 fun y0 => r05_OfWide y1 fun y0_1 => r06_Make y0 y0_1 [1] y2 fun y0 y1 y2 y3 y4 => K y0 y1 y2 y3 0)) (br (eqI y0 9) (br (eqI y0 9) (K false [] [] 0 80) (r08_Sign a0 a1_0 a1_1 fun y0 => r05_OfWide y1 fun y0_1 => r06_Make y0 y0_1 [1] y2 fun y0 y1 y2 y3 y4 => K y0 y1 y2 y3 0)) (br (eqI y0 0) (br (eqI y0 0) (K false [] [] 0 80) (r08_Sign a0 a1_0 a1_1 fun y0 => r05_OfWide y1 fun y0_1 => r06_Make y0 y0_1 [1] y2 fun y0 y1 y2 y3 y4 => K y0 y1 y2 y3 0)) (br (eqI y0 7) (K false [] [] 0 80) (r08_Sign a0 a1_0 a1_1 fun y0 => r05_OfWide y1 fun y0_1 => r06_Make y0 y0_1 [1] y2 fun y0 y1 y2 y3 y4 => K y0 y1 y2 y3 0))))
noncomputable def r08_Value : Int → Int → Int → (Bool → List UInt8 → List UInt8 → Int → Int → Prop) → Prop := Classical.choose (⟨r08_Value.d, rfl⟩ : ∃ f, f = r08_Value.d)
theorem r08_Value.is : r08_Value = r08_Value.d := Classical.choose_spec (⟨r08_Value.d, rfl⟩ : ∃ f, f = r08_Value.d)
end Go.Ev.S

/- The functions as the evaluator has them: what each comes to. -/
set_option maxRecDepth 100000
set_option linter.unusedVariables false
set_option linter.unusedSimpArgs false
namespace Go.Ev.S
open Go Go.Ev
def law08_alive.d (K : Bool → Prop) : Prop :=
  kind_Class 2 0 32768 fun y0 y1 => kind_Unpack 2 0 15360 fun y0_1 y1_1 y2 y3 y4 => kind_Class 4 0 0 fun y0_2 y1_2 => br (eqI y0 3) (br (eqI y1 0) (br (eqI y4 0) (br (eqN 6 y1_1 (upd (fun x => 0) 0 1024)) (br (eqI y2 (-10)) (K (eqI y1_2 2)) (K false)) (K false)) (K false)) (K false)) (K false)
noncomputable def law08_alive : (Bool → Prop) → Prop := Classical.choose (⟨law08_alive.d, rfl⟩ : ∃ f, f = law08_alive.d)
theorem law08_alive.is : law08_alive = law08_alive.d := Classical.choose_spec (⟨law08_alive.d, rfl⟩ : ∃ f, f = law08_alive.d)
def law08_fits.d (a0 : Int) (a1_0 : Int) (a1_1 : Int) (K : Bool → Prop) : Prop :=
  r07_Fits a0 a1_0 a1_1 fun y0 => K y0
noncomputable def law08_fits : Int → Int → Int → (Bool → Prop) → Prop := Classical.choose (⟨law08_fits.d, rfl⟩ : ∃ f, f = law08_fits.d)
theorem law08_fits.is : law08_fits = law08_fits.d := Classical.choose_spec (⟨law08_fits.d, rfl⟩ : ∃ f, f = law08_fits.d)
def law08_KindValues.d (a0 : Int) (a1_0 : Int) (a1_1 : Int) (a2_0 : Bool) (a2_1 : List UInt8) (a2_2 : List UInt8) (a2_3 : Int) (K : Bool → Prop) : Prop :=
  kind_Value a0 a1_0 a1_1 fun y0 y1 y2 y3 y4 => law08_fits a0 a1_0 a1_1 fun y0_1 => br (!y0_1) (br (!(beqB y0 false && (eqS y1 [] && (eqS y2 [] && eqI y3 0)))) (K false) (br (!eqI y4 2) (K false) (br (ltI 80 ↑(List.length a2_1)) (law08_alive fun y0 => K y0) (br (ltI 80 ↑(List.length a2_2)) (law08_alive fun y0 => K y0) (kind_Of a0 a2_0 a2_1 a2_2 a2_3 fun y0 y1 y2 y3 => r07_Right a0 fun y0_2 => br (!y0_2) (br (eqI y0 0 && eqI y1 0) (br (!y2) (br (eqI y3 2) (law08_alive fun y0 => K y0) (K false)) (K false)) (K false)) (r06_May a2_0 a2_1 a2_2 a2_3 fun y0_3 => br (!y0_3) (br (eqI y0 0 && eqI y1 0) (br (!y2) (br (eqI y3 2) (law08_alive fun y0 => K y0) (K false)) (K false)) (K false)) (r08_Of a0 a2_0 a2_1 a2_2 a2_3 fun y0_4 y1_1 y2_1 => br (eqI y0 y0_4 && eqI y1 y1_1) (br (beqB y2 y2_1) (br (eqI y3 0) (law08_alive fun y0 => K y0) (K false)) (K false)) (K false)))))))) (r08_Value a0 a1_0 a1_1 fun y0_2 y1_1 y2_1 y3_1 y4_1 => br (!(beqB y0 y0_2 && (eqS y1 y1_1 && (eqS y2 y2_1 && eqI y3 y3_1)))) (K false) (br (!eqI y4 y4_1) (K false) (br (ltI 80 ↑(List.length a2_1)) (law08_alive fun y0 => K y0) (br (ltI 80 ↑(List.length a2_2)) (law08_alive fun y0 => K y0) (kind_Of a0 a2_0 a2_1 a2_2 a2_3 fun y0 y1 y2 y3 => r07_Right a0 fun y0_3 => br (!y0_3) (br (eqI y0 0 && eqI y1 0) (br (!y2) (br (eqI y3 2) (law08_alive fun y0 => K y0) (K false)) (K false)) (K false)) (r06_May a2_0 a2_1 a2_2 a2_3 fun y0_4 => br (!y0_4) (br (eqI y0 0 && eqI y1 0) (br (!y2) (br (eqI y3 2) (law08_alive fun y0 => K y0) (K false)) (K false)) (K false)) (r08_Of a0 a2_0 a2_1 a2_2 a2_3 fun y0_5 y1_2 y2_2 => br (eqI y0 y0_5 && eqI y1 y1_2) (br (beqB y2 y2_2) (br (eqI y3 0) (law08_alive fun y0 => K y0) (K false)) (K false)) (K false))))))))
noncomputable def law08_KindValues : Int → Int → Int → Bool → List UInt8 → List UInt8 → Int → (Bool → Prop) → Prop := Classical.choose (⟨law08_KindValues.d, rfl⟩ : ∃ f, f = law08_KindValues.d)
theorem law08_KindValues.is : law08_KindValues = law08_KindValues.d := Classical.choose_spec (⟨law08_KindValues.d, rfl⟩ : ∃ f, f = law08_KindValues.d)
end Go.Ev.S

/- The functions as the evaluator has them: what each comes to. -/
set_option maxRecDepth 100000
set_option linter.unusedVariables false
set_option linter.unusedSimpArgs false
namespace Go.Ev.S
open Go Go.Ev
end Go.Ev.S

/- The functions as the evaluator has them: what each comes to. -/
set_option maxRecDepth 100000
set_option linter.unusedVariables false
set_option linter.unusedSimpArgs false
namespace Go.Ev.S
open Go Go.Ev
end Go.Ev.S

/- The functions as the evaluator has them: what each comes to. -/
set_option maxRecDepth 100000
set_option linter.unusedVariables false
set_option linter.unusedSimpArgs false
namespace Go.Ev.S
open Go Go.Ev
end Go.Ev.S

/- The functions as the evaluator has them: what each comes to. -/
set_option maxRecDepth 100000
set_option linter.unusedVariables false
set_option linter.unusedSimpArgs false
namespace Go.Ev.S
open Go Go.Ev
end Go.Ev.S

/- The functions as the evaluator has them: what each comes to. -/
set_option maxRecDepth 100000
set_option linter.unusedVariables false
set_option linter.unusedSimpArgs false
namespace Go.Ev.S
open Go Go.Ev
end Go.Ev.S

/- The functions as the evaluator has them: what each comes to. -/
set_option maxRecDepth 100000
set_option linter.unusedVariables false
set_option linter.unusedSimpArgs false
namespace Go.Ev.S
open Go Go.Ev
end Go.Ev.S

/- The functions as the evaluator has them: what each comes to. -/
set_option maxRecDepth 100000
set_option linter.unusedVariables false
set_option linter.unusedSimpArgs false
namespace Go.Ev.S
open Go Go.Ev
end Go.Ev.S

/- The functions as the evaluator has them: what each comes to. -/
set_option maxRecDepth 100000
set_option linter.unusedVariables false
set_option linter.unusedSimpArgs false
namespace Go.Ev.S
open Go Go.Ev
end Go.Ev.S

/- The functions as the evaluator has them: what each comes to. -/
set_option maxRecDepth 100000
set_option linter.unusedVariables false
set_option linter.unusedSimpArgs false
namespace Go.Ev.S
open Go Go.Ev
end Go.Ev.S
