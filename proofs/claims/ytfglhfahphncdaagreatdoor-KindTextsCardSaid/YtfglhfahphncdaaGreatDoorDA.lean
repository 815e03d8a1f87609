/- The functions as the evaluator has them: what each comes to. -/
import Derived.Test.YtfglhfahphncdaaGreatDoorEvC
import Derived.Lib.ItoaNum
import Derived.Lib.AtoiAll
import Derived.Lib.Bytealg
set_option maxRecDepth 100000
set_option linter.unusedVariables false
set_option linter.unusedSimpArgs false
namespace Go.Ev.S
open Go Go.Ev
noncomputable def shut {α : Type} (d : α) : α := Classical.choose (⟨d, rfl⟩ : ∃ f, f = d)
theorem shut_is {α : Type} (d : α) : shut d = d := Classical.choose_spec (⟨d, rfl⟩ : ∃ f, f = d)
def zaa.d (a0 : Int) (K : Int → Prop) : Prop :=
  br (leI 4294967296 a0) (br (leI 65536 (ya7 IntKind.u64 a0 32)) (br (leI 256 (ya7 IntKind.u64 (ya7 IntKind.u64 a0 32) 16)) (gd (leI 0 (cvI IntKind.u8 (ya7 IntKind.u64 (ya7 IntKind.u64 (ya7 IntKind.u64 a0 32) 16) 8)) && ltI (cvI IntKind.u8 (ya7 IntKind.u64 (ya7 IntKind.u64 (ya7 IntKind.u64 a0 32) 16) 8)) 256) (K (yaj IntKind.i64 56 (cvI IntKind.i64 (yar [0, 1, 2, 2, 3, 3, 3, 3, 4, 4, 4, 4, 4, 4, 4, 4, 5, 5, 5, 5, 5, 5, 5, 5, 5, 5, 5, 5, 5, 5, 5, 5, 6, 6, 6, 6, 6, 6, 6, 6, 6, 6, 6, 6, 6, 6, 6, 6, 6, 6, 6, 6, 6, 6, 6, 6, 6, 6, 6, 6, 6, 6, 6, 6, 7, 7, 7, 7, 7, 7, 7, 7, 7, 7, 7, 7, 7, 7, 7, 7, 7, 7, 7, 7, 7, 7, 7, 7, 7, 7, 7, 7, 7, 7, 7, 7, 7, 7, 7, 7, 7, 7, 7, 7, 7, 7, 7, 7, 7, 7, 7, 7, 7, 7, 7, 7, 7, 7, 7, 7, 7, 7, 7, 7, 7, 7, 7, 7, 8, 8, 8, 8, 8, 8, 8, 8, 8, 8, 8, 8, 8, 8, 8, 8, 8, 8, 8, 8, 8, 8, 8, 8, 8, 8, 8, 8, 8, 8, 8, 8, 8, 8, 8, 8, 8, 8, 8, 8, 8, 8, 8, 8, 8, 8, 8, 8, 8, 8, 8, 8, 8, 8, 8, 8, 8, 8, 8, 8, 8, 8, 8, 8, 8, 8, 8, 8, 8, 8, 8, 8, 8, 8, 8, 8, 8, 8, 8, 8, 8, 8, 8, 8, 8, 8, 8, 8, 8, 8, 8, 8, 8, 8, 8, 8, 8, 8, 8, 8, 8, 8, 8, 8, 8, 8, 8, 8, 8, 8, 8, 8, 8, 8, 8, 8, 8, 8, 8, 8, 8, 8, 8, 8, 8, 8, 8, 8] (Int.toNat (cvI IntKind.u8 (ya7 IntKind.u64 (ya7 IntKind.u64 (ya7 IntKind.u64 a0 32) 16) 8)))))))) (gd (leI 0 (cvI IntKind.u8 (ya7 IntKind.u64 (ya7 IntKind.u64 a0 32) 16)) && ltI (cvI IntKind.u8 (ya7 IntKind.u64 (ya7 IntKind.u64 a0 32) 16)) 256) (K (yaj IntKind.i64 48 (cvI IntKind.i64 (yar [0, 1, 2, 2, 3, 3, 3, 3, 4, 4, 4, 4, 4, 4, 4, 4, 5, 5, 5, 5, 5, 5, 5, 5, 5, 5, 5, 5, 5, 5, 5, 5, 6, 6, 6, 6, 6, 6, 6, 6, 6, 6, 6, 6, 6, 6, 6, 6, 6, 6, 6, 6, 6, 6, 6, 6, 6, 6, 6, 6, 6, 6, 6, 6, 7, 7, 7, 7, 7, 7, 7, 7, 7, 7, 7, 7, 7, 7, 7, 7, 7, 7, 7, 7, 7, 7, 7, 7, 7, 7, 7, 7, 7, 7, 7, 7, 7, 7, 7, 7, 7, 7, 7, 7, 7, 7, 7, 7, 7, 7, 7, 7, 7, 7, 7, 7, 7, 7, 7, 7, 7, 7, 7, 7, 7, 7, 7, 7, 8, 8, 8, 8, 8, 8, 8, 8, 8, 8, 8, 8, 8, 8, 8, 8, 8, 8, 8, 8, 8, 8, 8, 8, 8, 8, 8, 8, 8, 8, 8, 8, 8, 8, 8, 8, 8, 8, 8, 8, 8, 8, 8, 8, 8, 8, 8, 8, 8, 8, 8, 8, 8, 8, 8, 8, 8, 8, 8, 8, 8, 8, 8, 8, 8, 8, 8, 8, 8, 8, 8, 8, 8, 8, 8, 8, 8, 8, 8, 8, 8, 8, 8, 8, 8, 8, 8, 8, 8, 8, 8, 8, 8, 8, 8, 8, 8, 8, 8, 8, 8, 8, 8, 8, 8, 8, 8, 8, 8, 8, 8, 8, 8, 8, 8, 8, 8, 8, 8, 8, 8, 8, 8, 8, 8, 8, 8, 8] (Int.toNat (cvI IntKind.u8 (ya7 IntKind.u64 (ya7 IntKind.u64 a0 32) 16))))))))) (br (leI 256 (ya7 IntKind.u64 a0 32)) (gd (leI 0 (cvI IntKind.u8 (ya7 IntKind.u64 (ya7 IntKind.u64 a0 32) 8)) && ltI (cvI IntKind.u8 (ya7 IntKind.u64 (ya7 IntKind.u64 a0 32) 8)) 256) (K (yaj IntKind.i64 40 (cvI IntKind.i64 (yar [0, 1, 2, 2, 3, 3, 3, 3, 4, 4, 4, 4, 4, 4, 4, 4, 5, 5, 5, 5, 5, 5, 5, 5, 5, 5, 5, 5, 5, 5, 5, 5, 6, 6, 6, 6, 6, 6, 6, 6, 6, 6, 6, 6, 6, 6, 6, 6, 6, 6, 6, 6, 6, 6, 6, 6, 6, 6, 6, 6, 6, 6, 6, 6, 7, 7, 7, 7, 7, 7, 7, 7, 7, 7, 7, 7, 7, 7, 7, 7, 7, 7, 7, 7, 7, 7, 7, 7, 7, 7, 7, 7, 7, 7, 7, 7, 7, 7, 7, 7, 7, 7, 7, 7, 7, 7, 7, 7, 7, 7, 7, 7, 7, 7, 7, 7, 7, 7, 7, 7, 7, 7, 7, 7, 7, 7, 7, 7, 8, 8, 8, 8, 8, 8, 8, 8, 8, 8, 8, 8, 8, 8, 8, 8, 8, 8, 8, 8, 8, 8, 8, 8, 8, 8, 8, 8, 8, 8, 8, 8, 8, 8, 8, 8, 8, 8, 8, 8, 8, 8, 8, 8, 8, 8, 8, 8, 8, 8, 8, 8, 8, 8, 8, 8, 8, 8, 8, 8, 8, 8, 8, 8, 8, 8, 8, 8, 8, 8, 8, 8, 8, 8, 8, 8, 8, 8, 8, 8, 8, 8, 8, 8, 8, 8, 8, 8, 8, 8, 8, 8, 8, 8, 8, 8, 8, 8, 8, 8, 8, 8, 8, 8, 8, 8, 8, 8, 8, 8, 8, 8, 8, 8, 8, 8, 8, 8, 8, 8, 8, 8, 8, 8, 8, 8, 8, 8] (Int.toNat (cvI IntKind.u8 (ya7 IntKind.u64 (ya7 IntKind.u64 a0 32) 8)))))))) (gd (leI 0 (cvI IntKind.u8 (ya7 IntKind.u64 a0 32)) && ltI (cvI IntKind.u8 (ya7 IntKind.u64 a0 32)) 256) (K (yaj IntKind.i64 32 (cvI IntKind.i64 (yar [0, 1, 2, 2, 3, 3, 3, 3, 4, 4, 4, 4, 4, 4, 4, 4, 5, 5, 5, 5, 5, 5, 5, 5, 5, 5, 5, 5, 5, 5, 5, 5, 6, 6, 6, 6, 6, 6, 6, 6, 6, 6, 6, 6, 6, 6, 6, 6, 6, 6, 6, 6, 6, 6, 6, 6, 6, 6, 6, 6, 6, 6, 6, 6, 7, 7, 7, 7, 7, 7, 7, 7, 7, 7, 7, 7, 7, 7, 7, 7, 7, 7, 7, 7, 7, 7, 7, 7, 7, 7, 7, 7, 7, 7, 7, 7, 7, 7, 7, 7, 7, 7, 7, 7, 7, 7, 7, 7, 7, 7, 7, 7, 7, 7, 7, 7, 7, 7, 7, 7, 7, 7, 7, 7, 7, 7, 7, 7, 8, 8, 8, 8, 8, 8, 8, 8, 8, 8, 8, 8, 8, 8, 8, 8, 8, 8, 8, 8, 8, 8, 8, 8, 8, 8, 8, 8, 8, 8, 8, 8, 8, 8, 8, 8, 8, 8, 8, 8, 8, 8, 8, 8, 8, 8, 8, 8, 8, 8, 8, 8, 8, 8, 8, 8, 8, 8, 8, 8, 8, 8, 8, 8, 8, 8, 8, 8, 8, 8, 8, 8, 8, 8, 8, 8, 8, 8, 8, 8, 8, 8, 8, 8, 8, 8, 8, 8, 8, 8, 8, 8, 8, 8, 8, 8, 8, 8, 8, 8, 8, 8, 8, 8, 8, 8, 8, 8, 8, 8, 8, 8, 8, 8, 8, 8, 8, 8, 8, 8, 8, 8, 8, 8, 8, 8, 8, 8] (Int.toNat (cvI IntKind.u8 (ya7 IntKind.u64 a0 32)))))))))) (br (leI 65536 a0) (br (leI 256 (ya7 IntKind.u64 a0 16)) (gd (leI 0 (cvI IntKind.u8 (ya7 IntKind.u64 (ya7 IntKind.u64 a0 16) 8)) && ltI (cvI IntKind.u8 (ya7 IntKind.u64 (ya7 IntKind.u64 a0 16) 8)) 256) (K (yaj IntKind.i64 24 (cvI IntKind.i64 (yar [0, 1, 2, 2, 3, 3, 3, 3, 4, 4, 4, 4, 4, 4, 4, 4, 5, 5, 5, 5, 5, 5, 5, 5, 5, 5, 5, 5, 5, 5, 5, 5, 6, 6, 6, 6, 6, 6, 6, 6, 6, 6, 6, 6, 6, 6, 6, 6, 6, 6, 6, 6, 6, 6, 6, 6, 6, 6, 6, 6, 6, 6, 6, 6, 7, 7, 7, 7, 7, 7, 7, 7, 7, 7, 7, 7, 7, 7, 7, 7, 7, 7, 7, 7, 7, 7, 7, 7, 7, 7, 7, 7, 7, 7, 7, 7, 7, 7, 7, 7, 7, 7, 7, 7, 7, 7, 7, 7, 7, 7, 7, 7, 7, 7, 7, 7, 7, 7, 7, 7, 7, 7, 7, 7, 7, 7, 7, 7, 8, 8, 8, 8, 8, 8, 8, 8, 8, 8, 8, 8, 8, 8, 8, 8, 8, 8, 8, 8, 8, 8, 8, 8, 8, 8, 8, 8, 8, 8, 8, 8, 8, 8, 8, 8, 8, 8, 8, 8, 8, 8, 8, 8, 8, 8, 8, 8, 8, 8, 8, 8, 8, 8, 8, 8, 8, 8, 8, 8, 8, 8, 8, 8, 8, 8, 8, 8, 8, 8, 8, 8, 8, 8, 8, 8, 8, 8, 8, 8, 8, 8, 8, 8, 8, 8, 8, 8, 8, 8, 8, 8, 8, 8, 8, 8, 8, 8, 8, 8, 8, 8, 8, 8, 8, 8, 8, 8, 8, 8, 8, 8, 8, 8, 8, 8, 8, 8, 8, 8, 8, 8, 8, 8, 8, 8, 8, 8] (Int.toNat (cvI IntKind.u8 (ya7 IntKind.u64 (ya7 IntKind.u64 a0 16) 8)))))))) (gd (leI 0 (cvI IntKind.u8 (ya7 IntKind.u64 a0 16)) && ltI (cvI IntKind.u8 (ya7 IntKind.u64 a0 16)) 256) (K (yaj IntKind.i64 16 (cvI IntKind.i64 (yar [0, 1, 2, 2, 3, 3, 3, 3, 4, 4, 4, 4, 4, 4, 4, 4, 5, 5, 5, 5, 5, 5, 5, 5, 5, 5, 5, 5, 5, 5, 5, 5, 6, 6, 6, 6, 6, 6, 6, 6, 6, 6, 6, 6, 6, 6, 6, 6, 6, 6, 6, 6, 6, 6, 6, 6, 6, 6, 6, 6, 6, 6, 6, 6, 7, 7, 7, 7, 7, 7, 7, 7, 7, 7, 7, 7, 7, 7, 7, 7, 7, 7, 7, 7, 7, 7, 7, 7, 7, 7, 7, 7, 7, 7, 7, 7, 7, 7, 7, 7, 7, 7, 7, 7, 7, 7, 7, 7, 7, 7, 7, 7, 7, 7, 7, 7, 7, 7, 7, 7, 7, 7, 7, 7, 7, 7, 7, 7, 8, 8, 8, 8, 8, 8, 8, 8, 8, 8, 8, 8, 8, 8, 8, 8, 8, 8, 8, 8, 8, 8, 8, 8, 8, 8, 8, 8, 8, 8, 8, 8, 8, 8, 8, 8, 8, 8, 8, 8, 8, 8, 8, 8, 8, 8, 8, 8, 8, 8, 8, 8, 8, 8, 8, 8, 8, 8, 8, 8, 8, 8, 8, 8, 8, 8, 8, 8, 8, 8, 8, 8, 8, 8, 8, 8, 8, 8, 8, 8, 8, 8, 8, 8, 8, 8, 8, 8, 8, 8, 8, 8, 8, 8, 8, 8, 8, 8, 8, 8, 8, 8, 8, 8, 8, 8, 8, 8, 8, 8, 8, 8, 8, 8, 8, 8, 8, 8, 8, 8, 8, 8, 8, 8, 8, 8, 8, 8] (Int.toNat (cvI IntKind.u8 (ya7 IntKind.u64 a0 16))))))))) (br (leI 256 a0) (gd (leI 0 (cvI IntKind.u8 (ya7 IntKind.u64 a0 8)) && ltI (cvI IntKind.u8 (ya7 IntKind.u64 a0 8)) 256) (K (yaj IntKind.i64 8 (cvI IntKind.i64 (yar [0, 1, 2, 2, 3, 3, 3, 3, 4, 4, 4, 4, 4, 4, 4, 4, 5, 5, 5, 5, 5, 5, 5, 5, 5, 5, 5, 5, 5, 5, 5, 5, 6, 6, 6, 6, 6, 6, 6, 6, 6, 6, 6, 6, 6, 6, 6, 6, 6, 6, 6, 6, 6, 6, 6, 6, 6, 6, 6, 6, 6, 6, 6, 6, 7, 7, 7, 7, 7, 7, 7, 7, 7, 7, 7, 7, 7, 7, 7, 7, 7, 7, 7, 7, 7, 7, 7, 7, 7, 7, 7, 7, 7, 7, 7, 7, 7, 7, 7, 7, 7, 7, 7, 7, 7, 7, 7, 7, 7, 7, 7, 7, 7, 7, 7, 7, 7, 7, 7, 7, 7, 7, 7, 7, 7, 7, 7, 7, 8, 8, 8, 8, 8, 8, 8, 8, 8, 8, 8, 8, 8, 8, 8, 8, 8, 8, 8, 8, 8, 8, 8, 8, 8, 8, 8, 8, 8, 8, 8, 8, 8, 8, 8, 8, 8, 8, 8, 8, 8, 8, 8, 8, 8, 8, 8, 8, 8, 8, 8, 8, 8, 8, 8, 8, 8, 8, 8, 8, 8, 8, 8, 8, 8, 8, 8, 8, 8, 8, 8, 8, 8, 8, 8, 8, 8, 8, 8, 8, 8, 8, 8, 8, 8, 8, 8, 8, 8, 8, 8, 8, 8, 8, 8, 8, 8, 8, 8, 8, 8, 8, 8, 8, 8, 8, 8, 8, 8, 8, 8, 8, 8, 8, 8, 8, 8, 8, 8, 8, 8, 8, 8, 8, 8, 8, 8, 8] (Int.toNat (cvI IntKind.u8 (ya7 IntKind.u64 a0 8)))))))) (gd (leI 0 (cvI IntKind.u8 a0) && ltI (cvI IntKind.u8 a0) 256) (K (yaj IntKind.i64 0 (cvI IntKind.i64 (yar [0, 1, 2, 2, 3, 3, 3, 3, 4, 4, 4, 4, 4, 4, 4, 4, 5, 5, 5, 5, 5, 5, 5, 5, 5, 5, 5, 5, 5, 5, 5, 5, 6, 6, 6, 6, 6, 6, 6, 6, 6, 6, 6, 6, 6, 6, 6, 6, 6, 6, 6, 6, 6, 6, 6, 6, 6, 6, 6, 6, 6, 6, 6, 6, 7, 7, 7, 7, 7, 7, 7, 7, 7, 7, 7, 7, 7, 7, 7, 7, 7, 7, 7, 7, 7, 7, 7, 7, 7, 7, 7, 7, 7, 7, 7, 7, 7, 7, 7, 7, 7, 7, 7, 7, 7, 7, 7, 7, 7, 7, 7, 7, 7, 7, 7, 7, 7, 7, 7, 7, 7, 7, 7, 7, 7, 7, 7, 7, 8, 8, 8, 8, 8, 8, 8, 8, 8, 8, 8, 8, 8, 8, 8, 8, 8, 8, 8, 8, 8, 8, 8, 8, 8, 8, 8, 8, 8, 8, 8, 8, 8, 8, 8, 8, 8, 8, 8, 8, 8, 8, 8, 8, 8, 8, 8, 8, 8, 8, 8, 8, 8, 8, 8, 8, 8, 8, 8, 8, 8, 8, 8, 8, 8, 8, 8, 8, 8, 8, 8, 8, 8, 8, 8, 8, 8, 8, 8, 8, 8, 8, 8, 8, 8, 8, 8, 8, 8, 8, 8, 8, 8, 8, 8, 8, 8, 8, 8, 8, 8, 8, 8, 8, 8, 8, 8, 8, 8, 8, 8, 8, 8, 8, 8, 8, 8, 8, 8, 8, 8, 8, 8, 8, 8, 8, 8, 8] (Int.toNat (cvI IntKind.u8 a0)))))))))
noncomputable def zaa := shut zaa.d
theorem zaa.is : zaa = zaa.d := shut_is _
def zab.d (a0 : Int) (K : Int → Prop) : Prop :=
  br (eqI a0 0) (K 64) ((leI 0 (ya7 IntKind.u64 (ya0 IntKind.u64 (yfL IntKind.u64 a0 (ykq IntKind.u64 a0)) 285870213051353865) 58) && ltI (ya7 IntKind.u64 (ya0 IntKind.u64 (yfL IntKind.u64 a0 (ykq IntKind.u64 a0)) 285870213051353865) 58) 64) = true ∧ K (cvI IntKind.i64 (ya9 (Int.toNat (ya7 IntKind.u64 (ya0 IntKind.u64 (yfL IntKind.u64 a0 (ykq IntKind.u64 a0)) 285870213051353865) 58)))))
noncomputable def zab := shut zab.d
theorem zab.is : zab = zab.d := shut_is _
end Go.Ev.S

/- The functions as the evaluator has them: what each comes to. -/
set_option maxRecDepth 100000
set_option linter.unusedVariables false
set_option linter.unusedSimpArgs false
namespace Go.Ev.S
open Go Go.Ev
def word_one.d (a0 : Bool) (K : Int → Prop) : Prop :=
  br a0 (K 1) (K 0)
noncomputable def word_one : Bool → (Int → Prop) → Prop := Classical.choose (⟨word_one.d, rfl⟩ : ∃ f, f = word_one.d)
def word_Add.d (a0 : Int) (a1 : Int) (a2 : Bool) (K : Int → Bool → Prop) : Prop :=
  word_one a2 fun y0 => br (ltI (yaj IntKind.u64 a0 a1) a0) (K (yaj IntKind.u64 (yaj IntKind.u64 a0 a1) y0) true) (br a2 (K (yaj IntKind.u64 (yaj IntKind.u64 a0 a1) y0) (eqI (yaj IntKind.u64 (yaj IntKind.u64 a0 a1) y0) 0)) (K (yaj IntKind.u64 (yaj IntKind.u64 a0 a1) y0) false))
noncomputable def word_Add : Int → Int → Bool → (Int → Bool → Prop) → Prop := Classical.choose (⟨word_Add.d, rfl⟩ : ∃ f, f = word_Add.d)
def zds.d (a0 : Int) (K : Int → Prop) : Prop :=
  zaa a0 fun y0 => K y0
noncomputable def zds := shut zds.d
theorem zds.is : zds = zds.d := shut_is _
def zdt.d (a0 : Int) (K : Int → Prop) : Prop :=
  zab a0 fun y0 => K y0
noncomputable def zdt := shut zdt.d
theorem zdt.is : zdt = zdt.d := shut_is _
def zdv.d (a0 : Int) (K : Int → Prop) : Prop :=
  K (cvI IntKind.u64 (ym6 (yhm a0 0) 64))
noncomputable def zdv := shut zdv.d
theorem zdv.is : zdv = zdv.d := shut_is _
def zdu.d (a0 : Int) (K : Int → Prop) : Prop :=
  zdv a0 fun y0 => gd (!ltI y0 0) (K (yae IntKind.u64 (ybR IntKind.u64 1 y0) 1))
noncomputable def zdu := shut zdu.d
theorem zdu.is : zdu = zdu.d := shut_is _
end Go.Ev.S

/- The functions as the evaluator has them: what each comes to. -/
set_option maxRecDepth 100000
set_option linter.unusedVariables false
set_option linter.unusedSimpArgs false
namespace Go.Ev.S
open Go Go.Ev
def wide_Add.l2.step (again : Bool → Int → (Nat → Int) → (Nat → Int) → (Nat → Int) → Prop) (k0 : Bool → (Nat → Int) → Prop) (x0 : Bool) (x1 : Int) (x2 : Nat → Int) (x3 : Nat → Int) (x4 : Nat → Int) : Prop :=
  br (ltI x1 6) (gd (leI 0 x1 && ltI x1 6) (gd (leI 0 x1 && ltI x1 6) (word_Add (x2 (Int.toNat x1)) (x3 (Int.toNat x1)) x0 fun y0 y1 => gd (leI 0 x1 && ltI x1 6) (again y1 (yaj IntKind.i64 x1 1) x2 x3 (upd x4 (Int.toNat x1) y0))))) (k0 x0 x4)
def wide_Add.l2 (k0 : Bool → (Nat → Int) → Prop) : Nat → Bool → Int → (Nat → Int) → (Nat → Int) → (Nat → Int) → Prop
  | 0 => fun _ _ _ _ _ => False
  | n + 1 => wide_Add.l2.step (wide_Add.l2 k0 n) k0
def wide_Add.l2.entry : yay := ⟨LV.mk 48 [(0, 48)] 48 0 false, 0, 26, fun vs H K => match vs, H with
  | [EV.ptr 0 [], EV.ptr 1 [], EV.ptr 2 [], EV.bool x0, EV.int IntKind.i64 x1], [some (EV.arr IntKind.u64 6 x2), some (EV.arr IntKind.u64 6 x3), some (EV.arr IntKind.u64 6 x4)] => ∃ n, wide_Add.l2 (fun y0 y1 => K (.exit 0) [EV.ptr 0 [], EV.bool y0] [some (EV.arr IntKind.u64 6 y1)]) n x0 x1 x2 x3 x4
  | _, _ => False⟩
def wide_Add.d (a0 : Nat → Int) (a1 : Nat → Int) (K : (Nat → Int) → Bool → Prop) : Prop :=
  ∃ n, wide_Add.l2 (fun y0 y1 => K y1 y0) n false 0 a0 a1 fun x => 0
noncomputable def wide_Add : (Nat → Int) → (Nat → Int) → ((Nat → Int) → Bool → Prop) → Prop := Classical.choose (⟨wide_Add.d, rfl⟩ : ∃ f, f = wide_Add.d)
def zde.l2.step (again : Int → (Nat → Int) → (Nat → Int) → (Nat → Int) → Prop) (k0 : (Nat → Int) → (Nat → Int) → Prop) (x0 : Int) (x1 : Nat → Int) (x2 : Nat → Int) (x3 : Nat → Int) : Prop :=
  br (ltI x0 6) (gd (leI 0 x0 && ltI x0 6) (gd (leI 0 x0 && ltI x0 6) (gd (leI 0 x0 && ltI x0 6) (again (yaj IntKind.i64 x0 1) (upd x1 (Int.toNat x0) (yfL IntKind.u64 (x1 (Int.toNat x0)) (x2 (Int.toNat x0)))) x2 x3)))) (k0 x1 x3)
def zde.l2 (k0 : (Nat → Int) → (Nat → Int) → Prop) : Nat → Int → (Nat → Int) → (Nat → Int) → (Nat → Int) → Prop
  | 0 => fun _ _ _ _ => False
  | n + 1 => zde.l2.step (zde.l2 k0 n) k0
def zde.l2.entry : yay := ⟨LV.mk 20 [(0, 20)] 16 0 false, 0, 19, fun vs H K => match vs, H with
  | [EV.ptr 0 [], EV.ptr 1 [], EV.ptr 2 [], EV.int IntKind.i64 x0], [some (EV.arr IntKind.u64 6 x1), some (EV.arr IntKind.u64 6 x2), some (EV.arr IntKind.u64 6 x3)] => ∃ n, zde.l2 (fun y0 y1 => K (.exit 0) [EV.ptr 0 [], EV.ptr 1 []] [some (EV.arr IntKind.u64 6 y0), some (EV.arr IntKind.u64 6 y1)]) n x0 x1 x2 x3
  | _, _ => False⟩
def zde.d (a0 : Nat → Int) (a1 : Nat → Int) (K : (Nat → Int) → Prop) : Prop :=
  ∃ n, zde.l2 (fun y0 y1 => K y0) n 0 a0 a1 fun x => 0
noncomputable def zde := shut zde.d
theorem zde.is : zde = zde.d := shut_is _
def zdf.d (a0 : Nat → Int) (a1 : Int) (K : Bool → Prop) : Prop :=
  br (leI 0 a1) (br (ltI a1 384) (gd (leI 0 (yaQ IntKind.i64 a1 64) && ltI (yaQ IntKind.i64 a1 64) 6) (gd (!ltI (cvI IntKind.u64 (ybv IntKind.i64 a1 64)) 0) (K (eqI (yfL IntKind.u64 (ya7 IntKind.u64 (a0 (Int.toNat (yaQ IntKind.i64 a1 64))) (cvI IntKind.u64 (ybv IntKind.i64 a1 64))) 1) 1)))) (K false)) (K false)
noncomputable def zdf := shut zdf.d
theorem zdf.is : zdf = zdf.d := shut_is _
def zdh.l2.step (again : Int → (Nat → Int) → Prop) (k0 : Int → Prop) (k1 : Prop) (x0 : Int) (x1 : Nat → Int) : Prop :=
  br (leI 0 x0) (gd (leI 0 x0 && ltI x0 6) (br (!eqI (x1 (Int.toNat x0)) 0) (gd (leI 0 x0 && ltI x0 6) (zds (x1 (Int.toNat x0)) fun y0 => k0 (yaj IntKind.i64 (ya0 IntKind.i64 64 x0) y0))) (again (yae IntKind.i64 x0 1) x1))) k1
def zdh.l2 (k0 : Int → Prop) (k1 : Prop) : Nat → Int → (Nat → Int) → Prop
  | 0 => fun _ _ => False
  | n + 1 => zdh.l2.step (zdh.l2 k0 k1 n) k0 k1
def zdh.l2.entry : yay := ⟨LV.mk 0 [(0, 0)] 4 0 false, 0, 19, fun vs H K => match vs, H with
  | [EV.ptr 0 [], EV.int IntKind.i64 x0], [some (EV.arr IntKind.u64 6 x1)] => ∃ n, zdh.l2 (fun y0 => K .ret [EV.int IntKind.i64 y0] []) (K (.exit 0) [] []) n x0 x1
  | _, _ => False⟩
def zdh.d (a0 : Nat → Int) (K : Int → Prop) : Prop :=
  ∃ n, zdh.l2 (fun y0 => K y0) (K 0) n 5 a0
noncomputable def zdh := shut zdh.d
theorem zdh.is : zdh = zdh.d := shut_is _
def zdr.d (a0 : Int) (K : Int → Prop) : Prop :=
  K (ym6 (yhm a0 0) 384)
noncomputable def zdr := shut zdr.d
theorem zdr.is : zdr = zdr.d := shut_is _
def zdg.l5.step (again : Bool → Int → Int → Int → (Nat → Int) → (Nat → Int) → Prop) (k0 : Bool → (Nat → Int) → Prop) (x0 : Bool) (x1 : Int) (x2 : Int) (x3 : Int) (x4 : Nat → Int) (x5 : Nat → Int) : Prop :=
  br (leI x1 x3) (gd (leI 0 (yae IntKind.i64 x3 x1) && ltI (yae IntKind.i64 x3 x1) 6) (gd (!ltI x2 0) (gd (leI 0 x3 && ltI x3 6) (br (ltI x1 x3) (gd (leI 0 x3 && ltI x3 6) (gd (leI 0 (yae IntKind.i64 (yae IntKind.i64 x3 x1) 1) && ltI (yae IntKind.i64 (yae IntKind.i64 x3 x1) 1) 6) (gd (!ltI (yae IntKind.u64 64 x2) 0) (gd (leI 0 x3 && ltI x3 6) (again x0 x1 x2 (yae IntKind.i64 x3 1) x4 (upd (upd x5 (Int.toNat x3) (ybR IntKind.u64 (x4 (Int.toNat (yae IntKind.i64 x3 x1))) x2)) (Int.toNat x3) (orI IntKind.u64 (upd x5 (Int.toNat x3) (ybR IntKind.u64 (x4 (Int.toNat (yae IntKind.i64 x3 x1))) x2) (Int.toNat x3)) (ya7 IntKind.u64 (x4 (Int.toNat (yae IntKind.i64 (yae IntKind.i64 x3 x1) 1))) (yae IntKind.u64 64 x2))))))))) (again x0 x1 x2 (yae IntKind.i64 x3 1) x4 (upd x5 (Int.toNat x3) (ybR IntKind.u64 (x4 (Int.toNat (yae IntKind.i64 x3 x1))) x2))))))) (k0 x0 x5)
def zdg.l5 (k0 : Bool → (Nat → Int) → Prop) : Nat → Bool → Int → Int → Int → (Nat → Int) → (Nat → Int) → Prop
  | 0 => fun _ _ _ _ _ _ => False
  | n + 1 => zdg.l5.step (zdg.l5 k0 n) k0
def zdg.l5.entry : yay := ⟨LV.mk 48 [(0, 48)] 48 0 false, 0, 59, fun vs H K => match vs, H with
  | [EV.ptr 0 [], EV.ptr 1 [], EV.bool x0, EV.int IntKind.i64 x1, EV.int IntKind.u64 x2, EV.int IntKind.i64 x3], [some (EV.arr IntKind.u64 6 x4), some (EV.arr IntKind.u64 6 x5)] => ∃ n, zdg.l5 (fun y0 y1 => K (.exit 0) [EV.ptr 0 [], EV.bool y0] [some (EV.arr IntKind.u64 6 y1)]) n x0 x1 x2 x3 x4 x5
  | _, _ => False⟩
def zdg.d (a0 : Nat → Int) (a1 : Int) (K : (Nat → Int) → Bool → Prop) : Prop :=
  zdr a1 fun y0 => zdh a0 fun y0_1 => br (ltI 384 (yaj IntKind.i64 y0_1 y0)) (∃ n, zdg.l5 (fun y0 y1 => K y1 y0) n (!eqN 6 a0 fun x => 0) (yaQ IntKind.i64 y0 64) (cvI IntKind.u64 (ybv IntKind.i64 y0 64)) 5 a0 fun x => 0) (∃ n, zdg.l5 (fun y0 y1 => K y1 y0) n false (yaQ IntKind.i64 y0 64) (cvI IntKind.u64 (ybv IntKind.i64 y0 64)) 5 a0 fun x => 0)
noncomputable def zdg := shut zdg.d
theorem zdg.is : zdg = zdg.d := shut_is _
def zdi.l2.step (again : (Nat → Int) → Int → Prop) (k0 : Int → Prop) (k1 : Prop) (x0 : Nat → Int) (x1 : Int) : Prop :=
  br (ltI x1 6) (gd (leI 0 x1 && ltI x1 6) (br (!eqI (x0 (Int.toNat x1)) 0) (zdt (x0 (Int.toNat x1)) fun y0 => k0 (yaj IntKind.i64 (ya0 IntKind.i64 64 x1) y0)) (again x0 (yaj IntKind.i64 x1 1)))) k1
def zdi.l2 (k0 : Int → Prop) (k1 : Prop) : Nat → (Nat → Int) → Int → Prop
  | 0 => fun _ _ => False
  | n + 1 => zdi.l2.step (zdi.l2 k0 k1 n) k0 k1
def zdi.l2.entry : yay := ⟨LV.mk 0 [(0, 0)] 4 0 false, 0, 18, fun vs H K => match vs, H with
  | [EV.arr IntKind.u64 6 x0, EV.int IntKind.i64 x1], [] => ∃ n, zdi.l2 (fun y0 => K .ret [EV.int IntKind.i64 y0] []) (K (.exit 0) [] []) n x0 x1
  | _, _ => False⟩
def zdi.d (a0 : Nat → Int) (K : Int → Prop) : Prop :=
  ∃ n, zdi.l2 (fun y0 => K y0) (K 384) n a0 0
noncomputable def zdi := shut zdi.d
theorem zdi.is : zdi = zdi.d := shut_is _
def zdj.l4.step (again : Int → Int → (Nat → Int) → (Nat → Int) → Prop) (k0 : (Nat → Int) → (Nat → Int) → Prop) (x0 : Int) (x1 : Int) (x2 : Nat → Int) (x3 : Nat → Int) : Prop :=
  br (ltI x1 6) (zdu (yae IntKind.i64 x0 (ya0 IntKind.i64 64 x1)) fun y0 => gd (leI 0 x1 && ltI x1 6) (again x0 (yaj IntKind.i64 x1 1) x2 (upd x3 (Int.toNat x1) y0))) (k0 x2 x3)
def zdj.l4 (k0 : (Nat → Int) → (Nat → Int) → Prop) : Nat → Int → Int → (Nat → Int) → (Nat → Int) → Prop
  | 0 => fun _ _ _ _ => False
  | n + 1 => zdj.l4.step (zdj.l4 k0 n) k0
def zdj.l4.entry : yay := ⟨LV.mk 12 [(0, 12)] 4 0 false, 0, 19, fun vs H K => match vs, H with
  | [EV.int IntKind.i64 x0, EV.ptr 0 [], EV.ptr 1 [], EV.int IntKind.i64 x1], [some (EV.arr IntKind.u64 6 x2), some (EV.arr IntKind.u64 6 x3)] => ∃ n, zdj.l4 (fun y0 y1 => K (.exit 0) [EV.ptr 0 [], EV.ptr 1 []] [some (EV.arr IntKind.u64 6 y0), some (EV.arr IntKind.u64 6 y1)]) n x0 x1 x2 x3
  | _, _ => False⟩
def zdj.d (a0 : Int) (K : (Nat → Int) → Prop) : Prop :=
  zdr a0 fun y0 => ∃ n, zdj.l4 (fun y0 y1 => K y1) n y0 0 (fun x => 0) fun x => 0
noncomputable def zdj := shut zdj.d
theorem zdj.is : zdj = zdj.d := shut_is _
def zdk.d (a0 : Int) (K : (Nat → Int) → Prop) : Prop :=
  K (upd (fun x => 0) 0 a0)
noncomputable def zdk := shut zdk.d
theorem zdk.is : zdk = zdk.d := shut_is _
def zdl.d (a0_0 : Int) (a0_1 : Int) (K : (Nat → Int) → Prop) : Prop :=
  K (upd (upd (fun x => 0) 0 a0_1) 1 a0_0)
noncomputable def zdl := shut zdl.d
theorem zdl.is : zdl = zdl.d := shut_is _
def zdm.l2.step (again : Int → (Nat → Int) → (Nat → Int) → (Nat → Int) → Prop) (k0 : (Nat → Int) → (Nat → Int) → Prop) (x0 : Int) (x1 : Nat → Int) (x2 : Nat → Int) (x3 : Nat → Int) : Prop :=
  br (ltI x0 6) (gd (leI 0 x0 && ltI x0 6) (gd (leI 0 x0 && ltI x0 6) (gd (leI 0 x0 && ltI x0 6) (again (yaj IntKind.i64 x0 1) (upd x1 (Int.toNat x0) (orI IntKind.u64 (x1 (Int.toNat x0)) (x2 (Int.toNat x0)))) x2 x3)))) (k0 x1 x3)
def zdm.l2 (k0 : (Nat → Int) → (Nat → Int) → Prop) : Nat → Int → (Nat → Int) → (Nat → Int) → (Nat → Int) → Prop
  | 0 => fun _ _ _ _ => False
  | n + 1 => zdm.l2.step (zdm.l2 k0 n) k0
def zdm.l2.entry : yay := ⟨LV.mk 20 [(0, 20)] 16 0 false, 0, 19, fun vs H K => match vs, H with
  | [EV.ptr 0 [], EV.ptr 1 [], EV.ptr 2 [], EV.int IntKind.i64 x0], [some (EV.arr IntKind.u64 6 x1), some (EV.arr IntKind.u64 6 x2), some (EV.arr IntKind.u64 6 x3)] => ∃ n, zdm.l2 (fun y0 y1 => K (.exit 0) [EV.ptr 0 [], EV.ptr 1 []] [some (EV.arr IntKind.u64 6 y0), some (EV.arr IntKind.u64 6 y1)]) n x0 x1 x2 x3
  | _, _ => False⟩
def zdm.d (a0 : Nat → Int) (a1 : Nat → Int) (K : (Nat → Int) → Prop) : Prop :=
  ∃ n, zdm.l2 (fun y0 y1 => K y0) n 0 a0 a1 fun x => 0
noncomputable def zdm := shut zdm.d
theorem zdm.is : zdm = zdm.d := shut_is _
def zdn.l5.step (again : List UInt8 → Int → (Nat → Int) → (Nat → Int) → Prop) (k0 : Int → (Nat → Int) → Prop) (k1 : (Nat → Int) → (Nat → Int) → Prop) (x0 : List UInt8) (x1 : Int) (x2 : Nat → Int) (x3 : Nat → Int) : Prop :=
  br (ltI x1 ↑(List.length x0)) (gd (leI 0 x1 && ltI x1 ↑(List.length x0)) (br (leI 48 (yar x0 (Int.toNat x1))) (br (leI (yar x0 (Int.toNat x1)) 57) (gd (leI 0 (yaQ IntKind.i64 (yae IntKind.i64 (yae IntKind.i64 (↑(List.length x0)) 1) x1) 16) && ltI (yaQ IntKind.i64 (yae IntKind.i64 (yae IntKind.i64 (↑(List.length x0)) 1) x1) 16) 6) (gd (!ltI (cvI IntKind.u64 (ya0 IntKind.i64 4 (ybv IntKind.i64 (yae IntKind.i64 (yae IntKind.i64 (↑(List.length x0)) 1) x1) 16))) 0) (gd (leI 0 (yaQ IntKind.i64 (yae IntKind.i64 (yae IntKind.i64 (↑(List.length x0)) 1) x1) 16) && ltI (yaQ IntKind.i64 (yae IntKind.i64 (yae IntKind.i64 (↑(List.length x0)) 1) x1) 16) 6) (again x0 (yaj IntKind.i64 x1 1) x2 (upd x3 (Int.toNat (yaQ IntKind.i64 (yae IntKind.i64 (yae IntKind.i64 (↑(List.length x0)) 1) x1) 16)) (orI IntKind.u64 (x3 (Int.toNat (yaQ IntKind.i64 (yae IntKind.i64 (yae IntKind.i64 (↑(List.length x0)) 1) x1) 16))) (ybR IntKind.u64 (cvI IntKind.u64 (yae IntKind.u8 (yar x0 (Int.toNat x1)) 48)) (cvI IntKind.u64 (ya0 IntKind.i64 4 (ybv IntKind.i64 (yae IntKind.i64 (yae IntKind.i64 (↑(List.length x0)) 1) x1) 16)))))))))) (br (leI 97 (yar x0 (Int.toNat x1))) (br (leI (yar x0 (Int.toNat x1)) 102) (gd (leI 0 (yaQ IntKind.i64 (yae IntKind.i64 (yae IntKind.i64 (↑(List.length x0)) 1) x1) 16) && ltI (yaQ IntKind.i64 (yae IntKind.i64 (yae IntKind.i64 (↑(List.length x0)) 1) x1) 16) 6) (gd (!ltI (cvI IntKind.u64 (ya0 IntKind.i64 4 (ybv IntKind.i64 (yae IntKind.i64 (yae IntKind.i64 (↑(List.length x0)) 1) x1) 16))) 0) (gd (leI 0 (yaQ IntKind.i64 (yae IntKind.i64 (yae IntKind.i64 (↑(List.length x0)) 1) x1) 16) && ltI (yaQ IntKind.i64 (yae IntKind.i64 (yae IntKind.i64 (↑(List.length x0)) 1) x1) 16) 6) (again x0 (yaj IntKind.i64 x1 1) x2 (upd x3 (Int.toNat (yaQ IntKind.i64 (yae IntKind.i64 (yae IntKind.i64 (↑(List.length x0)) 1) x1) 16)) (orI IntKind.u64 (x3 (Int.toNat (yaQ IntKind.i64 (yae IntKind.i64 (yae IntKind.i64 (↑(List.length x0)) 1) x1) 16))) (ybR IntKind.u64 (yaj IntKind.u64 (cvI IntKind.u64 (yae IntKind.u8 (yar x0 (Int.toNat x1)) 97)) 10) (cvI IntKind.u64 (ya0 IntKind.i64 4 (ybv IntKind.i64 (yae IntKind.i64 (yae IntKind.i64 (↑(List.length x0)) 1) x1) 16)))))))))) (k0 20 fun x => 0)) (k0 20 fun x => 0))) (br (leI 97 (yar x0 (Int.toNat x1))) (br (leI (yar x0 (Int.toNat x1)) 102) (gd (leI 0 (yaQ IntKind.i64 (yae IntKind.i64 (yae IntKind.i64 (↑(List.length x0)) 1) x1) 16) && ltI (yaQ IntKind.i64 (yae IntKind.i64 (yae IntKind.i64 (↑(List.length x0)) 1) x1) 16) 6) (gd (!ltI (cvI IntKind.u64 (ya0 IntKind.i64 4 (ybv IntKind.i64 (yae IntKind.i64 (yae IntKind.i64 (↑(List.length x0)) 1) x1) 16))) 0) (gd (leI 0 (yaQ IntKind.i64 (yae IntKind.i64 (yae IntKind.i64 (↑(List.length x0)) 1) x1) 16) && ltI (yaQ IntKind.i64 (yae IntKind.i64 (yae IntKind.i64 (↑(List.length x0)) 1) x1) 16) 6) (again x0 (yaj IntKind.i64 x1 1) x2 (upd x3 (Int.toNat (yaQ IntKind.i64 (yae IntKind.i64 (yae IntKind.i64 (↑(List.length x0)) 1) x1) 16)) (orI IntKind.u64 (x3 (Int.toNat (yaQ IntKind.i64 (yae IntKind.i64 (yae IntKind.i64 (↑(List.length x0)) 1) x1) 16))) (ybR IntKind.u64 (yaj IntKind.u64 (cvI IntKind.u64 (yae IntKind.u8 (yar x0 (Int.toNat x1)) 97)) 10) (cvI IntKind.u64 (ya0 IntKind.i64 4 (ybv IntKind.i64 (yae IntKind.i64 (yae IntKind.i64 (↑(List.length x0)) 1) x1) 16)))))))))) (k0 20 fun x => 0)) (k0 20 fun x => 0)))) (k1 x2 x3)
def zdn.l5 (k0 : Int → (Nat → Int) → Prop) (k1 : (Nat → Int) → (Nat → Int) → Prop) : Nat → List UInt8 → Int → (Nat → Int) → (Nat → Int) → Prop
  | 0 => fun _ _ _ _ => False
  | n + 1 => zdn.l5.step (zdn.l5 k0 k1 n) k0 k1
def zdn.l5.entry : yay := ⟨LV.mk 20 [(0, 20)] 12 0 false, 0, 77, fun vs H K => match vs, H with
  | [EV.str x0, EV.ptr 0 [], EV.ptr 1 [], EV.int IntKind.i64 x1], [some (EV.arr IntKind.u64 6 x2), some (EV.arr IntKind.u64 6 x3)] => ∃ n, zdn.l5 (fun y0 y1 => K .ret [EV.ptr 0 [], EV.int IntKind.i64 y0] [some (EV.arr IntKind.u64 6 y1)]) (fun y0 y1 => K (.exit 0) [EV.ptr 0 [], EV.ptr 1 []] [some (EV.arr IntKind.u64 6 y0), some (EV.arr IntKind.u64 6 y1)]) n x0 x1 x2 x3
  | _, _ => False⟩
def zdn.d (a0 : List UInt8) (K : (Nat → Int) → Int → Prop) : Prop :=
  br (ltI (↑(List.length a0)) 1) (K (fun x => 0) 20) (br (ltI 96 ↑(List.length a0)) (K (fun x => 0) 20) (br (ltI 1 ↑(List.length a0)) (gd (ltI 0 ↑(List.length a0)) (br (eqI (yar a0 0) 48) (K (fun x => 0) 20) (∃ n, zdn.l5 (fun y0 y1 => K y1 y0) (fun y0 y1 => K y1 0) n a0 0 (fun x => 0) fun x => 0))) (∃ n, zdn.l5 (fun y0 y1 => K y1 y0) (fun y0 y1 => K y1 0) n a0 0 (fun x => 0) fun x => 0)))
noncomputable def zdn := shut zdn.d
theorem zdn.is : zdn = zdn.d := shut_is _
def zdo.l5.step (again : Bool → Int → Int → Int → (Nat → Int) → (Nat → Int) → Prop) (k0 : Bool → (Nat → Int) → Prop) (x0 : Bool) (x1 : Int) (x2 : Int) (x3 : Int) (x4 : Nat → Int) (x5 : Nat → Int) : Prop :=
  br (ltI (yaj IntKind.i64 x3 x1) 6) (gd (leI 0 (yaj IntKind.i64 x3 x1) && ltI (yaj IntKind.i64 x3 x1) 6) (gd (!ltI x2 0) (gd (leI 0 x3 && ltI x3 6) (br (ltI (yaj IntKind.i64 x3 x1) 5) (gd (leI 0 x3 && ltI x3 6) (gd (leI 0 (yaj IntKind.i64 (yaj IntKind.i64 x3 x1) 1) && ltI (yaj IntKind.i64 (yaj IntKind.i64 x3 x1) 1) 6) (gd (!ltI (yae IntKind.u64 64 x2) 0) (gd (leI 0 x3 && ltI x3 6) (again x0 x1 x2 (yaj IntKind.i64 x3 1) x4 (upd (upd x5 (Int.toNat x3) (ya7 IntKind.u64 (x4 (Int.toNat (yaj IntKind.i64 x3 x1))) x2)) (Int.toNat x3) (orI IntKind.u64 (upd x5 (Int.toNat x3) (ya7 IntKind.u64 (x4 (Int.toNat (yaj IntKind.i64 x3 x1))) x2) (Int.toNat x3)) (ybR IntKind.u64 (x4 (Int.toNat (yaj IntKind.i64 (yaj IntKind.i64 x3 x1) 1))) (yae IntKind.u64 64 x2))))))))) (again x0 x1 x2 (yaj IntKind.i64 x3 1) x4 (upd x5 (Int.toNat x3) (ya7 IntKind.u64 (x4 (Int.toNat (yaj IntKind.i64 x3 x1))) x2))))))) (k0 x0 x5)
def zdo.l5 (k0 : Bool → (Nat → Int) → Prop) : Nat → Bool → Int → Int → Int → (Nat → Int) → (Nat → Int) → Prop
  | 0 => fun _ _ _ _ _ _ => False
  | n + 1 => zdo.l5.step (zdo.l5 k0 n) k0
def zdo.l5.entry : yay := ⟨LV.mk 48 [(0, 48)] 48 0 false, 0, 60, fun vs H K => match vs, H with
  | [EV.ptr 0 [], EV.ptr 1 [], EV.bool x0, EV.int IntKind.i64 x1, EV.int IntKind.u64 x2, EV.int IntKind.i64 x3], [some (EV.arr IntKind.u64 6 x4), some (EV.arr IntKind.u64 6 x5)] => ∃ n, zdo.l5 (fun y0 y1 => K (.exit 0) [EV.ptr 0 [], EV.bool y0] [some (EV.arr IntKind.u64 6 y1)]) n x0 x1 x2 x3 x4 x5
  | _, _ => False⟩
def zdo.d (a0 : Nat → Int) (a1 : Int) (K : (Nat → Int) → Bool → Prop) : Prop :=
  zdr a1 fun y0 => br (!eqN 6 a0 fun x => 0) (zdi a0 fun y0_1 => ∃ n, zdo.l5 (fun y0 y1 => K y1 y0) n (ltI y0_1 y0) (yaQ IntKind.i64 y0 64) (cvI IntKind.u64 (ybv IntKind.i64 y0 64)) 0 a0 fun x => 0) (∃ n, zdo.l5 (fun y0 y1 => K y1 y0) n false (yaQ IntKind.i64 y0 64) (cvI IntKind.u64 (ybv IntKind.i64 y0 64)) 0 a0 fun x => 0)
noncomputable def zdo := shut zdo.d
theorem zdo.is : zdo = zdo.d := shut_is _
def zdp.l4.step (again : Int → Nat → Nat → Int → Int → (Nat → Int) → Nat → (Nat → Int) → Prop) (k0 : Nat → Nat → Nat → (Nat → Int) → Prop) (x0 : Int) (x1 : Nat) (x2 : Nat) (x3 : Int) (x4 : Int) (x5 : Nat → Int) (x6 : Nat) (x7 : Nat → Int) : Prop :=
  br (ltI x4 x3) (gd (leI 0 (yaQ IntKind.i64 (yae IntKind.i64 (yae IntKind.i64 x0 1) x4) 16) && ltI (yaQ IntKind.i64 (yae IntKind.i64 (yae IntKind.i64 x0 1) x4) 16) 6) (gd (!ltI (cvI IntKind.u64 (ya0 IntKind.i64 4 (ybv IntKind.i64 (yae IntKind.i64 (yae IntKind.i64 x0 1) x4) 16))) 0) (gd (leI 0 (yfL IntKind.u64 (ya7 IntKind.u64 (x5 (Int.toNat (yaQ IntKind.i64 (yae IntKind.i64 (yae IntKind.i64 x0 1) x4) 16))) (cvI IntKind.u64 (ya0 IntKind.i64 4 (ybv IntKind.i64 (yae IntKind.i64 (yae IntKind.i64 x0 1) x4) 16)))) 15) && ltI (yfL IntKind.u64 (ya7 IntKind.u64 (x5 (Int.toNat (yaQ IntKind.i64 (yae IntKind.i64 (yae IntKind.i64 x0 1) x4) 16))) (cvI IntKind.u64 (ya0 IntKind.i64 4 (ybv IntKind.i64 (yae IntKind.i64 (yae IntKind.i64 x0 1) x4) 16)))) 15) 16) (gd (leI 0 x4 && ltI x4 ↑x1) (again x0 x1 x2 x3 (yaj IntKind.i64 x4 1) x5 x6 (upd x7 (Int.toNat x4) (yar [48, 49, 50, 51, 52, 53, 54, 55, 56, 57, 97, 98, 99, 100, 101, 102] (Int.toNat (yfL IntKind.u64 (ya7 IntKind.u64 (x5 (Int.toNat (yaQ IntKind.i64 (yae IntKind.i64 (yae IntKind.i64 x0 1) x4) 16))) (cvI IntKind.u64 (ya0 IntKind.i64 4 (ybv IntKind.i64 (yae IntKind.i64 (yae IntKind.i64 x0 1) x4) 16)))) 15))))))))) (k0 x1 x2 x6 x7)
def zdp.l4 (k0 : Nat → Nat → Nat → (Nat → Int) → Prop) : Nat → Int → Nat → Nat → Int → Int → (Nat → Int) → Nat → (Nat → Int) → Prop
  | 0 => fun _ _ _ _ _ _ _ _ => False
  | n + 1 => zdp.l4.step (zdp.l4 k0 n) k0
def zdp.l4.entry : yay := ⟨LV.mk 16 [(0, 16)] 4 0 false, 0, 40, fun vs H K => match vs, H with
  | [EV.ptr 0 [], EV.int IntKind.i64 x0, EV.slice 1 0 x1 (some x2) 1, EV.int IntKind.i64 x3, EV.int IntKind.i64 x4], [some (EV.arr IntKind.u64 6 x5), some (EV.arr IntKind.u8 x6 x7)] => ∃ n, zdp.l4 (fun y0 y1 y2 y3 => K (.exit 0) [EV.slice 0 0 y0 (some y1) 1] [some (EV.arr IntKind.u8 y2 y3)]) n x0 x1 x2 x3 x4 x5 x6 x7
  | _, _ => False⟩
def zdp.d (a0 : Nat → Int) (K : List UInt8 → Prop) : Prop :=
  zdh a0 fun y0 => gd (leI 0 (yhm 1 (yaQ IntKind.i64 (yaj IntKind.i64 y0 3) 4)) && (leI (yhm 1 (yaQ IntKind.i64 (yaj IntKind.i64 y0 3) 4)) (yhm 1 (yaQ IntKind.i64 (yaj IntKind.i64 y0 3) 4)) && leI (yhm 1 (yaQ IntKind.i64 (yaj IntKind.i64 y0 3) 4)) 1099511627776)) (∃ n, zdp.l4 (fun y0 y1 y2 y3 => K (ybY y0 y3)) n (yhm 1 (yaQ IntKind.i64 (yaj IntKind.i64 y0 3) 4)) (Int.toNat (yhm 1 (yaQ IntKind.i64 (yaj IntKind.i64 y0 3) 4))) (Int.toNat (yhm 1 (yaQ IntKind.i64 (yaj IntKind.i64 y0 3) 4))) (↑(Int.toNat (yhm 1 (yaQ IntKind.i64 (yaj IntKind.i64 y0 3) 4)))) 0 a0 (Int.toNat (yhm 1 (yaQ IntKind.i64 (yaj IntKind.i64 y0 3) 4))) fun x => 0)
noncomputable def zdp := shut zdp.d
theorem zdp.is : zdp = zdp.d := shut_is _
def zdq.d (a0 : Nat → Int) (K : Int → Int → Bool → Prop) : Prop :=
  br (!eqI (orI IntKind.u64 (orI IntKind.u64 (orI IntKind.u64 (a0 2) (a0 3)) (a0 4)) (a0 5)) 0) (K 0 0 false) (K (a0 1) (a0 0) true)
noncomputable def zdq := shut zdq.d
theorem zdq.is : zdq = zdq.d := shut_is _
end Go.Ev.S

/- The functions as the evaluator has them: what each comes to. -/
set_option maxRecDepth 100000
set_option linter.unusedVariables false
set_option linter.unusedSimpArgs false
namespace Go.Ev.S
open Go Go.Ev
end Go.Ev.S

/- Numbers in decimal digits: what the library's two functions come to. -/
set_option linter.unusedVariables false
set_option linter.unusedSimpArgs false
namespace Go.Ev.S
open Go Go.Ev
def zdb.d (a0 : Int) (K : List UInt8 → Prop) : Prop := (-9223372036854775808 ≤ a0 ∧ a0 ≤ 9223372036854775807) ∧ K (Go.Lib.itoa a0)
noncomputable def zdb := shut zdb.d
theorem zdb.is : zdb = zdb.d := shut_is _
def zda.d (a0 : List UInt8) (K : Int → Prop) (K1 : Int → Prop) : Prop := a0.length ≤ 281474976710656 ∧
  match Go.Lib.atoiAll a0 with
  | .ok v => K v
  | .range => K1 (Go.Lib.atoiSat a0)
  | _ => K1 0
noncomputable def zda := shut zda.d
theorem zda.is : zda = zda.d := shut_is _
def zaj.d (a0 : List UInt8) (a1 : Int) (K : Int → Prop) : Prop := K (Go.Lib.indexByte a0 a1.toNat.toUInt8)
noncomputable def zaj := shut zaj.d
theorem zaj.is : zaj = zaj.d := shut_is _
end Go.Ev.S

/- The functions as the evaluator has them: what each comes to. -/
set_option maxRecDepth 100000
set_option linter.unusedVariables false
set_option linter.unusedSimpArgs false
namespace Go.Ev.S
open Go Go.Ev
end Go.Ev.S

/- The functions as the evaluator has them: what each comes to. -/
set_option maxRecDepth 100000
set_option linter.unusedVariables false
set_option linter.unusedSimpArgs false
namespace Go.Ev.S
open Go Go.Ev
def zco.d (a0 : Int) (K : Int → Prop) : Prop :=
  br (ltI 3 a0) (K 2) (K 0)
noncomputable def zco := shut zco.d
theorem zco.is : zco = zco.d := shut_is _
def zcy.d (a0 : Int) (K : Int → Int → Int → List UInt8 → Prop) : Prop :=
  br (leI 4 (cvI IntKind.i64 a0)) (K 0 0 0 []) (br (eqI a0 0) (br (eqI a0 0) (br (eqI a0 0) (br (eqI a0 0) (K 32 24 127 [115]) (br (eqI a0 1) (K 32 24 127 [100]) (br (eqI a0 2) (K 32 24 127 [104]) (br (eqI a0 3) (K 32 24 127 [113]) False)))) (br (eqI a0 1) (br (eqI a0 0) (K 32 24 1023 [115]) (br (eqI a0 1) (K 32 24 1023 [100]) (br (eqI a0 2) (K 32 24 1023 [104]) (br (eqI a0 3) (K 32 24 1023 [113]) False)))) (br (eqI a0 2) (br (eqI a0 0) (K 32 24 15 [115]) (br (eqI a0 1) (K 32 24 15 [100]) (br (eqI a0 2) (K 32 24 15 [104]) (br (eqI a0 3) (K 32 24 15 [113]) False)))) (br (eqI a0 3) (br (eqI a0 0) (K 32 24 16383 [115]) (br (eqI a0 1) (K 32 24 16383 [100]) (br (eqI a0 2) (K 32 24 16383 [104]) (br (eqI a0 3) (K 32 24 16383 [113]) False)))) False)))) (br (eqI a0 1) (br (eqI a0 0) (br (eqI a0 0) (K 32 53 127 [115]) (br (eqI a0 1) (K 32 53 127 [100]) (br (eqI a0 2) (K 32 53 127 [104]) (br (eqI a0 3) (K 32 53 127 [113]) False)))) (br (eqI a0 1) (br (eqI a0 0) (K 32 53 1023 [115]) (br (eqI a0 1) (K 32 53 1023 [100]) (br (eqI a0 2) (K 32 53 1023 [104]) (br (eqI a0 3) (K 32 53 1023 [113]) False)))) (br (eqI a0 2) (br (eqI a0 0) (K 32 53 15 [115]) (br (eqI a0 1) (K 32 53 15 [100]) (br (eqI a0 2) (K 32 53 15 [104]) (br (eqI a0 3) (K 32 53 15 [113]) False)))) (br (eqI a0 3) (br (eqI a0 0) (K 32 53 16383 [115]) (br (eqI a0 1) (K 32 53 16383 [100]) (br (eqI a0 2) (K 32 53 16383 [104]) (br (eqI a0 3) (K 32 53 16383 [113]) False)))) False)))) (br (eqI a0 2) (br (eqI a0 0) (br (eqI a0 0) (K 32 11 127 [115]) (br (eqI a0 1) (K 32 11 127 [100]) (br (eqI a0 2) (K 32 11 127 [104]) (br (eqI a0 3) (K 32 11 127 [113]) False)))) (br (eqI a0 1) (br (eqI a0 0) (K 32 11 1023 [115]) (br (eqI a0 1) (K 32 11 1023 [100]) (br (eqI a0 2) (K 32 11 1023 [104]) (br (eqI a0 3) (K 32 11 1023 [113]) False)))) (br (eqI a0 2) (br (eqI a0 0) (K 32 11 15 [115]) (br (eqI a0 1) (K 32 11 15 [100]) (br (eqI a0 2) (K 32 11 15 [104]) (br (eqI a0 3) (K 32 11 15 [113]) False)))) (br (eqI a0 3) (br (eqI a0 0) (K 32 11 16383 [115]) (br (eqI a0 1) (K 32 11 16383 [100]) (br (eqI a0 2) (K 32 11 16383 [104]) (br (eqI a0 3) (K 32 11 16383 [113]) False)))) False)))) (br (eqI a0 3) (br (eqI a0 0) (br (eqI a0 0) (K 32 113 127 [115]) (br (eqI a0 1) (K 32 113 127 [100]) (br (eqI a0 2) (K 32 113 127 [104]) (br (eqI a0 3) (K 32 113 127 [113]) False)))) (br (eqI a0 1) (br (eqI a0 0) (K 32 113 1023 [115]) (br (eqI a0 1) (K 32 113 1023 [100]) (br (eqI a0 2) (K 32 113 1023 [104]) (br (eqI a0 3) (K 32 113 1023 [113]) False)))) (br (eqI a0 2) (br (eqI a0 0) (K 32 113 15 [115]) (br (eqI a0 1) (K 32 113 15 [100]) (br (eqI a0 2) (K 32 113 15 [104]) (br (eqI a0 3) (K 32 113 15 [113]) False)))) (br (eqI a0 3) (br (eqI a0 0) (K 32 113 16383 [115]) (br (eqI a0 1) (K 32 113 16383 [100]) (br (eqI a0 2) (K 32 113 16383 [104]) (br (eqI a0 3) (K 32 113 16383 [113]) False)))) False)))) False)))) (br (eqI a0 1) (br (eqI a0 0) (br (eqI a0 0) (br (eqI a0 0) (K 64 24 127 [115]) (br (eqI a0 1) (K 64 24 127 [100]) (br (eqI a0 2) (K 64 24 127 [104]) (br (eqI a0 3) (K 64 24 127 [113]) False)))) (br (eqI a0 1) (br (eqI a0 0) (K 64 24 1023 [115]) (br (eqI a0 1) (K 64 24 1023 [100]) (br (eqI a0 2) (K 64 24 1023 [104]) (br (eqI a0 3) (K 64 24 1023 [113]) False)))) (br (eqI a0 2) (br (eqI a0 0) (K 64 24 15 [115]) (br (eqI a0 1) (K 64 24 15 [100]) (br (eqI a0 2) (K 64 24 15 [104]) (br (eqI a0 3) (K 64 24 15 [113]) False)))) (br (eqI a0 3) (br (eqI a0 0) (K 64 24 16383 [115]) (br (eqI a0 1) (K 64 24 16383 [100]) (br (eqI a0 2) (K 64 24 16383 [104]) (br (eqI a0 3) (K 64 24 16383 [113]) False)))) False)))) (br (eqI a0 1) (br (eqI a0 0) (br (eqI a0 0) (K 64 53 127 [115]) (br (eqI a0 1) (K 64 53 127 [100]) (br (eqI a0 2) (K 64 53 127 [104]) (br (eqI a0 3) (K 64 53 127 [113]) False)))) (br (eqI a0 1) (br (eqI a0 0) (K 64 53 1023 [115]) (br (eqI a0 1) (K 64 53 1023 [100]) (br (eqI a0 2) (K 64 53 1023 [104]) (br (eqI a0 3) (K 64 53 1023 [113]) False)))) (br (eqI a0 2) (br (eqI a0 0) (K 64 53 15 [115]) (br (eqI a0 1) (K 64 53 15 [100]) (br (eqI a0 2) (K 64 53 15 [104]) (br (eqI a0 3) (K 64 53 15 [113]) False)))) (br (eqI a0 3) (br (eqI a0 0) (K 64 53 16383 [115]) (br (eqI a0 1) (K 64 53 16383 [100]) (br (eqI a0 2) (K 64 53 16383 [104]) (br (eqI a0 3) (K 64 53 16383 [113]) False)))) False)))) (br (eqI a0 2) (br (eqI a0 0) (br (eqI a0 0) (K 64 11 127 [115]) (br (eqI a0 1) (K 64 11 127 [100]) (br (eqI a0 2) (K 64 11 127 [104]) (br (eqI a0 3) (K 64 11 127 [113]) False)))) (br (eqI a0 1) (br (eqI a0 0) (K 64 11 1023 [115]) (br (eqI a0 1) (K 64 11 1023 [100]) (br (eqI a0 2) (K 64 11 1023 [104]) (br (eqI a0 3) (K 64 11 1023 [113]) False)))) (br (eqI a0 2) (br (eqI a0 0) (K 64 11 15 [115]) (br (eqI a0 1) (K 64 11 15 [100]) (br (eqI a0 2) (K 64 11 15 [104]) (br (eqI a0 3) (K 64 11 15 [113]) False)))) (br (eqI a0 3) (br (eqI a0 0) (K 64 11 16383 [115]) (br (eqI a0 1) (K 64 11 16383 [100]) (br (eqI a0 2) (K 64 11 16383 [104]) (br (eqI a0 3) (K 64 11 16383 [113]) False)))) False)))) (br (eqI a0 3) (br (eqI a0 0) (br (eqI a0 0) (K 64 113 127 [115]) (br (eqI a0 1) (K 64 113 127 [100]) (br (eqI a0 2) (K 64 113 127 [104]) (br (eqI a0 3) (K 64 113 127 [113]) False)))) (br (eqI a0 1) (br (eqI a0 0) (K 64 113 1023 [115]) (br (eqI a0 1) (K 64 113 1023 [100]) (br (eqI a0 2) (K 64 113 1023 [104]) (br (eqI a0 3) (K 64 113 1023 [113]) False)))) (br (eqI a0 2) (br (eqI a0 0) (K 64 113 15 [115]) (br (eqI a0 1) (K 64 113 15 [100]) (br (eqI a0 2) (K 64 113 15 [104]) (br (eqI a0 3) (K 64 113 15 [113]) False)))) (br (eqI a0 3) (br (eqI a0 0) (K 64 113 16383 [115]) (br (eqI a0 1) (K 64 113 16383 [100]) (br (eqI a0 2) (K 64 113 16383 [104]) (br (eqI a0 3) (K 64 113 16383 [113]) False)))) False)))) False)))) (br (eqI a0 2) (br (eqI a0 0) (br (eqI a0 0) (br (eqI a0 0) (K 16 24 127 [115]) (br (eqI a0 1) (K 16 24 127 [100]) (br (eqI a0 2) (K 16 24 127 [104]) (br (eqI a0 3) (K 16 24 127 [113]) False)))) (br (eqI a0 1) (br (eqI a0 0) (K 16 24 1023 [115]) (br (eqI a0 1) (K 16 24 1023 [100]) (br (eqI a0 2) (K 16 24 1023 [104]) (br (eqI a0 3) (K 16 24 1023 [113]) False)))) (br (eqI a0 2) (br (eqI a0 0) (K 16 24 15 [115]) (br (eqI a0 1) (K 16 24 15 [100]) (br (eqI a0 2) (K 16 24 15 [104]) (br (eqI a0 3) (K 16 24 15 [113]) False)))) (br (eqI a0 3) (br (eqI a0 0) (K 16 24 16383 [115]) (br (eqI a0 1) (K 16 24 16383 [100]) (br (eqI a0 2) (K 16 24 16383 [104]) (br (eqI a0 3) (K 16 24 16383 [113]) False)))) False)))) (br (eqI a0 1) (br (eqI a0 0) (br (eqI a0 0) (K 16 53 127 [115]) (br (eqI a0 1) (K 16 53 127 [100]) (br (eqI a0 2) (K 16 53 127 [104]) (br (eqI a0 3) (K 16 53 127 [113]) False)))) (br (eqI a0 1) (br (eqI a0 0) (K 16 53 1023 [115]) (br (eqI a0 1) (K 16 53 1023 [100]) (br (eqI a0 2) (K 16 53 1023 [104]) (br (eqI a0 3) (K 16 53 1023 [113]) False)))) (br (eqI a0 2) (br (eqI a0 0) (K 16 53 15 [115]) (br (eqI a0 1) (K 16 53 15 [100]) (br (eqI a0 2) (K 16 53 15 [104]) (br (eqI a0 3) (K 16 53 15 [113]) False)))) (br (eqI a0 3) (br (eqI a0 0) (K 16 53 16383 [115]) (br (eqI a0 1) (K 16 53 16383 [100]) (br (eqI a0 2) (K 16 53 16383 [104]) (br (eqI a0 3) (K 16 53 16383 [113]) False)))) False)))) (br (eqI a0 2) (br (eqI a0 0) (br (eqI a0 0) (K 16 11 127 [115]) (br (eqI a0 1) (K 16 11 127 [100]) (br (eqI a0 2) (K 16 11 127 [104]) (br (eqI a0 3) (K 16 11 127 [113]) False)))) (br (eqI a0 1) (br (eqI a0 0) (K 16 11 1023 [115]) (br (eqI a0 1) (K 16 11 1023 [100]) (br (eqI a0 2) (K 16 11 1023 [104]) (br (eqI a0 3) (K 16 11 1023 [113]) False)))) (br (eqI a0 2) (br (eqI a0 0) (K 16 11 15 [115]) (br (eqI a0 1) (K 16 11 15 [100]) (br (eqI a0 2) (K 16 11 15 [104]) (br (eqI a0 3) (K 16 11 15 [113]) False)))) (br (eqI a0 3) (br (eqI a0 0) (K 16 11 16383 [115]) (br (eqI a0 1) (K 16 11 16383 [100]) (br (eqI a0 2) (K 16 11 16383 [104]) (br (eqI a0 3) (K 16 11 16383 [113]) False)))) False)))) (br (eqI a0 3) (br (eqI a0 0) (br (eqI a0 0) (K 16 113 127 [115]) (br (eqI a0 1) (K 16 113 127 [100]) (br (eqI a0 2) (K 16 113 127 [104]) (br (eqI a0 3) (K 16 113 127 [113]) False)))) (br (eqI a0 1) (br (eqI a0 0) (K 16 113 1023 [115]) (br (eqI a0 1) (K 16 113 1023 [100]) (br (eqI a0 2) (K 16 113 1023 [104]) (br (eqI a0 3) (K 16 113 1023 [113]) False)))) (br (eqI a0 2) (br (eqI a0 0) (K 16 113 15 [115]) (br (eqI a0 1) (K 16 113 15 [100]) (br (eqI a0 2) (K 16 113 15 [104]) (br (eqI a0 3) (K 16 113 15 [113]) False)))) (br (eqI a0 3) (br (eqI a0 0) (K 16 113 16383 [115]) (br (eqI a0 1) (K 16 113 16383 [100]) (br (eqI a0 2) (K 16 113 16383 [104]) (br (eqI a0 3) (K 16 113 16383 [113]) False)))) False)))) False)))) (br (eqI a0 3) (br (eqI a0 0) (br (eqI a0 0) (br (eqI a0 0) (K 128 24 127 [115]) (br (eqI a0 1) (K 128 24 127 [100]) (br (eqI a0 2) (K 128 24 127 [104]) (br (eqI a0 3) (K 128 24 127 [113]) False)))) (br (eqI a0 1) (br (eqI a0 0) (K 128 24 1023 [115]) (br (eqI a0 1) (K 128 24 1023 [100]) (br (eqI a0 2) (K 128 24 1023 [104]) (br (eqI a0 3) (K 128 24 1023 [113]) False)))) (br (eqI a0 2) (br (eqI a0 0) (K 128 24 15 [115]) (br (eqI a0 1) (K 128 24 15 [100]) (br (eqI a0 2) (K 128 24 15 [104]) (br (eqI a0 3) (K 128 24 15 [113]) False)))) (br (eqI a0 3) (br (eqI a0 0) (K 128 24 16383 [115]) (br (eqI a0 1) (K 128 24 16383 [100]) (br (eqI a0 2) (K 128 24 16383 [104]) (br (eqI a0 3) (K 128 24 16383 [113]) False)))) False)))) (br (eqI a0 1) (br (eqI a0 0) (br (eqI a0 0) (K 128 53 127 [115]) (br (eqI a0 1) (K 128 53 127 [100]) (br (eqI a0 2) (K 128 53 127 [104]) (br (eqI a0 3) (K 128 53 127 [113]) False)))) (br (eqI a0 1) (br (eqI a0 0) (K 128 53 1023 [115]) (br (eqI a0 1) (K 128 53 1023 [100]) (br (eqI a0 2) (K 128 53 1023 [104]) (br (eqI a0 3) (K 128 53 1023 [113]) False)))) (br (eqI a0 2) (br (eqI a0 0) (K 128 53 15 [115]) (br (eqI a0 1) (K 128 53 15 [100]) (br (eqI a0 2) (K 128 53 15 [104]) (br (eqI a0 3) (K 128 53 15 [113]) False)))) (br (eqI a0 3) (br (eqI a0 0) (K 128 53 16383 [115]) (br (eqI a0 1) (K 128 53 16383 [100]) (br (eqI a0 2) (K 128 53 16383 [104]) (br (eqI a0 3) (K 128 53 16383 [113]) False)))) False)))) (br (eqI a0 2) (br (eqI a0 0) (br (eqI a0 0) (K 128 11 127 [115]) (br (eqI a0 1) (K 128 11 127 [100]) (br (eqI a0 2) (K 128 11 127 [104]) (br (eqI a0 3) (K 128 11 127 [113]) False)))) (br (eqI a0 1) (br (eqI a0 0) (K 128 11 1023 [115]) (br (eqI a0 1) (K 128 11 1023 [100]) (br (eqI a0 2) (K 128 11 1023 [104]) (br (eqI a0 3) (K 128 11 1023 [113]) False)))) (br (eqI a0 2) (br (eqI a0 0) (K 128 11 15 [115]) (br (eqI a0 1) (K 128 11 15 [100]) (br (eqI a0 2) (K 128 11 15 [104]) (br (eqI a0 3) (K 128 11 15 [113]) False)))) (br (eqI a0 3) (br (eqI a0 0) (K 128 11 16383 [115]) (br (eqI a0 1) (K 128 11 16383 [100]) (br (eqI a0 2) (K 128 11 16383 [104]) (br (eqI a0 3) (K 128 11 16383 [113]) False)))) False)))) (br (eqI a0 3) (br (eqI a0 0) (br (eqI a0 0) (K 128 113 127 [115]) (br (eqI a0 1) (K 128 113 127 [100]) (br (eqI a0 2) (K 128 113 127 [104]) (br (eqI a0 3) (K 128 113 127 [113]) False)))) (br (eqI a0 1) (br (eqI a0 0) (K 128 113 1023 [115]) (br (eqI a0 1) (K 128 113 1023 [100]) (br (eqI a0 2) (K 128 113 1023 [104]) (br (eqI a0 3) (K 128 113 1023 [113]) False)))) (br (eqI a0 2) (br (eqI a0 0) (K 128 113 15 [115]) (br (eqI a0 1) (K 128 113 15 [100]) (br (eqI a0 2) (K 128 113 15 [104]) (br (eqI a0 3) (K 128 113 15 [113]) False)))) (br (eqI a0 3) (br (eqI a0 0) (K 128 113 16383 [115]) (br (eqI a0 1) (K 128 113 16383 [100]) (br (eqI a0 2) (K 128 113 16383 [104]) (br (eqI a0 3) (K 128 113 16383 [113]) False)))) False)))) False)))) False))))
noncomputable def zcy := shut zcy.d
theorem zcy.is : zcy = zcy.d := shut_is _
def zcp.d (a0 : Int) (K : Int → Prop) : Prop :=
  zcy a0 fun y0 y1 y2 y3 => K y2
noncomputable def zcp := shut zcp.d
theorem zcp.is : zcp = zcp.d := shut_is _
def zcq.d (a0 : Int) (K : Int → Prop) : Prop :=
  zco a0 fun y0 => br (!eqI y0 0) (K 0) (zcp a0 fun y0 => K (yae IntKind.i64 1 y0))
noncomputable def zcq := shut zcq.d
theorem zcq.is : zcq = zcq.d := shut_is _
def zcu.d (a0 : Int) (K : Int → Prop) : Prop :=
  zcy a0 fun y0 y1 y2 y3 => K y0
noncomputable def zcu := shut zcu.d
theorem zcu.is : zcu = zcu.d := shut_is _
def zcr.d (a0 : Int) (a1_0 : Int) (a1_1 : Int) (K : Bool → Prop) : Prop :=
  br (eqI a0 3) (K true) (br (eqI a0 1) (K (eqI a1_0 0)) (br (eqI a0 0) (br (eqI a0 0) (br (eqI a1_0 0) (zcu a0 fun y0 => gd (!ltI (cvI IntKind.u64 y0) 0) (K (eqI (ya7 IntKind.u64 a1_1 (cvI IntKind.u64 y0)) 0))) (K false)) (K false)) (br (eqI a0 2) (br (eqI a1_0 0) (zcu a0 fun y0 => gd (!ltI (cvI IntKind.u64 y0) 0) (K (eqI (ya7 IntKind.u64 a1_1 (cvI IntKind.u64 y0)) 0))) (K false)) (K false))))
noncomputable def zcr := shut zcr.d
theorem zcr.is : zcr = zcr.d := shut_is _
def zct.d (a0 : Int) (K : Int → Prop) : Prop :=
  zcy a0 fun y0 y1 y2 y3 => K y1
noncomputable def zct := shut zct.d
theorem zct.is : zct = zct.d := shut_is _
def zcw.d (a0 : Int) (a1 : Int) (K : Int → Int → Prop) : Prop :=
  br (leI 64 a1) (gd (!ltI (cvI IntKind.u64 (yae IntKind.i64 a1 64)) 0) (K (ybR IntKind.u64 a0 (cvI IntKind.u64 (yae IntKind.i64 a1 64))) 0)) (gd (!ltI (cvI IntKind.u64 a1) 0) (br (ltI 0 a1) (gd (!ltI (cvI IntKind.u64 (yae IntKind.i64 64 a1)) 0) (K (ya7 IntKind.u64 a0 (cvI IntKind.u64 (yae IntKind.i64 64 a1))) (ybR IntKind.u64 a0 (cvI IntKind.u64 a1)))) (K 0 (ybR IntKind.u64 a0 (cvI IntKind.u64 a1)))))
noncomputable def zcw := shut zcw.d
theorem zcw.is : zcw = zcw.d := shut_is _
def zcx.d (a0 : Int) (a1 : Int) (K : Int → Int → Prop) : Prop :=
  zct a0 fun y0 => zcw (cvI IntKind.u64 a1) (yae IntKind.i64 y0 1) fun y0 y1 => K y0 y1
noncomputable def zcx := shut zcx.d
theorem zcx.is : zcx = zcx.d := shut_is _
def zcz.d (a0 : Int) (a1_0 : Int) (a1_1 : Int) (a2 : Bool) (K : Int → Int → Prop) : Prop :=
  zco a0 fun y0 => br (!eqI y0 0) (K 0 0) (br a2 (zcu a0 fun y0 => zcw 1 (yae IntKind.i64 y0 1) fun y0 y1 => K (orI IntKind.u64 a1_0 y0) (orI IntKind.u64 a1_1 y1)) (K a1_0 a1_1))
noncomputable def zcz := shut zcz.d
theorem zcz.is : zcz = zcz.d := shut_is _
def zcs.d (a0 : Int) (a1 : Bool) (K : Int → Int → Prop) : Prop :=
  zco a0 fun y0 => br (!eqI y0 0) (K 0 0) (zcp a0 fun y0 => zcx a0 (yaj IntKind.i64 (ya0 IntKind.i64 2 y0) 1) fun y0 y1 => zcz a0 y0 y1 a1 fun y0 y1 => K y0 y1)
noncomputable def zcs := shut zcs.d
theorem zcs.is : zcs = zcs.d := shut_is _
def zcv.d (a0 : Int) (a1 : Bool) (K : Int → Int → Prop) : Prop :=
  zcz a0 0 0 a1 fun y0 y1 => K y0 y1
noncomputable def zcv := shut zcv.d
theorem zcv.is : zcv = zcv.d := shut_is _
end Go.Ev.S

/- The functions as the evaluator has them: what each comes to. -/
set_option maxRecDepth 100000
set_option linter.unusedVariables false
set_option linter.unusedSimpArgs false
namespace Go.Ev.S
open Go Go.Ev
def zac.d (a0 : Int) (K : Int → Prop) : Prop :=
  K (yaQ IntKind.i64 (yaj IntKind.i64 a0 16) 8)
noncomputable def zac := shut zac.d
theorem zac.is : zac = zac.d := shut_is _
def zae.l3.step (again : List UInt8 → Int → Int → Prop) (k0 : List UInt8 → Int → Prop) (x0 : List UInt8) (x1 : Int) (x2 : Int) : Prop :=
  br (ltI x2 ↑(List.length x0)) (gd (leI 0 x2 && ltI x2 ↑(List.length x0)) (again x0 (yaj IntKind.u32 (ya0 IntKind.u32 x1 16777619) (cvI IntKind.u32 (yar x0 (Int.toNat x2)))) (yaj IntKind.i64 x2 1))) (k0 x0 x1)
def zae.l3 (k0 : List UInt8 → Int → Prop) : Nat → List UInt8 → Int → Int → Prop
  | 0 => fun _ _ _ => False
  | n + 1 => zae.l3.step (zae.l3 k0 n) k0
def zae.l3.entry : yay := ⟨LV.mk 17 [(0, 17)] 12 0 false, 0, 39, fun vs H K => match vs, H with
  | [EV.str x0, EV.int IntKind.u32 x1, EV.int IntKind.i64 x2], [] => ∃ n, zae.l3 (fun y0 y1 => K (.exit 0) [EV.str y0, EV.int IntKind.u32 y1] []) n x0 x1 x2
  | _, _ => False⟩
def zae.l8.step (again : Int → Int → Int → Int → Prop) (k0 : Int → Int → Prop) (x0 : Int) (x1 : Int) (x2 : Int) (x3 : Int) : Prop :=
  br (ltI 0 x3) (br (!eqI (yfL IntKind.i64 x3 1) 0) (again x0 (ya0 IntKind.u32 x1 x2) (ya0 IntKind.u32 x2 x2) (ya7 IntKind.i64 x3 1)) (again x0 x1 (ya0 IntKind.u32 x2 x2) (ya7 IntKind.i64 x3 1))) (k0 x0 x1)
def zae.l8 (k0 : Int → Int → Prop) : Nat → Int → Int → Int → Int → Prop
  | 0 => fun _ _ _ _ => False
  | n + 1 => zae.l8.step (zae.l8 k0 n) k0
def zae.l8.entry : yay := ⟨LV.mk 80 [(2, 80)] 12 0 false, 0, 39, fun vs H K => match vs, H with
  | [EV.int IntKind.u32 x0, EV.int IntKind.u32 x1, EV.int IntKind.u32 x2, EV.int IntKind.i64 x3], [] => ∃ n, zae.l8 (fun y0 y1 => K (.exit 2) [EV.int IntKind.u32 y0, EV.int IntKind.u32 y1] []) n x0 x1 x2 x3
  | _, _ => False⟩
def zae.d (a0 : List UInt8) (K : Int → Int → Prop) : Prop :=
  ∃ n, zae.l3 (fun y0 y1 => ∃ n, zae.l8 (fun y0 y1 => K y0 y1) n y1 1 16777619 ↑(List.length y0)) n a0 0 0
noncomputable def zae := shut zae.d
theorem zae.is : zae = zae.d := shut_is _
def zad.l5.step (again : List UInt8 → List UInt8 → Int → Int → Int → Int → Int → Prop) (k0 : List UInt8 → List UInt8 → Int → Int → Int → Int → Prop) (x0 : List UInt8) (x1 : List UInt8) (x2 : Int) (x3 : Int) (x4 : Int) (x5 : Int) (x6 : Int) : Prop :=
  br (ltI x6 x4) (gd (leI 0 x6 && ltI x6 ↑(List.length x0)) (again x0 x1 x2 x3 x4 (yaj IntKind.u32 (ya0 IntKind.u32 x5 16777619) (cvI IntKind.u32 (yar x0 (Int.toNat x6)))) (yaj IntKind.i64 x6 1))) (k0 x0 x1 x2 x3 x4 x5)
def zad.l5 (k0 : List UInt8 → List UInt8 → Int → Int → Int → Int → Prop) : Nat → List UInt8 → List UInt8 → Int → Int → Int → Int → Int → Prop
  | 0 => fun _ _ _ _ _ _ _ => False
  | n + 1 => zad.l5.step (zad.l5 k0 n) k0
def zad.l5.entry : yay := ⟨LV.mk 483 [(0, 483)] 16 0 false, 0, 81, fun vs H K => match vs, H with
  | [EV.str x0, EV.str x1, EV.int IntKind.u32 x2, EV.int IntKind.u32 x3, EV.int IntKind.i64 x4, EV.int IntKind.u32 x5, EV.int IntKind.i64 x6], [] => ∃ n, zad.l5 (fun y0 y1 y2 y3 y4 y5 => K (.exit 0) [EV.str y0, EV.str y1, EV.int IntKind.u32 y2, EV.int IntKind.u32 y3, EV.int IntKind.i64 y4, EV.int IntKind.u32 y5] []) n x0 x1 x2 x3 x4 x5 x6
  | _, _ => False⟩
def zad.l11.step (again : List UInt8 → List UInt8 → Int → Int → Int → Int → Int → Prop) (k0 : Int → Prop) (k1 : Prop) (x0 : List UInt8) (x1 : List UInt8) (x2 : Int) (x3 : Int) (x4 : Int) (x5 : Int) (x6 : Int) : Prop :=
  br (ltI x6 ↑(List.length x0)) (gd (leI 0 x6 && ltI x6 ↑(List.length x0)) (gd (leI 0 (yae IntKind.i64 x6 x4) && ltI (yae IntKind.i64 x6 x4) ↑(List.length x0)) (br (eqI (yae IntKind.u32 (yaj IntKind.u32 (ya0 IntKind.u32 x5 16777619) (cvI IntKind.u32 (yar x0 (Int.toNat x6)))) (ya0 IntKind.u32 x3 (cvI IntKind.u32 (yar x0 (Int.toNat (yae IntKind.i64 x6 x4)))))) x2) (gd (leI 0 (yae IntKind.i64 (yaj IntKind.i64 x6 1) x4) && (leI (yae IntKind.i64 (yaj IntKind.i64 x6 1) x4) (yaj IntKind.i64 x6 1) && leI (yaj IntKind.i64 x6 1) ↑(List.length x0))) (br (eqS (ybw x0 (Int.toNat (yae IntKind.i64 (yaj IntKind.i64 x6 1) x4)) (Int.toNat (yaj IntKind.i64 x6 1))) x1) (k0 (yae IntKind.i64 (yaj IntKind.i64 x6 1) x4)) (again x0 x1 x2 x3 x4 (yae IntKind.u32 (yaj IntKind.u32 (ya0 IntKind.u32 x5 16777619) (cvI IntKind.u32 (yar x0 (Int.toNat x6)))) (ya0 IntKind.u32 x3 (cvI IntKind.u32 (yar x0 (Int.toNat (yae IntKind.i64 x6 x4)))))) (yaj IntKind.i64 x6 1)))) (again x0 x1 x2 x3 x4 (yae IntKind.u32 (yaj IntKind.u32 (ya0 IntKind.u32 x5 16777619) (cvI IntKind.u32 (yar x0 (Int.toNat x6)))) (ya0 IntKind.u32 x3 (cvI IntKind.u32 (yar x0 (Int.toNat (yae IntKind.i64 x6 x4)))))) (yaj IntKind.i64 x6 1))))) k1
def zad.l11 (k0 : Int → Prop) (k1 : Prop) : Nat → List UInt8 → List UInt8 → Int → Int → Int → Int → Int → Prop
  | 0 => fun _ _ _ _ _ _ _ => False
  | n + 1 => zad.l11.step (zad.l11 k0 k1 n) k0 k1
def zad.l11.entry : yay := ⟨LV.mk 0 [(2, 0)] 16 0 false, 0, 81, fun vs H K => match vs, H with
  | [EV.str x0, EV.str x1, EV.int IntKind.u32 x2, EV.int IntKind.u32 x3, EV.int IntKind.i64 x4, EV.int IntKind.u32 x5, EV.int IntKind.i64 x6], [] => ∃ n, zad.l11 (fun y0 => K .ret [EV.int IntKind.i64 y0] []) (K (.exit 2) [] []) n x0 x1 x2 x3 x4 x5 x6
  | _, _ => False⟩
def zad.d (a0 : List UInt8) (a1 : List UInt8) (K : Int → Prop) : Prop :=
  zae a1 fun y0 y1 => ∃ n, zad.l5 (fun y0 y1 y2 y3 y4 y5 => br (eqI y5 y2) (gd (leI 0 y4 && leI y4 ↑(List.length y0)) (br (eqS (ybw y0 0 (Int.toNat y4)) y1) (K 0) (∃ n, zad.l11 (fun y0 => K y0) (K (-1)) n y0 y1 y2 y3 y4 y5 y4))) (∃ n, zad.l11 (fun y0 => K y0) (K (-1)) n y0 y1 y2 y3 y4 y5 y4)) n a0 a1 y0 y1 (↑(List.length a1)) 0 0
noncomputable def zad := shut zad.d
theorem zad.is : zad = zad.d := shut_is _
def zai.d (a0 : List UInt8) (a1 : List UInt8) (K : Int → Prop) : Prop :=
  br (eqI (↑(List.length a1)) 0) (K 0) (br (eqS a1 a0) (K 0) (br (eqI (↑(List.length a1)) 1) (gd (ltI 0 ↑(List.length a1)) (zaj a0 (yar a1 0) fun y0 => K y0)) (br (leI ↑(List.length a0) ↑(List.length a1)) (K (-1)) False)))
noncomputable def zai := shut zai.d
theorem zai.is : zai = zai.d := shut_is _
def zaf.d (a0 : List UInt8) (a1 : List UInt8) (K : List UInt8 → List UInt8 → Bool → Prop) : Prop :=
  zai a0 a1 fun y0 => br (leI 0 y0) (gd (leI 0 y0 && leI y0 ↑(List.length a0)) (gd (leI 0 (yaj IntKind.i64 y0 ↑(List.length a1)) && (leI (yaj IntKind.i64 y0 ↑(List.length a1)) ↑(List.length a0) && leI ↑(List.length a0) ↑(List.length a0))) (K (ybw a0 0 (Int.toNat y0)) (ybw a0 (Int.toNat (yaj IntKind.i64 y0 ↑(List.length a1))) (Int.toNat ↑(List.length a0))) true))) (K a0 [] false)
noncomputable def zaf := shut zaf.d
theorem zaf.is : zaf = zaf.d := shut_is _
def zah.d (a0 : List UInt8) (a1 : List UInt8) (K : Bool → Prop) : Prop :=
  br (leI ↑(List.length a1) ↑(List.length a0)) (gd (leI 0 ↑(List.length a1) && leI ↑(List.length a1) ↑(List.length a0)) (K (eqS (ybw a0 0 (Int.toNat ↑(List.length a1))) a1))) (K false)
noncomputable def zah := shut zah.d
theorem zah.is : zah = zah.d := shut_is _
def zag.d (a0 : List UInt8) (a1 : List UInt8) (K : List UInt8 → Bool → Prop) : Prop :=
  zah a0 a1 fun y0 => br (!y0) (K a0 false) (gd (leI 0 ↑(List.length a1) && (leI ↑(List.length a1) ↑(List.length a0) && leI ↑(List.length a0) ↑(List.length a0))) (K (ybw a0 (Int.toNat ↑(List.length a1)) (Int.toNat ↑(List.length a0))) true))
noncomputable def zag := shut zag.d
theorem zag.is : zag = zag.d := shut_is _
end Go.Ev.S

/- The functions as the evaluator has them: what each comes to. -/
set_option maxRecDepth 100000
set_option linter.unusedVariables false
set_option linter.unusedSimpArgs false
namespace Go.Ev.S
open Go Go.Ev
def zdc.d (a0 : List UInt8) (a1 : List UInt8) (K : List UInt8 → List UInt8 → Bool → Prop) : Prop :=
  zaf a0 a1 fun y0 y1 y2 => K y0 y1 y2
noncomputable def zdc := shut zdc.d
theorem zdc.is : zdc = zdc.d := shut_is _
def zdd.d (a0 : List UInt8) (a1 : List UInt8) (K : List UInt8 → Bool → Prop) : Prop :=
  zag a0 a1 fun y0 y1 => K y0 y1
noncomputable def zdd := shut zdd.d
theorem zdd.is : zdd = zdd.d := shut_is _
end Go.Ev.S

/- The functions as the evaluator has them: what each comes to. -/
set_option maxRecDepth 100000
set_option linter.unusedVariables false
set_option linter.unusedSimpArgs false
namespace Go.Ev.S
open Go Go.Ev
def zat.d (a0 : Int) (a1_0 : Int) (a1_1 : Int) (K : Bool → Int → (Nat → Int) → Prop) : Prop :=
  zdl a1_0 a1_1 fun y0 => zct a0 fun y0_1 => zcu a0 fun y0_2 => zdj (yae IntKind.i64 y0_1 1) fun y0_3 => zde y0 y0_3 fun y0_4 => zdo y0 (yae IntKind.i64 y0_1 1) fun y0_5 y1 => zdf y0 (yae IntKind.i64 y0_2 1) fun y0 => gd (!ltI (cvI IntKind.u64 (yae IntKind.i64 y0_2 y0_1)) 0) (K y0 (yfL IntKind.i64 (cvI IntKind.i64 (y0_5 0)) (yae IntKind.i64 (ybR IntKind.i64 1 (cvI IntKind.u64 (yae IntKind.i64 y0_2 y0_1))) 1)) y0_4)
noncomputable def zat := shut zat.d
theorem zat.is : zat = zat.d := shut_is _
def zas.d (a0 : Int) (a1_0 : Int) (a1_1 : Int) (K : Int → Prop) : Prop :=
  zat a0 a1_0 a1_1 fun y0 y1 y2 => zcp a0 fun y0_1 => br (eqI y1 (yaj IntKind.i64 (ya0 IntKind.i64 2 y0_1) 1)) (br (!eqN 6 y2 fun x => 0) (zct a0 fun y0 => zdf y2 (yae IntKind.i64 y0 2) fun y0 => br y0 (K 9) (K 8)) (br (!eqI y1 0) (br (eqN 6 y2 fun x => 0) (zcp a0 fun y0_2 => br (eqI y1 (yaj IntKind.i64 (ya0 IntKind.i64 2 y0_2) 1)) (br y0 (K 0) (K 7)) (br (!eqI y1 0) (br y0 (K 1) (K 6)) (br (!eqN 6 y2 fun x => 0) (br y0 (K 2) (K 5)) (br y0 (K 3) (K 4))))) (br (!eqI y1 0) (br y0 (K 1) (K 6)) (br (!eqN 6 y2 fun x => 0) (br y0 (K 2) (K 5)) (br y0 (K 3) (K 4))))) (br (!eqI y1 0) (br y0 (K 1) (K 6)) (br (!eqN 6 y2 fun x => 0) (br y0 (K 2) (K 5)) (br y0 (K 3) (K 4)))))) (br (!eqI y1 0) (br (eqN 6 y2 fun x => 0) (zcp a0 fun y0_2 => br (eqI y1 (yaj IntKind.i64 (ya0 IntKind.i64 2 y0_2) 1)) (br y0 (K 0) (K 7)) (br (!eqI y1 0) (br y0 (K 1) (K 6)) (br (!eqN 6 y2 fun x => 0) (br y0 (K 2) (K 5)) (br y0 (K 3) (K 4))))) (br (!eqI y1 0) (br y0 (K 1) (K 6)) (br (!eqN 6 y2 fun x => 0) (br y0 (K 2) (K 5)) (br y0 (K 3) (K 4))))) (br (!eqI y1 0) (br y0 (K 1) (K 6)) (br (!eqN 6 y2 fun x => 0) (br y0 (K 2) (K 5)) (br y0 (K 3) (K 4)))))
noncomputable def zas := shut zas.d
theorem zas.is : zas = zas.d := shut_is _
def zak.d (a0 : Int) (a1_0 : Int) (a1_1 : Int) (K : Int → Int → Prop) : Prop :=
  zcr a0 a1_0 a1_1 fun y0 => br (!y0) (K 0 2) (zas a0 a1_0 a1_1 fun y0 => K y0 0)
noncomputable def zak := shut zak.d
theorem zak.is : zak = zak.d := shut_is _
def zal.d (a0 : Int) (a1_0 : Int) (a1_1 : Int) (K : Int → Int → Prop) : Prop :=
  zcr a0 a1_0 a1_1 fun y0 => br (!y0) (K 0 0) (zcv a0 true fun y0 y1 => K (ypL IntKind.u64 a1_0 y0) (ypL IntKind.u64 a1_1 y1))
noncomputable def zal := shut zal.d
theorem zal.is : zal = zal.d := shut_is _
def zar.d (a0 : Int) (a1 : Bool) (a2 : Int) (a3 : Nat → Int) (K : Int → Int → Prop) : Prop :=
  zdk (cvI IntKind.u64 a2) fun y0 => zct a0 fun y0_1 => zdg y0 (yae IntKind.i64 y0_1 1) fun y0 y1 => zdm y0 a3 fun y0 => br a1 (zcu a0 fun y0_2 => gd (leI 0 (yaQ IntKind.i64 (yae IntKind.i64 y0_2 1) 64) && ltI (yaQ IntKind.i64 (yae IntKind.i64 y0_2 1) 64) 6) (gd (!ltI (cvI IntKind.u64 (ybv IntKind.i64 (yae IntKind.i64 y0_2 1) 64)) 0) (gd (leI 0 (yaQ IntKind.i64 (yae IntKind.i64 y0_2 1) 64) && ltI (yaQ IntKind.i64 (yae IntKind.i64 y0_2 1) 64) 6) (zdq (upd y0 (Int.toNat (yaQ IntKind.i64 (yae IntKind.i64 y0_2 1) 64)) (orI IntKind.u64 (y0 (Int.toNat (yaQ IntKind.i64 (yae IntKind.i64 y0_2 1) 64))) (ybR IntKind.u64 1 (cvI IntKind.u64 (ybv IntKind.i64 (yae IntKind.i64 y0_2 1) 64))))) fun y0 y1 y2 => K y0 y1)))) (zdq y0 fun y0 y1 y2 => K y0 y1)
noncomputable def zar := shut zar.d
theorem zar.is : zar = zar.d := shut_is _
def zaq.d (a0 : Int) (a1_0 : Int) (a1_1 : Int) (K : Int → (Nat → Int) → Int → (Nat → Int) → Int → Prop) : Prop :=
  zcr a0 a1_0 a1_1 fun y0 => br (!y0) (K 0 (fun x => 0) 0 (fun x => 0) 2) (zct a0 fun y0 => zat a0 a1_0 a1_1 fun y0_1 y1 y2 => zas a0 a1_0 a1_1 fun y0_2 => br (eqI y0_2 8) (br (eqI y0_2 8) (K y0_2 (fun x => 0) 0 y2 0) (br (eqI y0_2 1) (br (eqI y0_2 1) (gd (leI 0 (yaQ IntKind.i64 (yae IntKind.i64 y0 1) 64) && ltI (yaQ IntKind.i64 (yae IntKind.i64 y0 1) 64) 6) (gd (!ltI (cvI IntKind.u64 (ybv IntKind.i64 (yae IntKind.i64 y0 1) 64)) 0) (gd (leI 0 (yaQ IntKind.i64 (yae IntKind.i64 y0 1) 64) && ltI (yaQ IntKind.i64 (yae IntKind.i64 y0 1) 64) 6) (zcq a0 fun y0_3 => K y0_2 (upd y2 (Int.toNat (yaQ IntKind.i64 (yae IntKind.i64 y0 1) 64)) (orI IntKind.u64 (y2 (Int.toNat (yaQ IntKind.i64 (yae IntKind.i64 y0 1) 64))) (ybR IntKind.u64 1 (cvI IntKind.u64 (ybv IntKind.i64 (yae IntKind.i64 y0 1) 64))))) (yaj IntKind.i64 (yae IntKind.i64 (yaj IntKind.i64 (yae IntKind.i64 y1 1) y0_3) y0) 1) (fun x => 0) 0)))) (br (eqI y0_2 2) (br (eqI y0_2 2) (zcq a0 fun y0_3 => K y0_2 y2 (yaj IntKind.i64 (yae IntKind.i64 (yaj IntKind.i64 y1 y0_3) y0) 1) (fun x => 0) 0) (K y0_2 (fun x => 0) 0 (fun x => 0) 0)) (br (eqI y0_2 5) (zcq a0 fun y0_3 => K y0_2 y2 (yaj IntKind.i64 (yae IntKind.i64 (yaj IntKind.i64 y1 y0_3) y0) 1) (fun x => 0) 0) (K y0_2 (fun x => 0) 0 (fun x => 0) 0)))) (br (eqI y0_2 6) (gd (leI 0 (yaQ IntKind.i64 (yae IntKind.i64 y0 1) 64) && ltI (yaQ IntKind.i64 (yae IntKind.i64 y0 1) 64) 6) (gd (!ltI (cvI IntKind.u64 (ybv IntKind.i64 (yae IntKind.i64 y0 1) 64)) 0) (gd (leI 0 (yaQ IntKind.i64 (yae IntKind.i64 y0 1) 64) && ltI (yaQ IntKind.i64 (yae IntKind.i64 y0 1) 64) 6) (zcq a0 fun y0_3 => K y0_2 (upd y2 (Int.toNat (yaQ IntKind.i64 (yae IntKind.i64 y0 1) 64)) (orI IntKind.u64 (y2 (Int.toNat (yaQ IntKind.i64 (yae IntKind.i64 y0 1) 64))) (ybR IntKind.u64 1 (cvI IntKind.u64 (ybv IntKind.i64 (yae IntKind.i64 y0 1) 64))))) (yaj IntKind.i64 (yae IntKind.i64 (yaj IntKind.i64 (yae IntKind.i64 y1 1) y0_3) y0) 1) (fun x => 0) 0)))) (br (eqI y0_2 2) (br (eqI y0_2 2) (zcq a0 fun y0_3 => K y0_2 y2 (yaj IntKind.i64 (yae IntKind.i64 (yaj IntKind.i64 y1 y0_3) y0) 1) (fun x => 0) 0) (K y0_2 (fun x => 0) 0 (fun x => 0) 0)) (br (eqI y0_2 5) (zcq a0 fun y0_3 => K y0_2 y2 (yaj IntKind.i64 (yae IntKind.i64 (yaj IntKind.i64 y1 y0_3) y0) 1) (fun x => 0) 0) (K y0_2 (fun x => 0) 0 (fun x => 0) 0)))))) (br (eqI y0_2 9) (K y0_2 (fun x => 0) 0 y2 0) (br (eqI y0_2 1) (br (eqI y0_2 1) (gd (leI 0 (yaQ IntKind.i64 (yae IntKind.i64 y0 1) 64) && ltI (yaQ IntKind.i64 (yae IntKind.i64 y0 1) 64) 6) (gd (!ltI (cvI IntKind.u64 (ybv IntKind.i64 (yae IntKind.i64 y0 1) 64)) 0) (gd (leI 0 (yaQ IntKind.i64 (yae IntKind.i64 y0 1) 64) && ltI (yaQ IntKind.i64 (yae IntKind.i64 y0 1) 64) 6) (zcq a0 fun y0_3 => K y0_2 (upd y2 (Int.toNat (yaQ IntKind.i64 (yae IntKind.i64 y0 1) 64)) (orI IntKind.u64 (y2 (Int.toNat (yaQ IntKind.i64 (yae IntKind.i64 y0 1) 64))) (ybR IntKind.u64 1 (cvI IntKind.u64 (ybv IntKind.i64 (yae IntKind.i64 y0 1) 64))))) (yaj IntKind.i64 (yae IntKind.i64 (yaj IntKind.i64 (yae IntKind.i64 y1 1) y0_3) y0) 1) (fun x => 0) 0)))) (br (eqI y0_2 2) (br (eqI y0_2 2) (zcq a0 fun y0_3 => K y0_2 y2 (yaj IntKind.i64 (yae IntKind.i64 (yaj IntKind.i64 y1 y0_3) y0) 1) (fun x => 0) 0) (K y0_2 (fun x => 0) 0 (fun x => 0) 0)) (br (eqI y0_2 5) (zcq a0 fun y0_3 => K y0_2 y2 (yaj IntKind.i64 (yae IntKind.i64 (yaj IntKind.i64 y1 y0_3) y0) 1) (fun x => 0) 0) (K y0_2 (fun x => 0) 0 (fun x => 0) 0)))) (br (eqI y0_2 6) (gd (leI 0 (yaQ IntKind.i64 (yae IntKind.i64 y0 1) 64) && ltI (yaQ IntKind.i64 (yae IntKind.i64 y0 1) 64) 6) (gd (!ltI (cvI IntKind.u64 (ybv IntKind.i64 (yae IntKind.i64 y0 1) 64)) 0) (gd (leI 0 (yaQ IntKind.i64 (yae IntKind.i64 y0 1) 64) && ltI (yaQ IntKind.i64 (yae IntKind.i64 y0 1) 64) 6) (zcq a0 fun y0_3 => K y0_2 (upd y2 (Int.toNat (yaQ IntKind.i64 (yae IntKind.i64 y0 1) 64)) (orI IntKind.u64 (y2 (Int.toNat (yaQ IntKind.i64 (yae IntKind.i64 y0 1) 64))) (ybR IntKind.u64 1 (cvI IntKind.u64 (ybv IntKind.i64 (yae IntKind.i64 y0 1) 64))))) (yaj IntKind.i64 (yae IntKind.i64 (yaj IntKind.i64 (yae IntKind.i64 y1 1) y0_3) y0) 1) (fun x => 0) 0)))) (br (eqI y0_2 2) (br (eqI y0_2 2) (zcq a0 fun y0_3 => K y0_2 y2 (yaj IntKind.i64 (yae IntKind.i64 (yaj IntKind.i64 y1 y0_3) y0) 1) (fun x => 0) 0) (K y0_2 (fun x => 0) 0 (fun x => 0) 0)) (br (eqI y0_2 5) (zcq a0 fun y0_3 => K y0_2 y2 (yaj IntKind.i64 (yae IntKind.i64 (yaj IntKind.i64 y1 y0_3) y0) 1) (fun x => 0) 0) (K y0_2 (fun x => 0) 0 (fun x => 0) 0)))))))
noncomputable def zaq := shut zaq.d
theorem zaq.is : zaq = zaq.d := shut_is _
def zam.d (a0 : Int) (a1_0 : Int) (a1_1 : Nat → Int) (a1_2 : Int) (a1_3 : Nat → Int) (K : Int → Int → Int → Prop) : Prop :=
  zco a0 fun y0 => br (!eqI y0 0) (K 0 0 2) (zct a0 fun y0 => br (eqI a1_0 0) (br (eqI a1_0 0) (zcs a0 (ltI a1_0 4) fun y0 y1 => zaq a0 y0 y1 fun y0_1 y1_1 y2 y3 y4 => br (!(eqI y0_1 a1_0 && (eqN 6 y1_1 a1_1 && (eqI y2 a1_2 && eqN 6 y3 a1_3)))) (K 0 0 80) (K y0 y1 0)) (br (eqI a1_0 3) (br (eqI a1_0 3) (zcv a0 (ltI a1_0 4) fun y0 y1 => zaq a0 y0 y1 fun y0_1 y1_1 y2 y3 y4 => br (!(eqI y0_1 a1_0 && (eqN 6 y1_1 a1_1 && (eqI y2 a1_2 && eqN 6 y3 a1_3)))) (K 0 0 80) (K y0 y1 0)) (br (eqI a1_0 8) (br (eqI a1_0 8) (zdh a1_3 fun y0_1 => br (leI y0 y0_1) (K 0 0 80) (zcp a0 fun y0 => zar a0 false (yaj IntKind.i64 (ya0 IntKind.i64 2 y0) 1) a1_3 fun y0 y1 => zaq a0 y0 y1 fun y0_2 y1_1 y2 y3 y4 => br (!(eqI y0_2 a1_0 && (eqN 6 y1_1 a1_1 && (eqI y2 a1_2 && eqN 6 y3 a1_3)))) (K 0 0 80) (K y0 y1 0))) (br (eqI a1_0 2) (br (eqI a1_0 2) (zcq a0 fun y0_1 => zdh a1_1 fun y0_2 => br (ltI y0 y0_2) (K 0 0 80) (br (ltI (yaj IntKind.i64 (yae IntKind.i64 a1_2 y0_1) y0) 1) (K 0 0 80) (zcp a0 fun y0_3 => br (ltI (ya0 IntKind.i64 2 y0_3) (yaj IntKind.i64 (yae IntKind.i64 a1_2 y0_1) y0)) (K 0 0 80) (zdf a1_1 (yae IntKind.i64 y0 1) fun y0_4 => br (!y0_4) (zdj (yae IntKind.i64 y0 1) fun y0 => zde a1_1 y0 fun y0 => zar a0 (ltI a1_0 4) 0 y0 fun y0 y1 => zaq a0 y0 y1 fun y0_5 y1_1 y2 y3 y4 => br (!(eqI y0_5 a1_0 && (eqN 6 y1_1 a1_1 && (eqI y2 a1_2 && eqN 6 y3 a1_3)))) (K 0 0 80) (K y0 y1 0)) (zdj (yae IntKind.i64 y0 1) fun y0_5 => zde a1_1 y0_5 fun y0_6 => zar a0 (ltI a1_0 4) (yaj IntKind.i64 (yae IntKind.i64 a1_2 y0_1) y0) y0_6 fun y0 y1 => zaq a0 y0 y1 fun y0_7 y1_1 y2 y3 y4 => br (!(eqI y0_7 a1_0 && (eqN 6 y1_1 a1_1 && (eqI y2 a1_2 && eqN 6 y3 a1_3)))) (K 0 0 80) (K y0 y1 0)))))) (zaq a0 0 0 fun y0 y1 y2 y3 y4 => br (!(eqI y0 a1_0 && (eqN 6 y1 a1_1 && (eqI y2 a1_2 && eqN 6 y3 a1_3)))) (K 0 0 80) (K 0 0 0))) (br (eqI a1_0 5) (br (eqI a1_0 5) (zcq a0 fun y0_1 => zdh a1_1 fun y0_2 => br (ltI y0 y0_2) (K 0 0 80) (br (ltI (yaj IntKind.i64 (yae IntKind.i64 a1_2 y0_1) y0) 1) (K 0 0 80) (zcp a0 fun y0_3 => br (ltI (ya0 IntKind.i64 2 y0_3) (yaj IntKind.i64 (yae IntKind.i64 a1_2 y0_1) y0)) (K 0 0 80) (zdf a1_1 (yae IntKind.i64 y0 1) fun y0_4 => br (!y0_4) (zdj (yae IntKind.i64 y0 1) fun y0 => zde a1_1 y0 fun y0 => zar a0 (ltI a1_0 4) 0 y0 fun y0 y1 => zaq a0 y0 y1 fun y0_5 y1_1 y2 y3 y4 => br (!(eqI y0_5 a1_0 && (eqN 6 y1_1 a1_1 && (eqI y2 a1_2 && eqN 6 y3 a1_3)))) (K 0 0 80) (K y0 y1 0)) (zdj (yae IntKind.i64 y0 1) fun y0_5 => zde a1_1 y0_5 fun y0_6 => zar a0 (ltI a1_0 4) (yaj IntKind.i64 (yae IntKind.i64 a1_2 y0_1) y0) y0_6 fun y0 y1 => zaq a0 y0 y1 fun y0_7 y1_1 y2 y3 y4 => br (!(eqI y0_7 a1_0 && (eqN 6 y1_1 a1_1 && (eqI y2 a1_2 && eqN 6 y3 a1_3)))) (K 0 0 80) (K y0 y1 0)))))) (zaq a0 0 0 fun y0 y1 y2 y3 y4 => br (!(eqI y0 a1_0 && (eqN 6 y1 a1_1 && (eqI y2 a1_2 && eqN 6 y3 a1_3)))) (K 0 0 80) (K 0 0 0))) (br (eqI a1_0 1) (br (eqI a1_0 1) (zcq a0 fun y0_1 => zdh a1_1 fun y0_2 => br (ltI y0 y0_2) (K 0 0 80) (br (ltI (yaj IntKind.i64 (yae IntKind.i64 a1_2 y0_1) y0) 1) (K 0 0 80) (zcp a0 fun y0_3 => br (ltI (ya0 IntKind.i64 2 y0_3) (yaj IntKind.i64 (yae IntKind.i64 a1_2 y0_1) y0)) (K 0 0 80) (zdf a1_1 (yae IntKind.i64 y0 1) fun y0_4 => br (!y0_4) (zdj (yae IntKind.i64 y0 1) fun y0 => zde a1_1 y0 fun y0 => zar a0 (ltI a1_0 4) 0 y0 fun y0 y1 => zaq a0 y0 y1 fun y0_5 y1_1 y2 y3 y4 => br (!(eqI y0_5 a1_0 && (eqN 6 y1_1 a1_1 && (eqI y2 a1_2 && eqN 6 y3 a1_3)))) (K 0 0 80) (K y0 y1 0)) (zdj (yae IntKind.i64 y0 1) fun y0_5 => zde a1_1 y0_5 fun y0_6 => zar a0 (ltI a1_0 4) (yaj IntKind.i64 (yae IntKind.i64 a1_2 y0_1) y0) y0_6 fun y0 y1 => zaq a0 y0 y1 fun y0_7 y1_1 y2 y3 y4 => br (!(eqI y0_7 a1_0 && (eqN 6 y1_1 a1_1 && (eqI y2 a1_2 && eqN 6 y3 a1_3)))) (K 0 0 80) (K y0 y1 0)))))) (zaq a0 0 0 fun y0 y1 y2 y3 y4 => br (!(eqI y0 a1_0 && (eqN 6 y1 a1_1 && (eqI y2 a1_2 && eqN 6 y3 a1_3)))) (K 0 0 80) (K 0 0 0))) (br (eqI a1_0 6) (zcq a0 fun y0_1 => zdh a1_1 fun y0_2 => br (ltI y0 y0_2) (K 0 0 80) (br (ltI (yaj IntKind.i64 (yae IntKind.i64 a1_2 y0_1) y0) 1) (K 0 0 80) (zcp a0 fun y0_3 => br (ltI (ya0 IntKind.i64 2 y0_3) (yaj IntKind.i64 (yae IntKind.i64 a1_2 y0_1) y0)) (K 0 0 80) (zdf a1_1 (yae IntKind.i64 y0 1) fun y0_4 => br (!y0_4) (zdj (yae IntKind.i64 y0 1) fun y0 => zde a1_1 y0 fun y0 => zar a0 (ltI a1_0 4) 0 y0 fun y0 y1 => zaq a0 y0 y1 fun y0_5 y1_1 y2 y3 y4 => br (!(eqI y0_5 a1_0 && (eqN 6 y1_1 a1_1 && (eqI y2 a1_2 && eqN 6 y3 a1_3)))) (K 0 0 80) (K y0 y1 0)) (zdj (yae IntKind.i64 y0 1) fun y0_5 => zde a1_1 y0_5 fun y0_6 => zar a0 (ltI a1_0 4) (yaj IntKind.i64 (yae IntKind.i64 a1_2 y0_1) y0) y0_6 fun y0 y1 => zaq a0 y0 y1 fun y0_7 y1_1 y2 y3 y4 => br (!(eqI y0_7 a1_0 && (eqN 6 y1_1 a1_1 && (eqI y2 a1_2 && eqN 6 y3 a1_3)))) (K 0 0 80) (K y0 y1 0)))))) (zaq a0 0 0 fun y0 y1 y2 y3 y4 => br (!(eqI y0 a1_0 && (eqN 6 y1 a1_1 && (eqI y2 a1_2 && eqN 6 y3 a1_3)))) (K 0 0 80) (K 0 0 0))))))) (br (eqI a1_0 9) (zdh a1_3 fun y0_1 => br (leI y0 y0_1) (K 0 0 80) (zcp a0 fun y0 => zar a0 false (yaj IntKind.i64 (ya0 IntKind.i64 2 y0) 1) a1_3 fun y0 y1 => zaq a0 y0 y1 fun y0_2 y1_1 y2 y3 y4 => br (!(eqI y0_2 a1_0 && (eqN 6 y1_1 a1_1 && (eqI y2 a1_2 && eqN 6 y3 a1_3)))) (K 0 0 80) (K y0 y1 0))) (br (eqI a1_0 2) (br (eqI a1_0 2) (zcq a0 fun y0_1 => zdh a1_1 fun y0_2 => br (ltI y0 y0_2) (K 0 0 80) (br (ltI (yaj IntKind.i64 (yae IntKind.i64 a1_2 y0_1) y0) 1) (K 0 0 80) (zcp a0 fun y0_3 => br (ltI (ya0 IntKind.i64 2 y0_3) (yaj IntKind.i64 (yae IntKind.i64 a1_2 y0_1) y0)) (K 0 0 80) (zdf a1_1 (yae IntKind.i64 y0 1) fun y0_4 => br (!y0_4) (zdj (yae IntKind.i64 y0 1) fun y0 => zde a1_1 y0 fun y0 => zar a0 (ltI a1_0 4) 0 y0 fun y0 y1 => zaq a0 y0 y1 fun y0_5 y1_1 y2 y3 y4 => br (!(eqI y0_5 a1_0 && (eqN 6 y1_1 a1_1 && (eqI y2 a1_2 && eqN 6 y3 a1_3)))) (K 0 0 80) (K y0 y1 0)) (zdj (yae IntKind.i64 y0 1) fun y0_5 => zde a1_1 y0_5 fun y0_6 => zar a0 (ltI a1_0 4) (yaj IntKind.i64 (yae IntKind.i64 a1_2 y0_1) y0) y0_6 fun y0 y1 => zaq a0 y0 y1 fun y0_7 y1_1 y2 y3 y4 => br (!(eqI y0_7 a1_0 && (eqN 6 y1_1 a1_1 && (eqI y2 a1_2 && eqN 6 y3 a1_3)))) (K 0 0 80) (K y0 y1 0)))))) (zaq a0 0 0 fun y0 y1 y2 y3 y4 => br (!(eqI y0 a1_0 && (eqN 6 y1 a1_1 && (eqI y2 a1_2 && eqN 6 y3 a1_3)))) (K 0 0 80) (K 0 0 0))) (br (eqI a1_0 5) (br (eqI a1_0 5) (zcq a0 fun y0_1 => zdh a1_1 fun y0_2 => br (ltI y0 y0_2) (K 0 0 80) (br (ltI (yaj IntKind.i64 (yae IntKind.i64 a1_2 y0_1) y0) 1) (K 0 0 80) (zcp a0 fun y0_3 => br (ltI (ya0 IntKind.i64 2 y0_3) (yaj IntKind.i64 (yae IntKind.i64 a1_2 y0_1) y0)) (K 0 0 80) (zdf a1_1 (yae IntKind.i64 y0 1) fun y0_4 => br (!y0_4) (zdj (yae IntKind.i64 y0 1) fun y0 => zde a1_1 y0 fun y0 => zar a0 (ltI a1_0 4) 0 y0 fun y0 y1 => zaq a0 y0 y1 fun y0_5 y1_1 y2 y3 y4 => br (!(eqI y0_5 a1_0 && (eqN 6 y1_1 a1_1 && (eqI y2 a1_2 && eqN 6 y3 a1_3)))) (K 0 0 80) (K y0 y1 0)) (zdj (yae IntKind.i64 y0 1) fun y0_5 => zde a1_1 y0_5 fun y0_6 => zar a0 (ltI a1_0 4) (yaj IntKind.i64 (yae IntKind.i64 a1_2 y0_1) y0) y0_6 fun y0 y1 => zaq a0 y0 y1 fun y0_7 y1_1 y2 y3 y4 => br (!(eqI y0_7 a1_0 && (eqN 6 y1_1 a1_1 && (eqI y2 a1_2 && eqN 6 y3 a1_3)))) (K 0 0 80) (K y0 y1 0)))))) (zaq a0 0 0 fun y0 y1 y2 y3 y4 => br (!(eqI y0 a1_0 && (eqN 6 y1 a1_1 && (eqI y2 a1_2 && eqN 6 y3 a1_3)))) (K 0 0 80) (K 0 0 0))) (br (eqI a1_0 1) (br (eqI a1_0 1) (zcq a0 fun y0_1 => zdh a1_1 fun y0_2 => br (ltI y0 y0_2) (K 0 0 80) (br (ltI (yaj IntKind.i64 (yae IntKind.i64 a1_2 y0_1) y0) 1) (K 0 0 80) (zcp a0 fun y0_3 => br (ltI (ya0 IntKind.i64 2 y0_3) (yaj IntKind.i64 (yae IntKind.i64 a1_2 y0_1) y0)) (K 0 0 80) (zdf a1_1 (yae IntKind.i64 y0 1) fun y0_4 => br (!y0_4) (zdj (yae IntKind.i64 y0 1) fun y0 => zde a1_1 y0 fun y0 => zar a0 (ltI a1_0 4) 0 y0 fun y0 y1 => zaq a0 y0 y1 fun y0_5 y1_1 y2 y3 y4 => br (!(eqI y0_5 a1_0 && (eqN 6 y1_1 a1_1 && (eqI y2 a1_2 && eqN 6 y3 a1_3)))) (K 0 0 80) (K y0 y1 0)) (zdj (yae IntKind.i64 y0 1) fun y0_5 => zde a1_1 y0_5 fun y0_6 => zar a0 (ltI a1_0 4) (yaj IntKind.i64 (yae IntKind.i64 a1_2 y0_1) y0) y0_6 fun y0 y1 => zaq a0 y0 y1 fun y0_7 y1_1 y2 y3 y4 => br (!(eqI y0_7 a1_0 && (eqN 6 y1_1 a1_1 && (eqI y2 a1_2 && eqN 6 y3 a1_3)))) (K 0 0 80) (K y0 y1 0)))))) (zaq a0 0 0 fun y0 y1 y2 y3 y4 => br (!(eqI y0 a1_0 && (eqN 6 y1 a1_1 && (eqI y2 a1_2 && eqN 6 y3 a1_3)))) (K 0 0 80) (K 0 0 0))) (br (eqI a1_0 6) (zcq a0 fun y0_1 => zdh a1_1 fun y0_2 => br (ltI y0 y0_2) (K 0 0 80) (br (ltI (yaj IntKind.i64 (yae IntKind.i64 a1_2 y0_1) y0) 1) (K 0 0 80) (zcp a0 fun y0_3 => br (ltI (ya0 IntKind.i64 2 y0_3) (yaj IntKind.i64 (yae IntKind.i64 a1_2 y0_1) y0)) (K 0 0 80) (zdf a1_1 (yae IntKind.i64 y0 1) fun y0_4 => br (!y0_4) (zdj (yae IntKind.i64 y0 1) fun y0 => zde a1_1 y0 fun y0 => zar a0 (ltI a1_0 4) 0 y0 fun y0 y1 => zaq a0 y0 y1 fun y0_5 y1_1 y2 y3 y4 => br (!(eqI y0_5 a1_0 && (eqN 6 y1_1 a1_1 && (eqI y2 a1_2 && eqN 6 y3 a1_3)))) (K 0 0 80) (K y0 y1 0)) (zdj (yae IntKind.i64 y0 1) fun y0_5 => zde a1_1 y0_5 fun y0_6 => zar a0 (ltI a1_0 4) (yaj IntKind.i64 (yae IntKind.i64 a1_2 y0_1) y0) y0_6 fun y0 y1 => zaq a0 y0 y1 fun y0_7 y1_1 y2 y3 y4 => br (!(eqI y0_7 a1_0 && (eqN 6 y1_1 a1_1 && (eqI y2 a1_2 && eqN 6 y3 a1_3)))) (K 0 0 80) (K y0 y1 0)))))) (zaq a0 0 0 fun y0 y1 y2 y3 y4 => br (!(eqI y0 a1_0 && (eqN 6 y1 a1_1 && (eqI y2 a1_2 && eqN 6 y3 a1_3)))) (K 0 0 80) (K 0 0 0))))))))) (br (eqI a1_0 4) (zcv a0 (ltI a1_0 4) fun y0 y1 => zaq a0 y0 y1 fun y0_1 y1_1 y2 y3 y4 => br (!(eqI y0_1 a1_0 && (eqN 6 y1_1 a1_1 && (eqI y2 a1_2 && eqN 6 y3 a1_3)))) (K 0 0 80) (K y0 y1 0)) (br (eqI a1_0 8) (br (eqI a1_0 8) (zdh a1_3 fun y0_1 => br (leI y0 y0_1) (K 0 0 80) (zcp a0 fun y0 => zar a0 false (yaj IntKind.i64 (ya0 IntKind.i64 2 y0) 1) a1_3 fun y0 y1 => zaq a0 y0 y1 fun y0_2 y1_1 y2 y3 y4 => br (!(eqI y0_2 a1_0 && (eqN 6 y1_1 a1_1 && (eqI y2 a1_2 && eqN 6 y3 a1_3)))) (K 0 0 80) (K y0 y1 0))) (br (eqI a1_0 2) (br (eqI a1_0 2) (zcq a0 fun y0_1 => zdh a1_1 fun y0_2 => br (ltI y0 y0_2) (K 0 0 80) (br (ltI (yaj IntKind.i64 (yae IntKind.i64 a1_2 y0_1) y0) 1) (K 0 0 80) (zcp a0 fun y0_3 => br (ltI (ya0 IntKind.i64 2 y0_3) (yaj IntKind.i64 (yae IntKind.i64 a1_2 y0_1) y0)) (K 0 0 80) (zdf a1_1 (yae IntKind.i64 y0 1) fun y0_4 => br (!y0_4) (zdj (yae IntKind.i64 y0 1) fun y0 => zde a1_1 y0 fun y0 => zar a0 (ltI a1_0 4) 0 y0 fun y0 y1 => zaq a0 y0 y1 fun y0_5 y1_1 y2 y3 y4 => br (!(eqI y0_5 a1_0 && (eqN 6 y1_1 a1_1 && (eqI y2 a1_2 && eqN 6 y3 a1_3)))) (K 0 0 80) (K y0 y1 0)) (zdj (yae IntKind.i64 y0 1) fun y0_5 => zde a1_1 y0_5 fun y0_6 => zar a0 (ltI a1_0 4) (yaj IntKind.i64 (yae IntKind.i64 a1_2 y0_1) y0) y0_6 fun y0 y1 => zaq a0 y0 y1 fun y0_7 y1_1 y2 y3 y4 => br (!(eqI y0_7 a1_0 && (eqN 6 y1_1 a1_1 && (eqI y2 a1_2 && eqN 6 y3 a1_3)))) (K 0 0 80) (K y0 y1 0)))))) (zaq a0 0 0 fun y0 y1 y2 y3 y4 => br (!(eqI y0 a1_0 && (eqN 6 y1 a1_1 && (eqI y2 a1_2 && eqN 6 y3 a1_3)))) (K 0 0 80) (K 0 0 0))) (br (eqI a1_0 5) (br (eqI a1_0 5) (zcq a0 fun y0_1 => zdh a1_1 fun y0_2 => br (ltI y0 y0_2) (K 0 0 80) (br (ltI (yaj IntKind.i64 (yae IntKind.i64 a1_2 y0_1) y0) 1) (K 0 0 80) (zcp a0 fun y0_3 => br (ltI (ya0 IntKind.i64 2 y0_3) (yaj IntKind.i64 (yae IntKind.i64 a1_2 y0_1) y0)) (K 0 0 80) (zdf a1_1 (yae IntKind.i64 y0 1) fun y0_4 => br (!y0_4) (zdj (yae IntKind.i64 y0 1) fun y0 => zde a1_1 y0 fun y0 => zar a0 (ltI a1_0 4) 0 y0 fun y0 y1 => zaq a0 y0 y1 fun y0_5 y1_1 y2 y3 y4 => br (!(eqI y0_5 a1_0 && (eqN 6 y1_1 a1_1 && (eqI y2 a1_2 && eqN 6 y3 a1_3)))) (K 0 0 80) (K y0 y1 0)) (zdj (yae IntKind.i64 y0 1) fun y0_5 => zde a1_1 y0_5 fun y0_6 => zar a0 (ltI a1_0 4) (yaj IntKind.i64 (yae IntKind.i64 a1_2 y0_1) y0) y0_6 fun y0 y1 => zaq a0 y0 y1 fun y0_7 y1_1 y2 y3 y4 => br (!(eqI y0_7 a1_0 && (eqN 6 y1_1 a1_1 && (eqI y2 a1_2 && eqN 6 y3 a1_3)))) (K 0 0 80) (K y0 y1 0)))))) (zaq a0 0 0 fun y0 y1 y2 y3 y4 => br (!(eqI y0 a1_0 && (eqN 6 y1 a1_1 && (eqI y2 a1_2 && eqN 6 y3 a1_3)))) (K 0 0 80) (K 0 0 0))) (br (eqI a1_0 1) (br (eqI a1_0 1) (zcq a0 fun y0_1 => zdh a1_1 fun y0_2 => br (ltI y0 y0_2) (K 0 0 80) (br (ltI (yaj IntKind.i64 (yae IntKind.i64 a1_2 y0_1) y0) 1) (K 0 0 80) (zcp a0 fun y0_3 => br (ltI (ya0 IntKind.i64 2 y0_3) (yaj IntKind.i64 (yae IntKind.i64 a1_2 y0_1) y0)) (K 0 0 80) (zdf a1_1 (yae IntKind.i64 y0 1) fun y0_4 => br (!y0_4) (zdj (yae IntKind.i64 y0 1) fun y0 => zde a1_1 y0 fun y0 => zar a0 (ltI a1_0 4) 0 y0 fun y0 y1 => zaq a0 y0 y1 fun y0_5 y1_1 y2 y3 y4 => br (!(eqI y0_5 a1_0 && (eqN 6 y1_1 a1_1 && (eqI y2 a1_2 && eqN 6 y3 a1_3)))) (K 0 0 80) (K y0 y1 0)) (zdj (yae IntKind.i64 y0 1) fun y0_5 => zde a1_1 y0_5 fun y0_6 => zar a0 (ltI a1_0 4) (yaj IntKind.i64 (yae IntKind.i64 a1_2 y0_1) y0) y0_6 fun y0 y1 => zaq a0 y0 y1 fun y0_7 y1_1 y2 y3 y4 => br (!(eqI y0_7 a1_0 && (eqN 6 y1_1 a1_1 && (eqI y2 a1_2 && eqN 6 y3 a1_3)))) (K 0 0 80) (K y0 y1 0)))))) (zaq a0 0 0 fun y0 y1 y2 y3 y4 => br (!(eqI y0 a1_0 && (eqN 6 y1 a1_1 && (eqI y2 a1_2 && eqN 6 y3 a1_3)))) (K 0 0 80) (K 0 0 0))) (br (eqI a1_0 6) (zcq a0 fun y0_1 => zdh a1_1 fun y0_2 => br (ltI y0 y0_2) (K 0 0 80) (br (ltI (yaj IntKind.i64 (yae IntKind.i64 a1_2 y0_1) y0) 1) (K 0 0 80) (zcp a0 fun y0_3 => br (ltI (ya0 IntKind.i64 2 y0_3) (yaj IntKind.i64 (yae IntKind.i64 a1_2 y0_1) y0)) (K 0 0 80) (zdf a1_1 (yae IntKind.i64 y0 1) fun y0_4 => br (!y0_4) (zdj (yae IntKind.i64 y0 1) fun y0 => zde a1_1 y0 fun y0 => zar a0 (ltI a1_0 4) 0 y0 fun y0 y1 => zaq a0 y0 y1 fun y0_5 y1_1 y2 y3 y4 => br (!(eqI y0_5 a1_0 && (eqN 6 y1_1 a1_1 && (eqI y2 a1_2 && eqN 6 y3 a1_3)))) (K 0 0 80) (K y0 y1 0)) (zdj (yae IntKind.i64 y0 1) fun y0_5 => zde a1_1 y0_5 fun y0_6 => zar a0 (ltI a1_0 4) (yaj IntKind.i64 (yae IntKind.i64 a1_2 y0_1) y0) y0_6 fun y0 y1 => zaq a0 y0 y1 fun y0_7 y1_1 y2 y3 y4 => br (!(eqI y0_7 a1_0 && (eqN 6 y1_1 a1_1 && (eqI y2 a1_2 && eqN 6 y3 a1_3)))) (K 0 0 80) (K y0 y1 0)))))) (zaq a0 0 0 fun y0 y1 y2 y3 y4 => br (!(eqI y0 a1_0 && (eqN 6 y1 a1_1 && (eqI y2 a1_2 && eqN 6 y3 a1_3)))) (K 0 0 80) (K 0 0 0))))))) (br (eqI a1_0 9) (zdh a1_3 fun y0_1 => br (leI y0 y0_1) (K 0 0 80) (zcp a0 fun y0 => zar a0 false (yaj IntKind.i64 (ya0 IntKind.i64 2 y0) 1) a1_3 fun y0 y1 => zaq a0 y0 y1 fun y0_2 y1_1 y2 y3 y4 => br (!(eqI y0_2 a1_0 && (eqN 6 y1_1 a1_1 && (eqI y2 a1_2 && eqN 6 y3 a1_3)))) (K 0 0 80) (K y0 y1 0))) (br (eqI a1_0 2) (br (eqI a1_0 2) (zcq a0 fun y0_1 => zdh a1_1 fun y0_2 => br (ltI y0 y0_2) (K 0 0 80) (br (ltI (yaj IntKind.i64 (yae IntKind.i64 a1_2 y0_1) y0) 1) (K 0 0 80) (zcp a0 fun y0_3 => br (ltI (ya0 IntKind.i64 2 y0_3) (yaj IntKind.i64 (yae IntKind.i64 a1_2 y0_1) y0)) (K 0 0 80) (zdf a1_1 (yae IntKind.i64 y0 1) fun y0_4 => br (!y0_4) (zdj (yae IntKind.i64 y0 1) fun y0 => zde a1_1 y0 fun y0 => zar a0 (ltI a1_0 4) 0 y0 fun y0 y1 => zaq a0 y0 y1 fun y0_5 y1_1 y2 y3 y4 => br (!(eqI y0_5 a1_0 && (eqN 6 y1_1 a1_1 && (eqI y2 a1_2 && eqN 6 y3 a1_3)))) (K 0 0 80) (K y0 y1 0)) (zdj (yae IntKind.i64 y0 1) fun y0_5 => zde a1_1 y0_5 fun y0_6 => zar a0 (ltI a1_0 4) (yaj IntKind.i64 (yae IntKind.i64 a1_2 y0_1) y0) y0_6 fun y0 y1 => zaq a0 y0 y1 fun y0_7 y1_1 y2 y3 y4 => br (!(eqI y0_7 a1_0 && (eqN 6 y1_1 a1_1 && (eqI y2 a1_2 && eqN 6 y3 a1_3)))) (K 0 0 80) (K y0 y1 0)))))) (zaq a0 0 0 fun y0 y1 y2 y3 y4 => br (!(eqI y0 a1_0 && (eqN 6 y1 a1_1 && (eqI y2 a1_2 && eqN 6 y3 a1_3)))) (K 0 0 80) (K 0 0 0))) (br (eqI a1_0 5) (br (eqI a1_0 5) (zcq a0 fun y0_1 => zdh a1_1 fun y0_2 => br (ltI y0 y0_2) (K 0 0 80) (br (ltI (yaj IntKind.i64 (yae IntKind.i64 a1_2 y0_1) y0) 1) (K 0 0 80) (zcp a0 fun y0_3 => br (ltI (ya0 IntKind.i64 2 y0_3) (yaj IntKind.i64 (yae IntKind.i64 a1_2 y0_1) y0)) (K 0 0 80) (zdf a1_1 (yae IntKind.i64 y0 1) fun y0_4 => br (!y0_4) (zdj (yae IntKind.i64 y0 1) fun y0 => zde a1_1 y0 fun y0 => zar a0 (ltI a1_0 4) 0 y0 fun y0 y1 => zaq a0 y0 y1 fun y0_5 y1_1 y2 y3 y4 => br (!(eqI y0_5 a1_0 && (eqN 6 y1_1 a1_1 && (eqI y2 a1_2 && eqN 6 y3 a1_3)))) (K 0 0 80) (K y0 y1 0)) (zdj (yae IntKind.i64 y0 1) fun y0_5 => zde a1_1 y0_5 fun y0_6 => zar a0 (ltI a1_0 4) (yaj IntKind.i64 (yae IntKind.i64 a1_2 y0_1) y0) y0_6 fun y0 y1 => zaq a0 y0 y1 fun y0_7 y1_1 y2 y3 y4 => br (!(eqI y0_7 a1_0 && (eqN 6 y1_1 a1_1 && (eqI y2 a1_2 && eqN 6 y3 a1_3)))) (K 0 0 80) (K y0 y1 0)))))) (zaq a0 0 0 fun y0 y1 y2 y3 y4 => br (!(eqI y0 a1_0 && (eqN 6 y1 a1_1 && (eqI y2 a1_2 && eqN 6 y3 a1_3)))) (K 0 0 80) (K 0 0 0))) (br (eqI a1_0 1) (br (eqI a1_0 1) (zcq a0 fun y0_1 => zdh a1_1 fun y0_2 => br (ltI y0 y0_2) (K 0 0 80) (br (ltI (yaj IntKind.i64 (yae IntKind.i64 a1_2 y0_1) y0) 1) (K 0 0 80) (zcp a0 fun y0_3 => br (ltI (ya0 IntKind.i64 2 y0_3) (yaj IntKind.i64 (yae IntKind.i64 a1_2 y0_1) y0)) (K 0 0 80) (zdf a1_1 (yae IntKind.i64 y0 1) fun y0_4 => br (!y0_4) (zdj (yae IntKind.i64 y0 1) fun y0 => zde a1_1 y0 fun y0 => zar a0 (ltI a1_0 4) 0 y0 fun y0 y1 => zaq a0 y0 y1 fun y0_5 y1_1 y2 y3 y4 => br (!(eqI y0_5 a1_0 && (eqN 6 y1_1 a1_1 && (eqI y2 a1_2 && eqN 6 y3 a1_3)))) (K 0 0 80) (K y0 y1 0)) (zdj (yae IntKind.i64 y0 1) fun y0_5 => zde a1_1 y0_5 fun y0_6 => zar a0 (ltI a1_0 4) (yaj IntKind.i64 (yae IntKind.i64 a1_2 y0_1) y0) y0_6 fun y0 y1 => zaq a0 y0 y1 fun y0_7 y1_1 y2 y3 y4 => br (!(eqI y0_7 a1_0 && (eqN 6 y1_1 a1_1 && (eqI y2 a1_2 && eqN 6 y3 a1_3)))) (K 0 0 80) (K y0 y1 0)))))) (zaq a0 0 0 fun y0 y1 y2 y3 y4 => br (!(eqI y0 a1_0 && (eqN 6 y1 a1_1 && (eqI y2 a1_2 && eqN 6 y3 a1_3)))) (K 0 0 80) (K 0 0 0))) (br (eqI a1_0 6) (zcq a0 fun y0_1 => zdh a1_1 fun y0_2 => br (ltI y0 y0_2) (K 0 0 80) (br (ltI (yaj IntKind.i64 (yae IntKind.i64 a1_2 y0_1) y0) 1) (K 0 0 80) (zcp a0 fun y0_3 => br (ltI (ya0 IntKind.i64 2 y0_3) (yaj IntKind.i64 (yae IntKind.i64 a1_2 y0_1) y0)) (K 0 0 80) (zdf a1_1 (yae IntKind.i64 y0 1) fun y0_4 => br (!y0_4) (zdj (yae IntKind.i64 y0 1) fun y0 => zde a1_1 y0 fun y0 => zar a0 (ltI a1_0 4) 0 y0 fun y0 y1 => zaq a0 y0 y1 fun y0_5 y1_1 y2 y3 y4 => br (!(eqI y0_5 a1_0 && (eqN 6 y1_1 a1_1 && (eqI y2 a1_2 && eqN 6 y3 a1_3)))) (K 0 0 80) (K y0 y1 0)) (zdj (yae IntKind.i64 y0 1) fun y0_5 => zde a1_1 y0_5 fun y0_6 => zar a0 (ltI a1_0 4) (yaj IntKind.i64 (yae IntKind.i64 a1_2 y0_1) y0) y0_6 fun y0 y1 => zaq a0 y0 y1 fun y0_7 y1_1 y2 y3 y4 => br (!(eqI y0_7 a1_0 && (eqN 6 y1_1 a1_1 && (eqI y2 a1_2 && eqN 6 y3 a1_3)))) (K 0 0 80) (K y0 y1 0)))))) (zaq a0 0 0 fun y0 y1 y2 y3 y4 => br (!(eqI y0 a1_0 && (eqN 6 y1 a1_1 && (eqI y2 a1_2 && eqN 6 y3 a1_3)))) (K 0 0 80) (K 0 0 0))))))))))) (br (eqI a1_0 7) (zcs a0 (ltI a1_0 4) fun y0 y1 => zaq a0 y0 y1 fun y0_1 y1_1 y2 y3 y4 => br (!(eqI y0_1 a1_0 && (eqN 6 y1_1 a1_1 && (eqI y2 a1_2 && eqN 6 y3 a1_3)))) (K 0 0 80) (K y0 y1 0)) (br (eqI a1_0 3) (br (eqI a1_0 3) (zcv a0 (ltI a1_0 4) fun y0 y1 => zaq a0 y0 y1 fun y0_1 y1_1 y2 y3 y4 => br (!(eqI y0_1 a1_0 && (eqN 6 y1_1 a1_1 && (eqI y2 a1_2 && eqN 6 y3 a1_3)))) (K 0 0 80) (K y0 y1 0)) (br (eqI a1_0 8) (br (eqI a1_0 8) (zdh a1_3 fun y0_1 => br (leI y0 y0_1) (K 0 0 80) (zcp a0 fun y0 => zar a0 false (yaj IntKind.i64 (ya0 IntKind.i64 2 y0) 1) a1_3 fun y0 y1 => zaq a0 y0 y1 fun y0_2 y1_1 y2 y3 y4 => br (!(eqI y0_2 a1_0 && (eqN 6 y1_1 a1_1 && (eqI y2 a1_2 && eqN 6 y3 a1_3)))) (K 0 0 80) (K y0 y1 0))) (br (eqI a1_0 2) (br (eqI a1_0 2) (zcq a0 fun y0_1 => zdh a1_1 fun y0_2 => br (ltI y0 y0_2) (K 0 0 80) (br (ltI (yaj IntKind.i64 (yae IntKind.i64 a1_2 y0_1) y0) 1) (K 0 0 80) (zcp a0 fun y0_3 => br (ltI (ya0 IntKind.i64 2 y0_3) (yaj IntKind.i64 (yae IntKind.i64 a1_2 y0_1) y0)) (K 0 0 80) (zdf a1_1 (yae IntKind.i64 y0 1) fun y0_4 => br (!y0_4) (zdj (yae IntKind.i64 y0 1) fun y0 => zde a1_1 y0 fun y0 => zar a0 (ltI a1_0 4) 0 y0 fun y0 y1 => zaq a0 y0 y1 fun y0_5 y1_1 y2 y3 y4 => br (!(eqI y0_5 a1_0 && (eqN 6 y1_1 a1_1 && (eqI y2 a1_2 && eqN 6 y3 a1_3)))) (K 0 0 80) (K y0 y1 0)) (zdj (yae IntKind.i64 y0 1) fun y0_5 => zde a1_1 y0_5 fun y0_6 => zar a0 (ltI a1_0 4) (yaj IntKind.i64 (yae IntKind.i64 a1_2 y0_1) y0) y0_6 fun y0 y1 => zaq a0 y0 y1 fun y0_7 y1_1 y2 y3 y4 => br (!(eqI y0_7 a1_0 && (eqN 6 y1_1 a1_1 && (eqI y2 a1_2 && eqN 6 y3 a1_3)))) (K 0 0 80) (K y0 y1 0)))))) (zaq a0 0 0 fun y0 y1 y2 y3 y4 => br (!(eqI y0 a1_0 && (eqN 6 y1 a1_1 && (eqI y2 a1_2 && eqN 6 y3 a1_3)))) (K 0 0 80) (K 0 0 0))) (br (eqI a1_0 5) (br (eqI a1_0 5) (zcq a0 fun y0_1 => zdh a1_1 fun y0_2 => br (ltI y0 y0_2) (K 0 0 80) (br (ltI (yaj IntKind.i64 (yae IntKind.i64 a1_2 y0_1) y0) 1) (K 0 0 80) (zcp a0 fun y0_3 => br (ltI (ya0 IntKind.i64 2 y0_3) (yaj IntKind.i64 (yae IntKind.i64 a1_2 y0_1) y0)) (K 0 0 80) (zdf a1_1 (yae IntKind.i64 y0 1) fun y0_4 => br (!y0_4) (zdj (yae IntKind.i64 y0 1) fun y0 => zde a1_1 y0 fun y0 => zar a0 (ltI a1_0 4) 0 y0 fun y0 y1 => zaq a0 y0 y1 fun y0_5 y1_1 y2 y3 y4 => br (!(eqI y0_5 a1_0 && (eqN 6 y1_1 a1_1 && (eqI y2 a1_2 && eqN 6 y3 a1_3)))) (K 0 0 80) (K y0 y1 0)) (zdj (yae IntKind.i64 y0 1) fun y0_5 => zde a1_1 y0_5 fun y0_6 => zar a0 (ltI a1_0 4) (yaj IntKind.i64 (yae IntKind.i64 a1_2 y0_1) y0) y0_6 fun y0 y1 => zaq a0 y0 y1 fun y0_7 y1_1 y2 y3 y4 => br (!(eqI y0_7 a1_0 && (eqN 6 y1_1 a1_1 && (eqI y2 a1_2 && eqN 6 y3 a1_3)))) (K 0 0 80) (K y0 y1 0)))))) (zaq a0 0 0 fun y0 y1 y2 y3 y4 => br (!(eqI y0 a1_0 && (eqN 6 y1 a1_1 && (eqI y2 a1_2 && eqN 6 y3 a1_3)))) (K 0 0 80) (K 0 0 0))) (br (eqI a1_0 1) (br (eqI a1_0 1) (zcq a0 fun y0_1 => zdh a1_1 fun y0_2 => br (ltI y0 y0_2) (K 0 0 80) (br (ltI (yaj IntKind.i64 (yae IntKind.i64 a1_2 y0_1) y0) 1) (K 0 0 80) (zcp a0 fun y0_3 => br (ltI (ya0 IntKind.i64 2 y0_3) (yaj IntKind.i64 (yae IntKind.i64 a1_2 y0_1) y0)) (K 0 0 80) (zdf a1_1 (yae IntKind.i64 y0 1) fun y0_4 => br (!y0_4) (zdj (yae IntKind.i64 y0 1) fun y0 => zde a1_1 y0 fun y0 => zar a0 (ltI a1_0 4) 0 y0 fun y0 y1 => zaq a0 y0 y1 fun y0_5 y1_1 y2 y3 y4 => br (!(eqI y0_5 a1_0 && (eqN 6 y1_1 a1_1 && (eqI y2 a1_2 && eqN 6 y3 a1_3)))) (K 0 0 80) (K y0 y1 0)) (zdj (yae IntKind.i64 y0 1) fun y0_5 => zde a1_1 y0_5 fun y0_6 => zar a0 (ltI a1_0 4) (yaj IntKind.i64 (yae IntKind.i64 a1_2 y0_1) y0) y0_6 fun y0 y1 => zaq a0 y0 y1 fun y0_7 y1_1 y2 y3 y4 => br (!(eqI y0_7 a1_0 && (eqN 6 y1_1 a1_1 && (eqI y2 a1_2 && eqN 6 y3 a1_3)))) (K 0 0 80) (K y0 y1 0)))))) (zaq a0 0 0 fun y0 y1 y2 y3 y4 => br (!(eqI y0 a1_0 && (eqN 6 y1 a1_1 && (eqI y2 a1_2 && eqN 6 y3 a1_3)))) (K 0 0 80) (K 0 0 0))) (br (eqI a1_0 6) (zcq a0 fun y0_1 => zdh a1_1 fun y0_2 => br (ltI y0 y0_2) (K 0 0 80) (br (ltI (yaj IntKind.i64 (yae IntKind.i64 a1_2 y0_1) y0) 1) (K 0 0 80) (zcp a0 fun y0_3 => br (ltI (ya0 IntKind.i64 2 y0_3) (yaj IntKind.i64 (yae IntKind.i64 a1_2 y0_1) y0)) (K 0 0 80) (zdf a1_1 (yae IntKind.i64 y0 1) fun y0_4 => br (!y0_4) (zdj (yae IntKind.i64 y0 1) fun y0 => zde a1_1 y0 fun y0 => zar a0 (ltI a1_0 4) 0 y0 fun y0 y1 => zaq a0 y0 y1 fun y0_5 y1_1 y2 y3 y4 => br (!(eqI y0_5 a1_0 && (eqN 6 y1_1 a1_1 && (eqI y2 a1_2 && eqN 6 y3 a1_3)))) (K 0 0 80) (K y0 y1 0)) (zdj (yae IntKind.i64 y0 1) fun y0_5 => zde a1_1 y0_5 fun y0_6 => zar a0 (ltI a1_0 4) (yaj IntKind.i64 (yae IntKind.i64 a1_2 y0_1) y0) y0_6 fun y0 y1 => zaq a0 y0 y1 fun y0_7 y1_1 y2 y3 y4 => br (!(eqI y0_7 a1_0 && (eqN 6 y1_1 a1_1 && (eqI y2 a1_2 && eqN 6 y3 a1_3)))) (K 0 0 80) (K y0 y1 0)))))) (zaq a0 0 0 fun y0 y1 y2 y3 y4 => br (!(eqI y0 a1_0 && (eqN 6 y1 a1_1 && (eqI y2 a1_2 && eqN 6 y3 a1_3)))) (K 0 0 80) (K 0 0 0))))))) (br (eqI a1_0 9) (zdh a1_3 fun y0_1 => br (leI y0 y0_1) (K 0 0 80) (zcp a0 fun y0 => zar a0 false (yaj IntKind.i64 (ya0 IntKind.i64 2 y0) 1) a1_3 fun y0 y1 => zaq a0 y0 y1 fun y0_2 y1_1 y2 y3 y4 => br (!(eqI y0_2 a1_0 && (eqN 6 y1_1 a1_1 && (eqI y2 a1_2 && eqN 6 y3 a1_3)))) (K 0 0 80) (K y0 y1 0))) (br (eqI a1_0 2) (br (eqI a1_0 2) (zcq a0 fun y0_1 => zdh a1_1 fun y0_2 => br (ltI y0 y0_2) (K 0 0 80) (br (ltI (yaj IntKind.i64 (yae IntKind.i64 a1_2 y0_1) y0) 1) (K 0 0 80) (zcp a0 fun y0_3 => br (ltI (ya0 IntKind.i64 2 y0_3) (yaj IntKind.i64 (yae IntKind.i64 a1_2 y0_1) y0)) (K 0 0 80) (zdf a1_1 (yae IntKind.i64 y0 1) fun y0_4 => br (!y0_4) (zdj (yae IntKind.i64 y0 1) fun y0 => zde a1_1 y0 fun y0 => zar a0 (ltI a1_0 4) 0 y0 fun y0 y1 => zaq a0 y0 y1 fun y0_5 y1_1 y2 y3 y4 => br (!(eqI y0_5 a1_0 && (eqN 6 y1_1 a1_1 && (eqI y2 a1_2 && eqN 6 y3 a1_3)))) (K 0 0 80) (K y0 y1 0)) (zdj (yae IntKind.i64 y0 1) fun y0_5 => zde a1_1 y0_5 fun y0_6 => zar a0 (ltI a1_0 4) (yaj IntKind.i64 (yae IntKind.i64 a1_2 y0_1) y0) y0_6 fun y0 y1 => zaq a0 y0 y1 fun y0_7 y1_1 y2 y3 y4 => br (!(eqI y0_7 a1_0 && (eqN 6 y1_1 a1_1 && (eqI y2 a1_2 && eqN 6 y3 a1_3)))) (K 0 0 80) (K y0 y1 0)))))) (zaq a0 0 0 fun y0 y1 y2 y3 y4 => br (!(eqI y0 a1_0 && (eqN 6 y1 a1_1 && (eqI y2 a1_2 && eqN 6 y3 a1_3)))) (K 0 0 80) (K 0 0 0))) (br (eqI a1_0 5) (br (eqI a1_0 5) (zcq a0 fun y0_1 => zdh a1_1 fun y0_2 => br (ltI y0 y0_2) (K 0 0 80) (br (ltI (yaj IntKind.i64 (yae IntKind.i64 a1_2 y0_1) y0) 1) (K 0 0 80) (zcp a0 fun y0_3 => br (ltI (ya0 IntKind.i64 2 y0_3) (yaj IntKind.i64 (yae IntKind.i64 a1_2 y0_1) y0)) (K 0 0 80) (zdf a1_1 (yae IntKind.i64 y0 1) fun y0_4 => br (!y0_4) (zdj (yae IntKind.i64 y0 1) fun y0 => zde a1_1 y0 fun y0 => zar a0 (ltI a1_0 4) 0 y0 fun y0 y1 => zaq a0 y0 y1 fun y0_5 y1_1 y2 y3 y4 => br (!(eqI y0_5 a1_0 && (eqN 6 y1_1 a1_1 && (eqI y2 a1_2 && eqN 6 y3 a1_3)))) (K 0 0 80) (K y0 y1 0)) (zdj (yae IntKind.i64 y0 1) fun y0_5 => zde a1_1 y0_5 fun y0_6 => zar a0 (ltI a1_0 4) (yaj IntKind.i64 (yae IntKind.i64 a1_2 y0_1) y0) y0_6 fun y0 y1 => zaq a0 y0 y1 fun y0_7 y1_1 y2 y3 y4 => br (!(eqI y0_7 a1_0 && (eqN 6 y1_1 a1_1 && (eqI y2 a1_2 && eqN 6 y3 a1_3)))) (K 0 0 80) (K y0 y1 0)))))) (zaq a0 0 0 fun y0 y1 y2 y3 y4 => br (!(eqI y0 a1_0 && (eqN 6 y1 a1_1 && (eqI y2 a1_2 && eqN 6 y3 a1_3)))) (K 0 0 80) (K 0 0 0))) (br (eqI a1_0 1) (br (eqI a1_0 1) (zcq a0 fun y0_1 => zdh a1_1 fun y0_2 => br (ltI y0 y0_2) (K 0 0 80) (br (ltI (yaj IntKind.i64 (yae IntKind.i64 a1_2 y0_1) y0) 1) (K 0 0 80) (zcp a0 fun y0_3 => br (ltI (ya0 IntKind.i64 2 y0_3) (yaj IntKind.i64 (yae IntKind.i64 a1_2 y0_1) y0)) (K 0 0 80) (zdf a1_1 (yae IntKind.i64 y0 1) fun y0_4 => br (!y0_4) (zdj (yae IntKind.i64 y0 1) fun y0 => zde a1_1 y0 fun y0 => zar a0 (ltI a1_0 4) 0 y0 fun y0 y1 => zaq a0 y0 y1 fun y0_5 y1_1 y2 y3 y4 => br (!(eqI y0_5 a1_0 && (eqN 6 y1_1 a1_1 && (eqI y2 a1_2 && eqN 6 y3 a1_3)))) (K 0 0 80) (K y0 y1 0)) (zdj (yae IntKind.i64 y0 1) fun y0_5 => zde a1_1 y0_5 fun y0_6 => zar a0 (ltI a1_0 4) (yaj IntKind.i64 (yae IntKind.i64 a1_2 y0_1) y0) y0_6 fun y0 y1 => zaq a0 y0 y1 fun y0_7 y1_1 y2 y3 y4 => br (!(eqI y0_7 a1_0 && (eqN 6 y1_1 a1_1 && (eqI y2 a1_2 && eqN 6 y3 a1_3)))) (K 0 0 80) (K y0 y1 0)))))) (zaq a0 0 0 fun y0 y1 y2 y3 y4 => br (!(eqI y0 a1_0 && (eqN 6 y1 a1_1 && (eqI y2 a1_2 && eqN 6 y3 a1_3)))) (K 0 0 80) (K 0 0 0))) (br (eqI a1_0 6) (zcq a0 fun y0_1 => zdh a1_1 fun y0_2 => br (ltI y0 y0_2) (K 0 0 80) (br (ltI (yaj IntKind.i64 (yae IntKind.i64 a1_2 y0_1) y0) 1) (K 0 0 80) (zcp a0 fun y0_3 => br (ltI (ya0 IntKind.i64 2 y0_3) (yaj IntKind.i64 (yae IntKind.i64 a1_2 y0_1) y0)) (K 0 0 80) (zdf a1_1 (yae IntKind.i64 y0 1) fun y0_4 => br (!y0_4) (zdj (yae IntKind.i64 y0 1) fun y0 => zde a1_1 y0 fun y0 => zar a0 (ltI a1_0 4) 0 y0 fun y0 y1 => zaq a0 y0 y1 fun y0_5 y1_1 y2 y3 y4 => br (!(eqI y0_5 a1_0 && (eqN 6 y1_1 a1_1 && (eqI y2 a1_2 && eqN 6 y3 a1_3)))) (K 0 0 80) (K y0 y1 0)) (zdj (yae IntKind.i64 y0 1) fun y0_5 => zde a1_1 y0_5 fun y0_6 => zar a0 (ltI a1_0 4) (yaj IntKind.i64 (yae IntKind.i64 a1_2 y0_1) y0) y0_6 fun y0 y1 => zaq a0 y0 y1 fun y0_7 y1_1 y2 y3 y4 => br (!(eqI y0_7 a1_0 && (eqN 6 y1_1 a1_1 && (eqI y2 a1_2 && eqN 6 y3 a1_3)))) (K 0 0 80) (K y0 y1 0)))))) (zaq a0 0 0 fun y0 y1 y2 y3 y4 => br (!(eqI y0 a1_0 && (eqN 6 y1 a1_1 && (eqI y2 a1_2 && eqN 6 y3 a1_3)))) (K 0 0 80) (K 0 0 0))))))))) (br (eqI a1_0 4) (zcv a0 (ltI a1_0 4) fun y0 y1 => zaq a0 y0 y1 fun y0_1 y1_1 y2 y3 y4 => br (!(eqI y0_1 a1_0 && (eqN 6 y1_1 a1_1 && (eqI y2 a1_2 && eqN 6 y3 a1_3)))) (K 0 0 80) (K y0 y1 0)) (br (eqI a1_0 8) (br (eqI a1_0 8) (zdh a1_3 fun y0_1 => br (leI y0 y0_1) (K 0 0 80) (zcp a0 fun y0 => zar a0 false (yaj IntKind.i64 (ya0 IntKind.i64 2 y0) 1) a1_3 fun y0 y1 => zaq a0 y0 y1 fun y0_2 y1_1 y2 y3 y4 => br (!(eqI y0_2 a1_0 && (eqN 6 y1_1 a1_1 && (eqI y2 a1_2 && eqN 6 y3 a1_3)))) (K 0 0 80) (K y0 y1 0))) (br (eqI a1_0 2) (br (eqI a1_0 2) (zcq a0 fun y0_1 => zdh a1_1 fun y0_2 => br (ltI y0 y0_2) (K 0 0 80) (br (ltI (yaj IntKind.i64 (yae IntKind.i64 a1_2 y0_1) y0) 1) (K 0 0 80) (zcp a0 fun y0_3 => br (ltI (ya0 IntKind.i64 2 y0_3) (yaj IntKind.i64 (yae IntKind.i64 a1_2 y0_1) y0)) (K 0 0 80) (zdf a1_1 (yae IntKind.i64 y0 1) fun y0_4 => br (!y0_4) (zdj (yae IntKind.i64 y0 1) fun y0 => zde a1_1 y0 fun y0 => zar a0 (ltI a1_0 4) 0 y0 fun y0 y1 => zaq a0 y0 y1 fun y0_5 y1_1 y2 y3 y4 => br (!(eqI y0_5 a1_0 && (eqN 6 y1_1 a1_1 && (eqI y2 a1_2 && eqN 6 y3 a1_3)))) (K 0 0 80) (K y0 y1 0)) (zdj (yae IntKind.i64 y0 1) fun y0_5 => zde a1_1 y0_5 fun y0_6 => zar a0 (ltI a1_0 4) (yaj IntKind.i64 (yae IntKind.i64 a1_2 y0_1) y0) y0_6 fun y0 y1 => zaq a0 y0 y1 fun y0_7 y1_1 y2 y3 y4 => br (!(eqI y0_7 a1_0 && (eqN 6 y1_1 a1_1 && (eqI y2 a1_2 && eqN 6 y3 a1_3)))) (K 0 0 80) (K y0 y1 0)))))) (zaq a0 0 0 fun y0 y1 y2 y3 y4 => br (!(eqI y0 a1_0 && (eqN 6 y1 a1_1 && (eqI y2 a1_2 && eqN 6 y3 a1_3)))) (K 0 0 80) (K 0 0 0))) (br (eqI a1_0 5) (br (eqI a1_0 5) (zcq a0 fun y0_1 => zdh a1_1 fun y0_2 => br (ltI y0 y0_2) (K 0 0 80) (br (ltI (yaj IntKind.i64 (yae IntKind.i64 a1_2 y0_1) y0) 1) (K 0 0 80) (zcp a0 fun y0_3 => br (ltI (ya0 IntKind.i64 2 y0_3) (yaj IntKind.i64 (yae IntKind.i64 a1_2 y0_1) y0)) (K 0 0 80) (zdf a1_1 (yae IntKind.i64 y0 1) fun y0_4 => br (!y0_4) (zdj (yae IntKind.i64 y0 1) fun y0 => zde a1_1 y0 fun y0 => zar a0 (ltI a1_0 4) 0 y0 fun y0 y1 => zaq a0 y0 y1 fun y0_5 y1_1 y2 y3 y4 => br (!(eqI y0_5 a1_0 && (eqN 6 y1_1 a1_1 && (eqI y2 a1_2 && eqN 6 y3 a1_3)))) (K 0 0 80) (K y0 y1 0)) (zdj (yae IntKind.i64 y0 1) fun y0_5 => zde a1_1 y0_5 fun y0_6 => zar a0 (ltI a1_0 4) (yaj IntKind.i64 (yae IntKind.i64 a1_2 y0_1) y0) y0_6 fun y0 y1 => zaq a0 y0 y1 fun y0_7 y1_1 y2 y3 y4 => br (!(eqI y0_7 a1_0 && (eqN 6 y1_1 a1_1 && (eqI y2 a1_2 && eqN 6 y3 a1_3)))) (K 0 0 80) (K y0 y1 0)))))) (zaq a0 0 0 fun y0 y1 y2 y3 y4 => br (!(eqI y0 a1_0 && (eqN 6 y1 a1_1 && (eqI y2 a1_2 && eqN 6 y3 a1_3)))) (K 0 0 80) (K 0 0 0))) (br (eqI a1_0 1) (br (eqI a1_0 1) (zcq a0 fun y0_1 => zdh a1_1 fun y0_2 => br (ltI y0 y0_2) (K 0 0 80) (br (ltI (yaj IntKind.i64 (yae IntKind.i64 a1_2 y0_1) y0) 1) (K 0 0 80) (zcp a0 fun y0_3 => br (ltI (ya0 IntKind.i64 2 y0_3) (yaj IntKind.i64 (yae IntKind.i64 a1_2 y0_1) y0)) (K 0 0 80) (zdf a1_1 (yae IntKind.i64 y0 1) fun y0_4 => br (!y0_4) (zdj (yae IntKind.i64 y0 1) fun y0 => zde a1_1 y0 fun y0 => zar a0 (ltI a1_0 4) 0 y0 fun y0 y1 => zaq a0 y0 y1 fun y0_5 y1_1 y2 y3 y4 => br (!(eqI y0_5 a1_0 && (eqN 6 y1_1 a1_1 && (eqI y2 a1_2 && eqN 6 y3 a1_3)))) (K 0 0 80) (K y0 y1 0)) (zdj (yae IntKind.i64 y0 1) fun y0_5 => zde a1_1 y0_5 fun y0_6 => zar a0 (ltI a1_0 4) (yaj IntKind.i64 (yae IntKind.i64 a1_2 y0_1) y0) y0_6 fun y0 y1 => zaq a0 y0 y1 fun y0_7 y1_1 y2 y3 y4 => br (!(eqI y0_7 a1_0 && (eqN 6 y1_1 a1_1 && (eqI y2 a1_2 && eqN 6 y3 a1_3)))) (K 0 0 80) (K y0 y1 0)))))) (zaq a0 0 0 fun y0 y1 y2 y3 y4 => br (!(eqI y0 a1_0 && (eqN 6 y1 a1_1 && (eqI y2 a1_2 && eqN 6 y3 a1_3)))) (K 0 0 80) (K 0 0 0))) (br (eqI a1_0 6) (zcq a0 fun y0_1 => zdh a1_1 fun y0_2 => br (ltI y0 y0_2) (K 0 0 80) (br (ltI (yaj IntKind.i64 (yae IntKind.i64 a1_2 y0_1) y0) 1) (K 0 0 80) (zcp a0 fun y0_3 => br (ltI (ya0 IntKind.i64 2 y0_3) (yaj IntKind.i64 (yae IntKind.i64 a1_2 y0_1) y0)) (K 0 0 80) (zdf a1_1 (yae IntKind.i64 y0 1) fun y0_4 => br (!y0_4) (zdj (yae IntKind.i64 y0 1) fun y0 => zde a1_1 y0 fun y0 => zar a0 (ltI a1_0 4) 0 y0 fun y0 y1 => zaq a0 y0 y1 fun y0_5 y1_1 y2 y3 y4 => br (!(eqI y0_5 a1_0 && (eqN 6 y1_1 a1_1 && (eqI y2 a1_2 && eqN 6 y3 a1_3)))) (K 0 0 80) (K y0 y1 0)) (zdj (yae IntKind.i64 y0 1) fun y0_5 => zde a1_1 y0_5 fun y0_6 => zar a0 (ltI a1_0 4) (yaj IntKind.i64 (yae IntKind.i64 a1_2 y0_1) y0) y0_6 fun y0 y1 => zaq a0 y0 y1 fun y0_7 y1_1 y2 y3 y4 => br (!(eqI y0_7 a1_0 && (eqN 6 y1_1 a1_1 && (eqI y2 a1_2 && eqN 6 y3 a1_3)))) (K 0 0 80) (K y0 y1 0)))))) (zaq a0 0 0 fun y0 y1 y2 y3 y4 => br (!(eqI y0 a1_0 && (eqN 6 y1 a1_1 && (eqI y2 a1_2 && eqN 6 y3 a1_3)))) (K 0 0 80) (K 0 0 0))))))) (br (eqI a1_0 9) (zdh a1_3 fun y0_1 => br (leI y0 y0_1) (K 0 0 80) (zcp a0 fun y0 => zar a0 false (yaj IntKind.i64 (ya0 IntKind.i64 2 y0) 1) a1_3 fun y0 y1 => zaq a0 y0 y1 fun y0_2 y1_1 y2 y3 y4 => br (!(eqI y0_2 a1_0 && (eqN 6 y1_1 a1_1 && (eqI y2 a1_2 && eqN 6 y3 a1_3)))) (K 0 0 80) (K y0 y1 0))) (br (eqI a1_0 2) (br (eqI a1_0 2) (zcq a0 fun y0_1 => zdh a1_1 fun y0_2 => br (ltI y0 y0_2) (K 0 0 80) (br (ltI (yaj IntKind.i64 (yae IntKind.i64 a1_2 y0_1) y0) 1) (K 0 0 80) (zcp a0 fun y0_3 => br (ltI (ya0 IntKind.i64 2 y0_3) (yaj IntKind.i64 (yae IntKind.i64 a1_2 y0_1) y0)) (K 0 0 80) (zdf a1_1 (yae IntKind.i64 y0 1) fun y0_4 => br (!y0_4) (zdj (yae IntKind.i64 y0 1) fun y0 => zde a1_1 y0 fun y0 => zar a0 (ltI a1_0 4) 0 y0 fun y0 y1 => zaq a0 y0 y1 fun y0_5 y1_1 y2 y3 y4 => br (!(eqI y0_5 a1_0 && (eqN 6 y1_1 a1_1 && (eqI y2 a1_2 && eqN 6 y3 a1_3)))) (K 0 0 80) (K y0 y1 0)) (zdj (yae IntKind.i64 y0 1) fun y0_5 => zde a1_1 y0_5 fun y0_6 => zar a0 (ltI a1_0 4) (yaj IntKind.i64 (yae IntKind.i64 a1_2 y0_1) y0) y0_6 fun y0 y1 => zaq a0 y0 y1 fun y0_7 y1_1 y2 y3 y4 => br (!(eqI y0_7 a1_0 && (eqN 6 y1_1 a1_1 && (eqI y2 a1_2 && eqN 6 y3 a1_3)))) (K 0 0 80) (K y0 y1 0)))))) (zaq a0 0 0 fun y0 y1 y2 y3 y4 => br (!(eqI y0 a1_0 && (eqN 6 y1 a1_1 && (eqI y2 a1_2 && eqN 6 y3 a1_3)))) (K 0 0 80) (K 0 0 0))) (br (eqI a1_0 5) (br (eqI a1_0 5) (zcq a0 fun y0_1 => zdh a1_1 fun y0_2 => br (ltI y0 y0_2) (K 0 0 80) (br (ltI (yaj IntKind.i64 (yae IntKind.i64 a1_2 y0_1) y0) 1) (K 0 0 80) (zcp a0 fun y0_3 => br (ltI (ya0 IntKind.i64 2 y0_3) (yaj IntKind.i64 (yae IntKind.i64 a1_2 y0_1) y0)) (K 0 0 80) (zdf a1_1 (yae IntKind.i64 y0 1) fun y0_4 => br (!y0_4) (zdj (yae IntKind.i64 y0 1) fun y0 => zde a1_1 y0 fun y0 => zar a0 (ltI a1_0 4) 0 y0 fun y0 y1 => zaq a0 y0 y1 fun y0_5 y1_1 y2 y3 y4 => br (!(eqI y0_5 a1_0 && (eqN 6 y1_1 a1_1 && (eqI y2 a1_2 && eqN 6 y3 a1_3)))) (K 0 0 80) (K y0 y1 0)) (zdj (yae IntKind.i64 y0 1) fun y0_5 => zde a1_1 y0_5 fun y0_6 => zar a0 (ltI a1_0 4) (yaj IntKind.i64 (yae IntKind.i64 a1_2 y0_1) y0) y0_6 fun y0 y1 => zaq a0 y0 y1 fun y0_7 y1_1 y2 y3 y4 => br (!(eqI y0_7 a1_0 && (eqN 6 y1_1 a1_1 && (eqI y2 a1_2 && eqN 6 y3 a1_3)))) (K 0 0 80) (K y0 y1 0)))))) (zaq a0 0 0 fun y0 y1 y2 y3 y4 => br (!(eqI y0 a1_0 && (eqN 6 y1 a1_1 && (eqI y2 a1_2 && eqN 6 y3 a1_3)))) (K 0 0 80) (K 0 0 0))) (br (eqI a1_0 1) (br (eqI a1_0 1) (zcq a0 fun y0_1 => zdh a1_1 fun y0_2 => br (ltI y0 y0_2) (K 0 0 80) (br (ltI (yaj IntKind.i64 (yae IntKind.i64 a1_2 y0_1) y0) 1) (K 0 0 80) (zcp a0 fun y0_3 => br (ltI (ya0 IntKind.i64 2 y0_3) (yaj IntKind.i64 (yae IntKind.i64 a1_2 y0_1) y0)) (K 0 0 80) (zdf a1_1 (yae IntKind.i64 y0 1) fun y0_4 => br (!y0_4) (zdj (yae IntKind.i64 y0 1) fun y0 => zde a1_1 y0 fun y0 => zar a0 (ltI a1_0 4) 0 y0 fun y0 y1 => zaq a0 y0 y1 fun y0_5 y1_1 y2 y3 y4 => br (!(eqI y0_5 a1_0 && (eqN 6 y1_1 a1_1 && (eqI y2 a1_2 && eqN 6 y3 a1_3)))) (K 0 0 80) (K y0 y1 0)) (zdj (yae IntKind.i64 y0 1) fun y0_5 => zde a1_1 y0_5 fun y0_6 => zar a0 (ltI a1_0 4) (yaj IntKind.i64 (yae IntKind.i64 a1_2 y0_1) y0) y0_6 fun y0 y1 => zaq a0 y0 y1 fun y0_7 y1_1 y2 y3 y4 => br (!(eqI y0_7 a1_0 && (eqN 6 y1_1 a1_1 && (eqI y2 a1_2 && eqN 6 y3 a1_3)))) (K 0 0 80) (K y0 y1 0)))))) (zaq a0 0 0 fun y0 y1 y2 y3 y4 => br (!(eqI y0 a1_0 && (eqN 6 y1 a1_1 && (eqI y2 a1_2 && eqN 6 y3 a1_3)))) (K 0 0 80) (K 0 0 0))) (br (eqI a1_0 6) (zcq a0 fun y0_1 => zdh a1_1 fun y0_2 => br (ltI y0 y0_2) (K 0 0 80) (br (ltI (yaj IntKind.i64 (yae IntKind.i64 a1_2 y0_1) y0) 1) (K 0 0 80) (zcp a0 fun y0_3 => br (ltI (ya0 IntKind.i64 2 y0_3) (yaj IntKind.i64 (yae IntKind.i64 a1_2 y0_1) y0)) (K 0 0 80) (zdf a1_1 (yae IntKind.i64 y0 1) fun y0_4 => br (!y0_4) (zdj (yae IntKind.i64 y0 1) fun y0 => zde a1_1 y0 fun y0 => zar a0 (ltI a1_0 4) 0 y0 fun y0 y1 => zaq a0 y0 y1 fun y0_5 y1_1 y2 y3 y4 => br (!(eqI y0_5 a1_0 && (eqN 6 y1_1 a1_1 && (eqI y2 a1_2 && eqN 6 y3 a1_3)))) (K 0 0 80) (K y0 y1 0)) (zdj (yae IntKind.i64 y0 1) fun y0_5 => zde a1_1 y0_5 fun y0_6 => zar a0 (ltI a1_0 4) (yaj IntKind.i64 (yae IntKind.i64 a1_2 y0_1) y0) y0_6 fun y0 y1 => zaq a0 y0 y1 fun y0_7 y1_1 y2 y3 y4 => br (!(eqI y0_7 a1_0 && (eqN 6 y1_1 a1_1 && (eqI y2 a1_2 && eqN 6 y3 a1_3)))) (K 0 0 80) (K y0 y1 0)))))) (zaq a0 0 0 fun y0 y1 y2 y3 y4 => br (!(eqI y0 a1_0 && (eqN 6 y1 a1_1 && (eqI y2 a1_2 && eqN 6 y3 a1_3)))) (K 0 0 80) (K 0 0 0))))))))))))
noncomputable def zam := shut zam.d
theorem zam.is : zam = zam.d := shut_is _
def zao.d (a0 : Int) (a1_0 : Int) (a1_1 : Int) (K : Bool → Prop) : Prop :=
  zcr a0 a1_0 a1_1 fun y0 => br y0 (zdl a1_0 a1_1 fun y0 => zcu a0 fun y0_1 => zdf y0 (yae IntKind.i64 y0_1 1) fun y0 => K y0) (K false)
noncomputable def zao := shut zao.d
theorem zao.is : zao = zao.d := shut_is _
def zap.d (a0 : Int) (a1_0 : Int) (a1_1 : Int) (K : List UInt8 → Int → Prop) : Prop :=
  zaq a0 a1_0 a1_1 fun y0 y1 y2 y3 y4 => br (!eqI y4 0) (K [] y4) (zao a0 a1_0 a1_1 fun y0_1 => br y0_1 (br (eqI y0 9) (zdp y3 fun y0 => gd (leI (5 + ↑(List.length y0)) 9223372036854775807) (K ([45] ++ [110, 97, 110, 58] ++ y0) 0)) (br (eqI y0 8) (zdp y3 fun y0 => gd (leI (6 + ↑(List.length y0)) 9223372036854775807) (K ([45] ++ [115, 110, 97, 110, 58] ++ y0) 0)) (br (eqI y0 0) (br (eqI y0 0) (K ([45] ++ [105, 110, 102]) 0) (br (eqI y0 3) (br (eqI y0 3) (K ([45] ++ [48]) 0) (zdp y1 fun y0 => gd (leI (1 + ↑(List.length y0)) 9223372036854775807) (gd (leI (↑(List.length ([45] ++ y0)) + 1) 9223372036854775807) (zdb y2 fun y0_2 => gd (leI (↑(List.length ([45] ++ y0 ++ [112])) + ↑(List.length y0_2)) 9223372036854775807) (K ([45] ++ y0 ++ [112] ++ y0_2) 0))))) (br (eqI y0 4) (K ([45] ++ [48]) 0) (zdp y1 fun y0 => gd (leI (1 + ↑(List.length y0)) 9223372036854775807) (gd (leI (↑(List.length ([45] ++ y0)) + 1) 9223372036854775807) (zdb y2 fun y0_2 => gd (leI (↑(List.length ([45] ++ y0 ++ [112])) + ↑(List.length y0_2)) 9223372036854775807) (K ([45] ++ y0 ++ [112] ++ y0_2) 0))))))) (br (eqI y0 7) (K ([45] ++ [105, 110, 102]) 0) (br (eqI y0 3) (br (eqI y0 3) (K ([45] ++ [48]) 0) (zdp y1 fun y0 => gd (leI (1 + ↑(List.length y0)) 9223372036854775807) (gd (leI (↑(List.length ([45] ++ y0)) + 1) 9223372036854775807) (zdb y2 fun y0_2 => gd (leI (↑(List.length ([45] ++ y0 ++ [112])) + ↑(List.length y0_2)) 9223372036854775807) (K ([45] ++ y0 ++ [112] ++ y0_2) 0))))) (br (eqI y0 4) (K ([45] ++ [48]) 0) (zdp y1 fun y0 => gd (leI (1 + ↑(List.length y0)) 9223372036854775807) (gd (leI (↑(List.length ([45] ++ y0)) + 1) 9223372036854775807) (zdb y2 fun y0_2 => gd (leI (↑(List.length ([45] ++ y0 ++ [112])) + ↑(List.length y0_2)) 9223372036854775807) (K ([45] ++ y0 ++ [112] ++ y0_2) 0)))))))))) (br (eqI y0 9) (zdp y3 fun y0 => gd (leI (4 + ↑(List.length y0)) 9223372036854775807) (K ([] ++ [110, 97, 110, 58] ++ y0) 0)) (br (eqI y0 8) (zdp y3 fun y0 => gd (leI (5 + ↑(List.length y0)) 9223372036854775807) (K ([] ++ [115, 110, 97, 110, 58] ++ y0) 0)) (br (eqI y0 0) (br (eqI y0 0) (K ([] ++ [105, 110, 102]) 0) (br (eqI y0 3) (br (eqI y0 3) (K ([] ++ [48]) 0) (zdp y1 fun y0 => gd (leI (0 + ↑(List.length y0)) 9223372036854775807) (gd (leI (↑(List.length ([] ++ y0)) + 1) 9223372036854775807) (zdb y2 fun y0_2 => gd (leI (↑(List.length ([] ++ y0 ++ [112])) + ↑(List.length y0_2)) 9223372036854775807) (K ([] ++ y0 ++ [112] ++ y0_2) 0))))) (br (eqI y0 4) (K ([] ++ [48]) 0) (zdp y1 fun y0 => gd (leI (0 + ↑(List.length y0)) 9223372036854775807) (gd (leI (↑(List.length ([] ++ y0)) + 1) 9223372036854775807) (zdb y2 fun y0_2 => gd (leI (↑(List.length ([] ++ y0 ++ [112])) + ↑(List.length y0_2)) 9223372036854775807) (K ([] ++ y0 ++ [112] ++ y0_2) 0))))))) (br (eqI y0 7) (K ([] ++ [105, 110, 102]) 0) (br (eqI y0 3) (br (eqI y0 3) (K ([] ++ [48]) 0) (zdp y1 fun y0 => gd (leI (0 + ↑(List.length y0)) 9223372036854775807) (gd (leI (↑(List.length ([] ++ y0)) + 1) 9223372036854775807) (zdb y2 fun y0_2 => gd (leI (↑(List.length ([] ++ y0 ++ [112])) + ↑(List.length y0_2)) 9223372036854775807) (K ([] ++ y0 ++ [112] ++ y0_2) 0))))) (br (eqI y0 4) (K ([] ++ [48]) 0) (zdp y1 fun y0 => gd (leI (0 + ↑(List.length y0)) 9223372036854775807) (gd (leI (↑(List.length ([] ++ y0)) + 1) 9223372036854775807) (zdb y2 fun y0_2 => gd (leI (↑(List.length ([] ++ y0 ++ [112])) + ↑(List.length y0_2)) 9223372036854775807) (K ([] ++ y0 ++ [112] ++ y0_2) 0)))))))))))
noncomputable def zap := shut zap.d
theorem zap.is : zap = zap.d := shut_is _
def zau.d (a0 : Int) (a1 : List UInt8) (K : Int → Int → Bool → Prop) : Prop :=
  zdd a1 [45] fun y0 y1 => br (eqS y0 [105, 110, 102]) (zcs a0 y1 fun y0 y1 => K y0 y1 true) (br (eqS y0 [48]) (zcv a0 y1 fun y0 y1 => K y0 y1 true) (zdc y0 [58] fun y0_1 y1_1 y2 => br y2 (zdn y1_1 fun y0 y1_2 => br (!eqI y1_2 0) (K 0 0 false) (zdh y0 fun y0_2 => zct a0 fun y0_3 => br (leI y0_3 y0_2) (K 0 0 false) (zcp a0 fun y0_4 => zar a0 y1 (yaj IntKind.i64 (ya0 IntKind.i64 2 y0_4) 1) y0 fun y0 y1 => K y0 y1 true))) (zdc y0 [112] fun y0 y1_2 y2 => zdn y0 fun y0 y1_3 => zda y1_2 (fun y0_2 => br (!y2) (K 0 0 false) (br (!eqI y1_3 0) (K 0 0 false) (zdh y0 fun y0_3 => zct a0 fun y0_4 => br (eqI y0_3 y0_4) (zam a0 6 y0 y0_2 (fun x => 0) fun y0 y1_4 y2 => br y1 (zal a0 y0 y1_4 fun y0 y1 => K y0 y1 (eqI y2 0)) (K y0 y1_4 (eqI y2 0))) (zam a0 5 y0 y0_2 (fun x => 0) fun y0 y1_4 y2 => br y1 (zal a0 y0 y1_4 fun y0 y1 => K y0 y1 (eqI y2 0)) (K y0 y1_4 (eqI y2 0)))))) fun y0 => br (!y2) (K 0 0 false) (br (!eqI y1_3 0) (K 0 0 false) (K 0 0 false)))))
noncomputable def zau := shut zau.d
theorem zau.is : zau = zau.d := shut_is _
def zan.d (a0 : Int) (a1 : List UInt8) (K : Int → Int → Int → Prop) : Prop :=
  zco a0 fun y0 => br (!eqI y0 0) (K 0 0 2) (zau a0 a1 fun y0 y1 y2 => zap a0 y0 y1 fun y0_1 y1_1 => br (!y2) (K 0 0 80) (br (!eqI y1_1 0) (K 0 0 80) (br (!eqS y0_1 a1) (K 0 0 80) (K y0 y1 0))))
noncomputable def zan := shut zan.d
theorem zan.is : zan = zan.d := shut_is _
end Go.Ev.S

/- The functions as the evaluator has them: what each comes to. -/
set_option maxRecDepth 100000
set_option linter.unusedVariables false
set_option linter.unusedSimpArgs false
namespace Go.Ev.S
open Go Go.Ev
def zaz.d (a0 : Int) (a1 : Int) (K : Bool → Prop) : Prop :=
  br (leI 0 a1) (br (ltI a1 64) (gd (!ltI (cvI IntKind.u64 a1) 0) (K (eqI (yfL IntKind.u64 (ya7 IntKind.u64 a0 (cvI IntKind.u64 a1)) 1) 1))) (K false)) (K false)
noncomputable def zaz := shut zaz.d
theorem zaz.is : zaz = zaz.d := shut_is _
def zay.l3.step (again : Int → Int → Bool → Int → Int → Prop) (k0 : Bool → Int → Prop) (x0 : Int) (x1 : Int) (x2 : Bool) (x3 : Int) (x4 : Int) : Prop :=
  br (ltI x4 64) (zaz x0 x4 fun y0 => zaz x1 x4 fun y0_1 => br (!ygS (!ygS y0 y0_1) x2) (gd (!ltI (cvI IntKind.u64 x4) 0) (br y0 (br y0_1 (again x0 x1 true (orI IntKind.u64 x3 (ybR IntKind.u64 1 (cvI IntKind.u64 x4))) (yaj IntKind.i64 x4 1)) (br y0 (br x2 (again x0 x1 true (orI IntKind.u64 x3 (ybR IntKind.u64 1 (cvI IntKind.u64 x4))) (yaj IntKind.i64 x4 1)) (br y0_1 (again x0 x1 x2 (orI IntKind.u64 x3 (ybR IntKind.u64 1 (cvI IntKind.u64 x4))) (yaj IntKind.i64 x4 1)) (again x0 x1 false (orI IntKind.u64 x3 (ybR IntKind.u64 1 (cvI IntKind.u64 x4))) (yaj IntKind.i64 x4 1)))) (br y0_1 (again x0 x1 x2 (orI IntKind.u64 x3 (ybR IntKind.u64 1 (cvI IntKind.u64 x4))) (yaj IntKind.i64 x4 1)) (again x0 x1 false (orI IntKind.u64 x3 (ybR IntKind.u64 1 (cvI IntKind.u64 x4))) (yaj IntKind.i64 x4 1))))) (br y0 (br x2 (again x0 x1 true (orI IntKind.u64 x3 (ybR IntKind.u64 1 (cvI IntKind.u64 x4))) (yaj IntKind.i64 x4 1)) (br y0_1 (again x0 x1 x2 (orI IntKind.u64 x3 (ybR IntKind.u64 1 (cvI IntKind.u64 x4))) (yaj IntKind.i64 x4 1)) (again x0 x1 false (orI IntKind.u64 x3 (ybR IntKind.u64 1 (cvI IntKind.u64 x4))) (yaj IntKind.i64 x4 1)))) (br y0_1 (again x0 x1 x2 (orI IntKind.u64 x3 (ybR IntKind.u64 1 (cvI IntKind.u64 x4))) (yaj IntKind.i64 x4 1)) (again x0 x1 false (orI IntKind.u64 x3 (ybR IntKind.u64 1 (cvI IntKind.u64 x4))) (yaj IntKind.i64 x4 1)))))) (br y0 (br y0_1 (again x0 x1 true x3 (yaj IntKind.i64 x4 1)) (br y0 (br x2 (again x0 x1 true x3 (yaj IntKind.i64 x4 1)) (br y0_1 (again x0 x1 x2 x3 (yaj IntKind.i64 x4 1)) (again x0 x1 false x3 (yaj IntKind.i64 x4 1)))) (br y0_1 (again x0 x1 x2 x3 (yaj IntKind.i64 x4 1)) (again x0 x1 false x3 (yaj IntKind.i64 x4 1))))) (br y0 (br x2 (again x0 x1 true x3 (yaj IntKind.i64 x4 1)) (br y0_1 (again x0 x1 x2 x3 (yaj IntKind.i64 x4 1)) (again x0 x1 false x3 (yaj IntKind.i64 x4 1)))) (br y0_1 (again x0 x1 x2 x3 (yaj IntKind.i64 x4 1)) (again x0 x1 false x3 (yaj IntKind.i64 x4 1)))))) (k0 x2 x3)
def zay.l3 (k0 : Bool → Int → Prop) : Nat → Int → Int → Bool → Int → Int → Prop
  | 0 => fun _ _ _ _ _ => False
  | n + 1 => zay.l3.step (zay.l3 k0 n) k0
def zay.l3.entry : yay := ⟨LV.mk 260 [(0, 260)] 192 0 false, 0, 50, fun vs H K => match vs, H with
  | [EV.int IntKind.u64 x0, EV.int IntKind.u64 x1, EV.bool x2, EV.int IntKind.u64 x3, EV.int IntKind.i64 x4], [] => ∃ n, zay.l3 (fun y0 y1 => K (.exit 0) [EV.bool y0, EV.int IntKind.u64 y1] []) n x0 x1 x2 x3 x4
  | _, _ => False⟩
def zay.d (a0 : Int) (a1 : Int) (a2 : Bool) (K : Int → Bool → Prop) : Prop :=
  ∃ n, zay.l3 (fun y0 y1 => K y1 y0) n a0 a1 a2 0 0
noncomputable def zay := shut zay.d
theorem zay.is : zay = zay.d := shut_is _
def zba.l3.step (again : Int → Int → Int → Prop) (k0 : Int → Prop) (x0 : Int) (x1 : Int) (x2 : Int) : Prop :=
  br (ltI x2 64) (zaz x0 x2 fun y0 => br y0 (again x0 (yaj IntKind.i64 x2 1) (yaj IntKind.i64 x2 1)) (again x0 x1 (yaj IntKind.i64 x2 1))) (k0 x1)
def zba.l3 (k0 : Int → Prop) : Nat → Int → Int → Int → Prop
  | 0 => fun _ _ _ => False
  | n + 1 => zba.l3.step (zba.l3 k0 n) k0
def zba.l3.entry : yay := ⟨LV.mk 8 [(0, 8)] 4 0 false, 0, 15, fun vs H K => match vs, H with
  | [EV.int IntKind.u64 x0, EV.int IntKind.i64 x1, EV.int IntKind.i64 x2], [] => ∃ n, zba.l3 (fun y0 => K (.exit 0) [EV.int IntKind.i64 y0] []) n x0 x1 x2
  | _, _ => False⟩
def zba.d (a0 : Int) (K : Int → Prop) : Prop :=
  ∃ n, zba.l3 (fun y0 => K y0) n a0 0 0
noncomputable def zba := shut zba.d
theorem zba.is : zba = zba.d := shut_is _
end Go.Ev.S

/- The functions as the evaluator has them: what each comes to. -/
set_option maxRecDepth 100000
set_option linter.unusedVariables false
set_option linter.unusedSimpArgs false
namespace Go.Ev.S
open Go Go.Ev
def zbb.l4.step (again : Bool → Int → (Nat → Int) → (Nat → Int) → (Nat → Int) → (Nat → Int) → Prop) (k0 : Bool → (Nat → Int) → (Nat → Int) → Prop) (x0 : Bool) (x1 : Int) (x2 : Nat → Int) (x3 : Nat → Int) (x4 : Nat → Int) (x5 : Nat → Int) : Prop :=
  br (ltI x1 6) (gd (leI 0 x1 && ltI x1 6) (gd (leI 0 x1 && ltI x1 6) (zay (x2 (Int.toNat x1)) (x3 (Int.toNat x1)) x0 fun y0 y1 => gd (leI 0 x1 && ltI x1 6) (again y1 (yaj IntKind.i64 x1 1) x2 x3 x4 (upd x5 (Int.toNat x1) y0))))) (k0 x0 x4 x5)
def zbb.l4 (k0 : Bool → (Nat → Int) → (Nat → Int) → Prop) : Nat → Bool → Int → (Nat → Int) → (Nat → Int) → (Nat → Int) → (Nat → Int) → Prop
  | 0 => fun _ _ _ _ _ _ => False
  | n + 1 => zbb.l4.step (zbb.l4 k0 n) k0
def zbb.l4.entry : yay := ⟨LV.mk 208 [(0, 208)] 48 0 false, 0, 32, fun vs H K => match vs, H with
  | [EV.ptr 0 [], EV.ptr 1 [], EV.ptr 2 [], EV.ptr 3 [], EV.bool x0, EV.int IntKind.i64 x1], [some (EV.arr IntKind.u64 6 x2), some (EV.arr IntKind.u64 6 x3), some (EV.arr IntKind.u64 6 x4), some (EV.arr IntKind.u64 6 x5)] => ∃ n, zbb.l4 (fun y0 y1 y2 => K (.exit 0) [EV.ptr 0 [], EV.ptr 1 [], EV.bool y0] [some (EV.arr IntKind.u64 6 y1), some (EV.arr IntKind.u64 6 y2)]) n x0 x1 x2 x3 x4 x5
  | _, _ => False⟩
def zbb.d (a0 : Nat → Int) (a1 : Nat → Int) (K : (Nat → Int) → Bool → Prop) : Prop :=
  ∃ n, zbb.l4 (fun y0 y1 y2 => K y2 y0) n false 0 a0 a1 (fun x => 0) fun x => 0
noncomputable def zbb := shut zbb.d
theorem zbb.is : zbb = zbb.d := shut_is _
def zbc.l2.step (again : Int → (Nat → Int) → (Nat → Int) → (Nat → Int) → Prop) (k0 : (Nat → Int) → (Nat → Int) → Prop) (x0 : Int) (x1 : Nat → Int) (x2 : Nat → Int) (x3 : Nat → Int) : Prop :=
  br (ltI x0 6) (gd (leI 0 x0 && ltI x0 6) (gd (leI 0 x0 && ltI x0 6) (gd (leI 0 x0 && ltI x0 6) (again (yaj IntKind.i64 x0 1) (upd x1 (Int.toNat x0) (yfL IntKind.u64 (x1 (Int.toNat x0)) (x2 (Int.toNat x0)))) x2 x3)))) (k0 x1 x3)
def zbc.l2 (k0 : (Nat → Int) → (Nat → Int) → Prop) : Nat → Int → (Nat → Int) → (Nat → Int) → (Nat → Int) → Prop
  | 0 => fun _ _ _ _ => False
  | n + 1 => zbc.l2.step (zbc.l2 k0 n) k0
def zbc.l2.entry : yay := ⟨LV.mk 20 [(0, 20)] 16 0 false, 0, 20, fun vs H K => match vs, H with
  | [EV.ptr 0 [], EV.ptr 1 [], EV.ptr 2 [], EV.int IntKind.i64 x0], [some (EV.arr IntKind.u64 6 x1), some (EV.arr IntKind.u64 6 x2), some (EV.arr IntKind.u64 6 x3)] => ∃ n, zbc.l2 (fun y0 y1 => K (.exit 0) [EV.ptr 0 [], EV.ptr 1 []] [some (EV.arr IntKind.u64 6 y0), some (EV.arr IntKind.u64 6 y1)]) n x0 x1 x2 x3
  | _, _ => False⟩
def zbc.d (a0 : Nat → Int) (a1 : Nat → Int) (K : (Nat → Int) → Prop) : Prop :=
  ∃ n, zbc.l2 (fun y0 y1 => K y0) n 0 a0 a1 fun x => 0
noncomputable def zbc := shut zbc.d
theorem zbc.is : zbc = zbc.d := shut_is _
def zbd.d (a0 : Nat → Int) (a1 : Int) (K : Bool → Prop) : Prop :=
  br (leI 0 a1) (br (ltI a1 384) (gd (leI 0 (yaQ IntKind.i64 a1 64) && ltI (yaQ IntKind.i64 a1 64) 6) (zaz (a0 (Int.toNat (yaQ IntKind.i64 a1 64))) (ybv IntKind.i64 a1 64) fun y0 => K y0)) (K false)) (K false)
noncomputable def zbd := shut zbd.d
theorem zbd.is : zbd = zbd.d := shut_is _
def zbe.d (a0 : Int) (K : Int → Prop) : Prop :=
  br (ltI a0 0) (K 0) (br (ltI 384 a0) (K 384) (K a0))
noncomputable def zbe := shut zbe.d
theorem zbe.is : zbe = zbe.d := shut_is _
def zbf.d (a0 : Int) (K : Int → Bool → Prop) : Prop :=
  br (leI 48 a0) (br (leI a0 57) (K (cvI IntKind.u64 (yae IntKind.u8 a0 48)) true) (br (leI 97 a0) (br (leI a0 102) (K (yaj IntKind.u64 (cvI IntKind.u64 (yae IntKind.u8 a0 97)) 10) true) (K 0 false)) (K 0 false))) (br (leI 97 a0) (br (leI a0 102) (K (yaj IntKind.u64 (cvI IntKind.u64 (yae IntKind.u8 a0 97)) 10) true) (K 0 false)) (K 0 false))
noncomputable def zbf := shut zbf.d
theorem zbf.is : zbf = zbf.d := shut_is _
def zbg.l5.step (again : Int → Bool → Int → (Nat → Int) → (Nat → Int) → (Nat → Int) → Prop) (k0 : Bool → (Nat → Int) → (Nat → Int) → Prop) (x0 : Int) (x1 : Bool) (x2 : Int) (x3 : Nat → Int) (x4 : Nat → Int) (x5 : Nat → Int) : Prop :=
  br (ltI x2 384) (zbd x3 x2 fun y0 => br y0 (br (ltI (yaj IntKind.i64 x2 x0) 384) (gd (leI 0 (yaQ IntKind.i64 (yaj IntKind.i64 x2 x0) 64) && ltI (yaQ IntKind.i64 (yaj IntKind.i64 x2 x0) 64) 6) (gd (!ltI (cvI IntKind.u64 (ybv IntKind.i64 (yaj IntKind.i64 x2 x0) 64)) 0) (gd (leI 0 (yaQ IntKind.i64 (yaj IntKind.i64 x2 x0) 64) && ltI (yaQ IntKind.i64 (yaj IntKind.i64 x2 x0) 64) 6) (again x0 x1 (yaj IntKind.i64 x2 1) x3 x4 (upd x5 (Int.toNat (yaQ IntKind.i64 (yaj IntKind.i64 x2 x0) 64)) (orI IntKind.u64 (x5 (Int.toNat (yaQ IntKind.i64 (yaj IntKind.i64 x2 x0) 64))) (ybR IntKind.u64 1 (cvI IntKind.u64 (ybv IntKind.i64 (yaj IntKind.i64 x2 x0) 64))))))))) (again x0 true (yaj IntKind.i64 x2 1) x3 x4 x5)) (again x0 x1 (yaj IntKind.i64 x2 1) x3 x4 x5)) (k0 x1 x4 x5)
def zbg.l5 (k0 : Bool → (Nat → Int) → (Nat → Int) → Prop) : Nat → Int → Bool → Int → (Nat → Int) → (Nat → Int) → (Nat → Int) → Prop
  | 0 => fun _ _ _ _ _ _ => False
  | n + 1 => zbg.l5.step (zbg.l5 k0 n) k0
def zbg.l5.entry : yay := ⟨LV.mk 208 [(0, 208)] 48 0 false, 0, 42, fun vs H K => match vs, H with
  | [EV.int IntKind.i64 x0, EV.ptr 0 [], EV.ptr 1 [], EV.ptr 2 [], EV.bool x1, EV.int IntKind.i64 x2], [some (EV.arr IntKind.u64 6 x3), some (EV.arr IntKind.u64 6 x4), some (EV.arr IntKind.u64 6 x5)] => ∃ n, zbg.l5 (fun y0 y1 y2 => K (.exit 0) [EV.ptr 0 [], EV.ptr 1 [], EV.bool y0] [some (EV.arr IntKind.u64 6 y1), some (EV.arr IntKind.u64 6 y2)]) n x0 x1 x2 x3 x4 x5
  | _, _ => False⟩
def zbg.d (a0 : Nat → Int) (a1 : Int) (K : (Nat → Int) → Bool → Prop) : Prop :=
  zbe a1 fun y0 => ∃ n, zbg.l5 (fun y0 y1 y2 => K y2 y0) n y0 false 0 a0 (fun x => 0) fun x => 0
noncomputable def zbg := shut zbg.d
theorem zbg.is : zbg = zbg.d := shut_is _
def zbh.l2.step (again : Int → (Nat → Int) → Prop) (k0 : Int → Prop) (k1 : Prop) (x0 : Int) (x1 : Nat → Int) : Prop :=
  br (leI 0 x0) (gd (leI 0 x0 && ltI x0 6) (br (!eqI (x1 (Int.toNat x0)) 0) (gd (leI 0 x0 && ltI x0 6) (zba (x1 (Int.toNat x0)) fun y0 => k0 (yaj IntKind.i64 (ya0 IntKind.i64 64 x0) y0))) (again (yae IntKind.i64 x0 1) x1))) k1
def zbh.l2 (k0 : Int → Prop) (k1 : Prop) : Nat → Int → (Nat → Int) → Prop
  | 0 => fun _ _ => False
  | n + 1 => zbh.l2.step (zbh.l2 k0 k1 n) k0 k1
def zbh.l2.entry : yay := ⟨LV.mk 0 [(0, 0)] 4 0 false, 0, 19, fun vs H K => match vs, H with
  | [EV.ptr 0 [], EV.int IntKind.i64 x0], [some (EV.arr IntKind.u64 6 x1)] => ∃ n, zbh.l2 (fun y0 => K .ret [EV.int IntKind.i64 y0] []) (K (.exit 0) [] []) n x0 x1
  | _, _ => False⟩
def zbh.d (a0 : Nat → Int) (K : Int → Prop) : Prop :=
  ∃ n, zbh.l2 (fun y0 => K y0) (K 0) n 5 a0
noncomputable def zbh := shut zbh.d
theorem zbh.is : zbh = zbh.d := shut_is _
def zbi.l4.step (again : Int → Int → (Nat → Int) → (Nat → Int) → Prop) (k0 : (Nat → Int) → (Nat → Int) → Prop) (x0 : Int) (x1 : Int) (x2 : Nat → Int) (x3 : Nat → Int) : Prop :=
  br (ltI x1 x0) (gd (leI 0 (yaQ IntKind.i64 x1 64) && ltI (yaQ IntKind.i64 x1 64) 6) (gd (!ltI (cvI IntKind.u64 (ybv IntKind.i64 x1 64)) 0) (gd (leI 0 (yaQ IntKind.i64 x1 64) && ltI (yaQ IntKind.i64 x1 64) 6) (again x0 (yaj IntKind.i64 x1 1) x2 (upd x3 (Int.toNat (yaQ IntKind.i64 x1 64)) (orI IntKind.u64 (x3 (Int.toNat (yaQ IntKind.i64 x1 64))) (ybR IntKind.u64 1 (cvI IntKind.u64 (ybv IntKind.i64 x1 64))))))))) (k0 x2 x3)
def zbi.l4 (k0 : (Nat → Int) → (Nat → Int) → Prop) : Nat → Int → Int → (Nat → Int) → (Nat → Int) → Prop
  | 0 => fun _ _ _ _ => False
  | n + 1 => zbi.l4.step (zbi.l4 k0 n) k0
def zbi.l4.entry : yay := ⟨LV.mk 12 [(0, 12)] 4 0 false, 0, 25, fun vs H K => match vs, H with
  | [EV.int IntKind.i64 x0, EV.ptr 0 [], EV.ptr 1 [], EV.int IntKind.i64 x1], [some (EV.arr IntKind.u64 6 x2), some (EV.arr IntKind.u64 6 x3)] => ∃ n, zbi.l4 (fun y0 y1 => K (.exit 0) [EV.ptr 0 [], EV.ptr 1 []] [some (EV.arr IntKind.u64 6 y0), some (EV.arr IntKind.u64 6 y1)]) n x0 x1 x2 x3
  | _, _ => False⟩
def zbi.d (a0 : Int) (K : (Nat → Int) → Prop) : Prop :=
  zbe a0 fun y0 => ∃ n, zbi.l4 (fun y0 y1 => K y1) n y0 0 (fun x => 0) fun x => 0
noncomputable def zbi := shut zbi.d
theorem zbi.is : zbi = zbi.d := shut_is _
def zbj.d (a0 : Int) (K : (Nat → Int) → Prop) : Prop :=
  K (upd (fun x => 0) 0 a0)
noncomputable def zbj := shut zbj.d
theorem zbj.is : zbj = zbj.d := shut_is _
def zbk.d (a0_0 : Int) (a0_1 : Int) (K : (Nat → Int) → Prop) : Prop :=
  K (upd (upd (fun x => 0) 0 a0_1) 1 a0_0)
noncomputable def zbk := shut zbk.d
theorem zbk.is : zbk = zbk.d := shut_is _
def zbl.l5.step (again : List UInt8 → Int → (Nat → Int) → (Nat → Int) → Prop) (k0 : Int → (Nat → Int) → Prop) (k1 : (Nat → Int) → (Nat → Int) → Prop) (x0 : List UInt8) (x1 : Int) (x2 : Nat → Int) (x3 : Nat → Int) : Prop :=
  br (ltI x1 ↑(List.length x0)) (gd (leI 0 x1 && ltI x1 ↑(List.length x0)) (zbf (yar x0 (Int.toNat x1)) fun y0 y1 => br (!y1) (k0 20 fun x => 0) (zbg x3 4 fun y0_1 y1 => again x0 (yaj IntKind.i64 x1 1) x2 (upd y0_1 0 (orI IntKind.u64 (y0_1 0) y0))))) (k1 x2 x3)
def zbl.l5 (k0 : Int → (Nat → Int) → Prop) (k1 : (Nat → Int) → (Nat → Int) → Prop) : Nat → List UInt8 → Int → (Nat → Int) → (Nat → Int) → Prop
  | 0 => fun _ _ _ _ => False
  | n + 1 => zbl.l5.step (zbl.l5 k0 k1 n) k0 k1
def zbl.l5.entry : yay := ⟨LV.mk 20 [(0, 20)] 12 0 false, 0, 54, fun vs H K => match vs, H with
  | [EV.str x0, EV.ptr 0 [], EV.ptr 1 [], EV.int IntKind.i64 x1], [some (EV.arr IntKind.u64 6 x2), some (EV.arr IntKind.u64 6 x3)] => ∃ n, zbl.l5 (fun y0 y1 => K .ret [EV.ptr 0 [], EV.int IntKind.i64 y0] [some (EV.arr IntKind.u64 6 y1)]) (fun y0 y1 => K (.exit 0) [EV.ptr 0 [], EV.ptr 1 []] [some (EV.arr IntKind.u64 6 y0), some (EV.arr IntKind.u64 6 y1)]) n x0 x1 x2 x3
  | _, _ => False⟩
def zbl.d (a0 : List UInt8) (K : (Nat → Int) → Int → Prop) : Prop :=
  br (ltI (↑(List.length a0)) 1) (K (fun x => 0) 20) (br (ltI 96 ↑(List.length a0)) (K (fun x => 0) 20) (gd (ltI 0 ↑(List.length a0)) (br (eqI (yar a0 0) 48) (br (ltI 1 ↑(List.length a0)) (K (fun x => 0) 20) (∃ n, zbl.l5 (fun y0 y1 => K y1 y0) (fun y0 y1 => K y1 0) n a0 0 (fun x => 0) fun x => 0)) (∃ n, zbl.l5 (fun y0 y1 => K y1 y0) (fun y0 y1 => K y1 0) n a0 0 (fun x => 0) fun x => 0))))
noncomputable def zbl := shut zbl.d
theorem zbl.is : zbl = zbl.d := shut_is _
def zbm.l5.step (again : Int → Bool → Int → (Nat → Int) → (Nat → Int) → (Nat → Int) → Prop) (k0 : Bool → (Nat → Int) → (Nat → Int) → Prop) (x0 : Int) (x1 : Bool) (x2 : Int) (x3 : Nat → Int) (x4 : Nat → Int) (x5 : Nat → Int) : Prop :=
  br (ltI x2 384) (zbd x3 x2 fun y0 => br y0 (br (leI x0 x2) (gd (leI 0 (yaQ IntKind.i64 (yae IntKind.i64 x2 x0) 64) && ltI (yaQ IntKind.i64 (yae IntKind.i64 x2 x0) 64) 6) (gd (!ltI (cvI IntKind.u64 (ybv IntKind.i64 (yae IntKind.i64 x2 x0) 64)) 0) (gd (leI 0 (yaQ IntKind.i64 (yae IntKind.i64 x2 x0) 64) && ltI (yaQ IntKind.i64 (yae IntKind.i64 x2 x0) 64) 6) (again x0 x1 (yaj IntKind.i64 x2 1) x3 x4 (upd x5 (Int.toNat (yaQ IntKind.i64 (yae IntKind.i64 x2 x0) 64)) (orI IntKind.u64 (x5 (Int.toNat (yaQ IntKind.i64 (yae IntKind.i64 x2 x0) 64))) (ybR IntKind.u64 1 (cvI IntKind.u64 (ybv IntKind.i64 (yae IntKind.i64 x2 x0) 64))))))))) (again x0 true (yaj IntKind.i64 x2 1) x3 x4 x5)) (again x0 x1 (yaj IntKind.i64 x2 1) x3 x4 x5)) (k0 x1 x4 x5)
def zbm.l5 (k0 : Bool → (Nat → Int) → (Nat → Int) → Prop) : Nat → Int → Bool → Int → (Nat → Int) → (Nat → Int) → (Nat → Int) → Prop
  | 0 => fun _ _ _ _ _ _ => False
  | n + 1 => zbm.l5.step (zbm.l5 k0 n) k0
def zbm.l5.entry : yay := ⟨LV.mk 208 [(0, 208)] 48 0 false, 0, 41, fun vs H K => match vs, H with
  | [EV.int IntKind.i64 x0, EV.ptr 0 [], EV.ptr 1 [], EV.ptr 2 [], EV.bool x1, EV.int IntKind.i64 x2], [some (EV.arr IntKind.u64 6 x3), some (EV.arr IntKind.u64 6 x4), some (EV.arr IntKind.u64 6 x5)] => ∃ n, zbm.l5 (fun y0 y1 y2 => K (.exit 0) [EV.ptr 0 [], EV.ptr 1 [], EV.bool y0] [some (EV.arr IntKind.u64 6 y1), some (EV.arr IntKind.u64 6 y2)]) n x0 x1 x2 x3 x4 x5
  | _, _ => False⟩
def zbm.d (a0 : Nat → Int) (a1 : Int) (K : (Nat → Int) → Bool → Prop) : Prop :=
  zbe a1 fun y0 => ∃ n, zbm.l5 (fun y0 y1 y2 => K y2 y0) n y0 false 0 a0 (fun x => 0) fun x => 0
noncomputable def zbm := shut zbm.d
theorem zbm.is : zbm = zbm.d := shut_is _
def zbp.d (a0 : Int) (K : List UInt8 → Prop) : Prop :=
  gd (leI 0 a0 && (leI a0 (yaj IntKind.u64 a0 1) && leI (yaj IntKind.u64 a0 1) 16)) (K (ybw [48, 49, 50, 51, 52, 53, 54, 55, 56, 57, 97, 98, 99, 100, 101, 102] (Int.toNat a0) (Int.toNat (yaj IntKind.u64 a0 1))))
noncomputable def zbp := shut zbp.d
theorem zbp.is : zbp = zbp.d := shut_is _
def zbn.l3.step (again : List UInt8 → Int → (Nat → Int) → Prop) (k0 : List UInt8 → Prop) (x0 : List UInt8) (x1 : Int) (x2 : Nat → Int) : Prop :=
  br (leI 0 x1) (gd (leI 0 (yaQ IntKind.i64 x1 16) && ltI (yaQ IntKind.i64 x1 16) 6) (gd (!ltI (cvI IntKind.u64 (ya0 IntKind.i64 4 (ybv IntKind.i64 x1 16))) 0) (br (!eqS x0 []) (zbp (yfL IntKind.u64 (ya7 IntKind.u64 (x2 (Int.toNat (yaQ IntKind.i64 x1 16))) (cvI IntKind.u64 (ya0 IntKind.i64 4 (ybv IntKind.i64 x1 16)))) 15) fun y0 => gd (leI (↑(List.length x0) + ↑(List.length y0)) 9223372036854775807) (again (x0 ++ y0) (yae IntKind.i64 x1 1) x2)) (br (!eqI (yfL IntKind.u64 (ya7 IntKind.u64 (x2 (Int.toNat (yaQ IntKind.i64 x1 16))) (cvI IntKind.u64 (ya0 IntKind.i64 4 (ybv IntKind.i64 x1 16)))) 15) 0) (zbp (yfL IntKind.u64 (ya7 IntKind.u64 (x2 (Int.toNat (yaQ IntKind.i64 x1 16))) (cvI IntKind.u64 (ya0 IntKind.i64 4 (ybv IntKind.i64 x1 16)))) 15) fun y0 => gd (leI (↑(List.length x0) + ↑(List.length y0)) 9223372036854775807) (again (x0 ++ y0) (yae IntKind.i64 x1 1) x2)) (br (eqI x1 0) (zbp (yfL IntKind.u64 (ya7 IntKind.u64 (x2 (Int.toNat (yaQ IntKind.i64 x1 16))) (cvI IntKind.u64 (ya0 IntKind.i64 4 (ybv IntKind.i64 x1 16)))) 15) fun y0 => gd (leI (↑(List.length x0) + ↑(List.length y0)) 9223372036854775807) (again (x0 ++ y0) (yae IntKind.i64 x1 1) x2)) (again x0 (yae IntKind.i64 x1 1) x2)))))) (k0 x0)
def zbn.l3 (k0 : List UInt8 → Prop) : Nat → List UInt8 → Int → (Nat → Int) → Prop
  | 0 => fun _ _ _ => False
  | n + 1 => zbn.l3.step (zbn.l3 k0 n) k0
def zbn.l3.entry : yay := ⟨LV.mk 8 [(0, 8)] 4 0 false, 0, 35, fun vs H K => match vs, H with
  | [EV.ptr 0 [], EV.str x0, EV.int IntKind.i64 x1], [some (EV.arr IntKind.u64 6 x2)] => ∃ n, zbn.l3 (fun y0 => K (.exit 0) [EV.str y0] []) n x0 x1 x2
  | _, _ => False⟩
def zbn.d (a0 : Nat → Int) (K : List UInt8 → Prop) : Prop :=
  ∃ n, zbn.l3 (fun y0 => K y0) n [] 95 a0
noncomputable def zbn := shut zbn.d
theorem zbn.is : zbn = zbn.d := shut_is _
def zbo.d (a0 : Nat → Int) (K : Int → Int → Bool → Prop) : Prop :=
  br (!eqI (a0 2) 0) (K 0 0 false) (br (!eqI (a0 3) 0) (K 0 0 false) (br (!eqI (a0 4) 0) (K 0 0 false) (br (!eqI (a0 5) 0) (K 0 0 false) (K (a0 1) (a0 0) true))))
noncomputable def zbo := shut zbo.d
theorem zbo.is : zbo = zbo.d := shut_is _
end Go.Ev.S

/- The functions as the evaluator has them: what each comes to. -/
set_option maxRecDepth 100000
set_option linter.unusedVariables false
set_option linter.unusedSimpArgs false
namespace Go.Ev.S
open Go Go.Ev
end Go.Ev.S

/- The functions as the evaluator has them: what each comes to. -/
set_option maxRecDepth 100000
set_option linter.unusedVariables false
set_option linter.unusedSimpArgs false
namespace Go.Ev.S
open Go Go.Ev
def zbs.l4.step (again : Int → List UInt8 → Prop) (k0 : Int → List UInt8 → Prop) (x0 : Int) (x1 : List UInt8) : Prop :=
  br (ltI 9 x0) (gd (leI 0 (ybv IntKind.i64 x0 10) && (leI (ybv IntKind.i64 x0 10) (yaj IntKind.i64 (ybv IntKind.i64 x0 10) 1) && leI (yaj IntKind.i64 (ybv IntKind.i64 x0 10) 1) 10)) (gd (leI (↑(List.length (ybw [48, 49, 50, 51, 52, 53, 54, 55, 56, 57] (Int.toNat (ybv IntKind.i64 x0 10)) (Int.toNat (yaj IntKind.i64 (ybv IntKind.i64 x0 10) 1)))) + ↑(List.length x1)) 9223372036854775807) (again (yaQ IntKind.i64 x0 10) (ybw [48, 49, 50, 51, 52, 53, 54, 55, 56, 57] (Int.toNat (ybv IntKind.i64 x0 10)) (Int.toNat (yaj IntKind.i64 (ybv IntKind.i64 x0 10) 1)) ++ x1)))) (k0 x0 x1)
def zbs.l4 (k0 : Int → List UInt8 → Prop) : Nat → Int → List UInt8 → Prop
  | 0 => fun _ _ => False
  | n + 1 => zbs.l4.step (zbs.l4 k0 n) k0
def zbs.l4.entry : yay := ⟨LV.mk 9 [(0, 9)] 4 0 false, 0, 28, fun vs H K => match vs, H with
  | [EV.int IntKind.i64 x0, EV.str x1], [] => ∃ n, zbs.l4 (fun y0 y1 => K (.exit 0) [EV.int IntKind.i64 y0, EV.str y1] []) n x0 x1
  | _, _ => False⟩
def zbs.d (a0 : Int) (K : List UInt8 → Prop) : Prop :=
  br (ltI a0 0) False (∃ n, zbs.l4 (fun y0 y1 => gd (leI 0 y0 && (leI y0 (yaj IntKind.i64 y0 1) && leI (yaj IntKind.i64 y0 1) 10)) (gd (leI (↑(List.length (ybw [48, 49, 50, 51, 52, 53, 54, 55, 56, 57] (Int.toNat y0) (Int.toNat (yaj IntKind.i64 y0 1)))) + ↑(List.length y1)) 9223372036854775807) (K (ybw [48, 49, 50, 51, 52, 53, 54, 55, 56, 57] (Int.toNat y0) (Int.toNat (yaj IntKind.i64 y0 1)) ++ y1)))) n a0 [])
noncomputable def zbs := shut zbs.d
theorem zbs.is : zbs = zbs.d := shut_is _
def zbr.l4.step (again : Int → List UInt8 → Prop) (k0 : Int → List UInt8 → Prop) (x0 : Int) (x1 : List UInt8) : Prop :=
  br (ltI 9 x0) (gd (leI 0 (ybv IntKind.i64 x0 10) && (leI (ybv IntKind.i64 x0 10) (yaj IntKind.i64 (ybv IntKind.i64 x0 10) 1) && leI (yaj IntKind.i64 (ybv IntKind.i64 x0 10) 1) 10)) (gd (leI (↑(List.length (ybw [48, 49, 50, 51, 52, 53, 54, 55, 56, 57] (Int.toNat (ybv IntKind.i64 x0 10)) (Int.toNat (yaj IntKind.i64 (ybv IntKind.i64 x0 10) 1)))) + ↑(List.length x1)) 9223372036854775807) (again (yaQ IntKind.i64 x0 10) (ybw [48, 49, 50, 51, 52, 53, 54, 55, 56, 57] (Int.toNat (ybv IntKind.i64 x0 10)) (Int.toNat (yaj IntKind.i64 (ybv IntKind.i64 x0 10) 1)) ++ x1)))) (k0 x0 x1)
def zbr.l4 (k0 : Int → List UInt8 → Prop) : Nat → Int → List UInt8 → Prop
  | 0 => fun _ _ => False
  | n + 1 => zbr.l4.step (zbr.l4 k0 n) k0
def zbr.l4.entry : yay := ⟨LV.mk 9 [(0, 9)] 4 0 false, 0, 28, fun vs H K => match vs, H with
  | [EV.int IntKind.i64 x0, EV.str x1], [] => ∃ n, zbr.l4 (fun y0 y1 => K (.exit 0) [EV.int IntKind.i64 y0, EV.str y1] []) n x0 x1
  | _, _ => False⟩
def zbr.d (a0 : Int) (K : List UInt8 → Prop) : Prop :=
  br (ltI a0 0) (zbs (ykq IntKind.i64 a0) fun y0 => gd (leI (1 + ↑(List.length y0)) 9223372036854775807) (K ([45] ++ y0))) (∃ n, zbr.l4 (fun y0 y1 => gd (leI 0 y0 && (leI y0 (yaj IntKind.i64 y0 1) && leI (yaj IntKind.i64 y0 1) 10)) (gd (leI (↑(List.length (ybw [48, 49, 50, 51, 52, 53, 54, 55, 56, 57] (Int.toNat y0) (Int.toNat (yaj IntKind.i64 y0 1)))) + ↑(List.length y1)) 9223372036854775807) (K (ybw [48, 49, 50, 51, 52, 53, 54, 55, 56, 57] (Int.toNat y0) (Int.toNat (yaj IntKind.i64 y0 1)) ++ y1)))) n a0 [])
noncomputable def zbr := shut zbr.d
theorem zbr.is : zbr = zbr.d := shut_is _
def zbq.d (a0 : Int) (K : List UInt8 → Prop) : Prop :=
  zbr a0 fun y0 => K y0
noncomputable def zbq := shut zbq.d
theorem zbq.is : zbq = zbq.d := shut_is _
end Go.Ev.S

/- The functions as the evaluator has them: what each comes to. -/
set_option maxRecDepth 100000
set_option linter.unusedVariables false
set_option linter.unusedSimpArgs false
namespace Go.Ev.S
open Go Go.Ev
def zca.d (a0 : Int) (K : Int → Prop) : Prop :=
  br (eqI a0 2) (K 11) (br (eqI a0 0) (K 24) (br (eqI a0 1) (K 53) (br (eqI a0 3) (K 113) (K 0))))
noncomputable def zca := shut zca.d
theorem zca.is : zca = zca.d := shut_is _
def zcb.d (a0 : Int) (K : Bool → Prop) : Prop :=
  K (leI a0 3)
noncomputable def zcb := shut zcb.d
theorem zcb.is : zcb = zcb.d := shut_is _
def zcc.d (a0 : Int) (K : Int → Prop) : Prop :=
  br (eqI a0 2) (K 16) (br (eqI a0 0) (K 32) (br (eqI a0 1) (K 64) (br (eqI a0 3) (K 128) (K 0))))
noncomputable def zcc := shut zcc.d
theorem zcc.is : zcc = zcc.d := shut_is _
def zbt.d (a0 : Int) (a1 : Bool) (a2 : Int) (a3 : Nat → Int) (K : Int → Int → Prop) : Prop :=
  zcb a0 fun y0 => br (!y0) (K 0 0) (zbj (cvI IntKind.u64 a2) fun y0 => zca a0 fun y0_1 => zbg y0 (yae IntKind.i64 y0_1 1) fun y0 y1 => zbb y0 a3 fun y0 y1 => br a1 (zbj 1 fun y0_2 => zcc a0 fun y0_3 => zbg y0_2 (yae IntKind.i64 y0_3 1) fun y0_4 y1 => zbb y0 y0_4 fun y0 y1 => zbo y0 fun y0 y1 y2 => K y0 y1) (zbo y0 fun y0 y1 y2 => K y0 y1))
noncomputable def zbt := shut zbt.d
theorem zbt.is : zbt = zbt.d := shut_is _
def zbu.d (a0 : Int) (K : Int → Prop) : Prop :=
  br (eqI a0 2) (K 15) (br (eqI a0 0) (K 127) (br (eqI a0 1) (K 1023) (br (eqI a0 3) (K 16383) (K 0))))
noncomputable def zbu := shut zbu.d
theorem zbu.is : zbu = zbu.d := shut_is _
def zbv.d (a0 : Int) (K : Int → Prop) : Prop :=
  zcb a0 fun y0 => br (!y0) (K 0) (zbu a0 fun y0 => K (yae IntKind.i64 1 y0))
noncomputable def zbv := shut zbv.d
theorem zbv.is : zbv = zbv.d := shut_is _
def zbz.d (a0 : Int) (K : Int → Prop) : Prop :=
  zbu a0 fun y0 => K (yaj IntKind.i64 (ya0 IntKind.i64 2 y0) 1)
noncomputable def zbz := shut zbz.d
theorem zbz.is : zbz = zbz.d := shut_is _
def zbw.d (a0 : Int) (a1_0 : Int) (a1_1 : Int) (K : Bool → Int → (Nat → Int) → Prop) : Prop :=
  zbk a1_0 a1_1 fun y0 => zcc a0 fun y0_1 => zbd y0 (yae IntKind.i64 y0_1 1) fun y0_2 => zca a0 fun y0_3 => zbi (yae IntKind.i64 y0_3 1) fun y0_4 => zbc y0 y0_4 fun y0_5 => zca a0 fun y0_6 => zbm y0 (yae IntKind.i64 y0_6 1) fun y0 y1 => zbz a0 fun y0_7 => K y0_2 (yfL IntKind.i64 (cvI IntKind.i64 (y0 0)) y0_7) y0_5
noncomputable def zbw := shut zbw.d
theorem zbw.is : zbw = zbw.d := shut_is _
def zbx.d (a0 : Int) (a1_0 : Int) (a1_1 : Int) (K : Bool → Prop) : Prop :=
  zcb a0 fun y0 => br y0 (zbk a1_0 a1_1 fun y0 => zbh y0 fun y0 => zcc a0 fun y0_1 => K (leI y0 y0_1)) (K false)
noncomputable def zbx := shut zbx.d
theorem zbx.is : zbx = zbx.d := shut_is _
def zby.d (a0 : Int) (a1 : Bool) (K : Int → Int → Prop) : Prop :=
  zbz a0 fun y0 => zbt a0 a1 y0 (fun x => 0) fun y0 y1 => K y0 y1
noncomputable def zby := shut zby.d
theorem zby.is : zby = zby.d := shut_is _
def zcd.d (a0 : Int) (a1 : Bool) (K : Int → Int → Prop) : Prop :=
  zbt a0 a1 0 (fun x => 0) fun y0 y1 => K y0 y1
noncomputable def zcd := shut zcd.d
theorem zcd.is : zcd = zcd.d := shut_is _
end Go.Ev.S

/- The functions as the evaluator has them: what each comes to. -/
set_option maxRecDepth 100000
set_option linter.unusedVariables false
set_option linter.unusedSimpArgs false
namespace Go.Ev.S
open Go Go.Ev
def zce.d (a0 : Int) (a1_0 : Int) (a1_1 : Int) (K : Int → Prop) : Prop :=
  zbw a0 a1_0 a1_1 fun y0 y1 y2 => zbz a0 fun y0_1 => br (eqI y1 y0_1) (br (!eqN 6 y2 fun x => 0) (zca a0 fun y0 => zbd y2 (yae IntKind.i64 y0 2) fun y0 => br y0 (K 9) (K 8)) (br y0 (K 0) (K 7))) (br (!eqI y1 0) (br y0 (K 1) (K 6)) (br (!eqN 6 y2 fun x => 0) (br y0 (K 2) (K 5)) (br y0 (K 3) (K 4))))
noncomputable def zce := shut zce.d
theorem zce.is : zce = zce.d := shut_is _
def zcf.d (a0 : Int) (a1_0 : Int) (a1_1 : Int) (K : Int → Int → Prop) : Prop :=
  zbx a0 a1_0 a1_1 fun y0 => br (!y0) (K 0 0) (zbw a0 a1_0 a1_1 fun y0 y1 y2 => zbt a0 (!y0) y1 y2 fun y0 y1 => K y0 y1)
noncomputable def zcf := shut zcf.d
theorem zcf.is : zcf = zcf.d := shut_is _
def zci.d (a0 : Int) (a1_0 : Int) (a1_1 : Int) (K : Bool → Prop) : Prop :=
  zbx a0 a1_0 a1_1 fun y0 => br (!y0) (K false) (zbw a0 a1_0 a1_1 fun y0 y1 y2 => K y0)
noncomputable def zci := shut zci.d
theorem zci.is : zci = zci.d := shut_is _
def zck.d (a0 : Int) (a1_0 : Int) (a1_1 : Int) (K : Int → (Nat → Int) → Int → (Nat → Int) → Prop) : Prop :=
  zce a0 a1_0 a1_1 fun y0 => zbw a0 a1_0 a1_1 fun y0_1 y1 y2 => zca a0 fun y0_2 => br (eqI y0 8) (br (eqI y0 8) (K y0 (fun x => 0) 0 y2) (br (eqI y0 2) (br (eqI y0 2) (zbv a0 fun y0_3 => K y0 y2 (yaj IntKind.i64 (yae IntKind.i64 y0_3 y0_2) 1) fun x => 0) (br (eqI y0 1) (br (eqI y0 1) (zbj 1 fun y0_3 => zbg y0_3 (yae IntKind.i64 y0_2 1) fun y0_4 y1_1 => zbb y0_4 y2 fun y0_5 y1_2 => zbu a0 fun y0_6 => K y0 y0_5 (yaj IntKind.i64 (yae IntKind.i64 (yae IntKind.i64 y1 y0_6) y0_2) 1) fun x => 0) (K y0 (fun x => 0) 0 fun x => 0)) (br (eqI y0 6) (zbj 1 fun y0_3 => zbg y0_3 (yae IntKind.i64 y0_2 1) fun y0_4 y1_1 => zbb y0_4 y2 fun y0_5 y1_2 => zbu a0 fun y0_6 => K y0 y0_5 (yaj IntKind.i64 (yae IntKind.i64 (yae IntKind.i64 y1 y0_6) y0_2) 1) fun x => 0) (K y0 (fun x => 0) 0 fun x => 0)))) (br (eqI y0 5) (zbv a0 fun y0_3 => K y0 y2 (yaj IntKind.i64 (yae IntKind.i64 y0_3 y0_2) 1) fun x => 0) (br (eqI y0 1) (br (eqI y0 1) (zbj 1 fun y0_3 => zbg y0_3 (yae IntKind.i64 y0_2 1) fun y0_4 y1_1 => zbb y0_4 y2 fun y0_5 y1_2 => zbu a0 fun y0_6 => K y0 y0_5 (yaj IntKind.i64 (yae IntKind.i64 (yae IntKind.i64 y1 y0_6) y0_2) 1) fun x => 0) (K y0 (fun x => 0) 0 fun x => 0)) (br (eqI y0 6) (zbj 1 fun y0_3 => zbg y0_3 (yae IntKind.i64 y0_2 1) fun y0_4 y1_1 => zbb y0_4 y2 fun y0_5 y1_2 => zbu a0 fun y0_6 => K y0 y0_5 (yaj IntKind.i64 (yae IntKind.i64 (yae IntKind.i64 y1 y0_6) y0_2) 1) fun x => 0) (K y0 (fun x => 0) 0 fun x => 0)))))) (br (eqI y0 9) (K y0 (fun x => 0) 0 y2) (br (eqI y0 2) (br (eqI y0 2) (zbv a0 fun y0_3 => K y0 y2 (yaj IntKind.i64 (yae IntKind.i64 y0_3 y0_2) 1) fun x => 0) (br (eqI y0 1) (br (eqI y0 1) (zbj 1 fun y0_3 => zbg y0_3 (yae IntKind.i64 y0_2 1) fun y0_4 y1_1 => zbb y0_4 y2 fun y0_5 y1_2 => zbu a0 fun y0_6 => K y0 y0_5 (yaj IntKind.i64 (yae IntKind.i64 (yae IntKind.i64 y1 y0_6) y0_2) 1) fun x => 0) (K y0 (fun x => 0) 0 fun x => 0)) (br (eqI y0 6) (zbj 1 fun y0_3 => zbg y0_3 (yae IntKind.i64 y0_2 1) fun y0_4 y1_1 => zbb y0_4 y2 fun y0_5 y1_2 => zbu a0 fun y0_6 => K y0 y0_5 (yaj IntKind.i64 (yae IntKind.i64 (yae IntKind.i64 y1 y0_6) y0_2) 1) fun x => 0) (K y0 (fun x => 0) 0 fun x => 0)))) (br (eqI y0 5) (zbv a0 fun y0_3 => K y0 y2 (yaj IntKind.i64 (yae IntKind.i64 y0_3 y0_2) 1) fun x => 0) (br (eqI y0 1) (br (eqI y0 1) (zbj 1 fun y0_3 => zbg y0_3 (yae IntKind.i64 y0_2 1) fun y0_4 y1_1 => zbb y0_4 y2 fun y0_5 y1_2 => zbu a0 fun y0_6 => K y0 y0_5 (yaj IntKind.i64 (yae IntKind.i64 (yae IntKind.i64 y1 y0_6) y0_2) 1) fun x => 0) (K y0 (fun x => 0) 0 fun x => 0)) (br (eqI y0 6) (zbj 1 fun y0_3 => zbg y0_3 (yae IntKind.i64 y0_2 1) fun y0_4 y1_1 => zbb y0_4 y2 fun y0_5 y1_2 => zbu a0 fun y0_6 => K y0 y0_5 (yaj IntKind.i64 (yae IntKind.i64 (yae IntKind.i64 y1 y0_6) y0_2) 1) fun x => 0) (K y0 (fun x => 0) 0 fun x => 0))))))
noncomputable def zck := shut zck.d
theorem zck.is : zck = zck.d := shut_is _
def zcg.d (a0 : Int) (a1_0 : Int) (a1_1 : Nat → Int) (a1_2 : Int) (a1_3 : Nat → Int) (K : Int → Int → Int → Prop) : Prop :=
  zca a0 fun y0 => br (eqI a1_0 0) (zby a0 true fun y0 y1 => zck a0 y0 y1 fun y0_1 y1_1 y2 y3 => br (!(eqI y0_1 a1_0 && (eqN 6 y1_1 a1_1 && (eqI y2 a1_2 && eqN 6 y3 a1_3)))) (K 0 0 80) (K y0 y1 0)) (br (eqI a1_0 7) (zby a0 false fun y0 y1 => zck a0 y0 y1 fun y0_1 y1_1 y2 y3 => br (!(eqI y0_1 a1_0 && (eqN 6 y1_1 a1_1 && (eqI y2 a1_2 && eqN 6 y3 a1_3)))) (K 0 0 80) (K y0 y1 0)) (br (eqI a1_0 3) (zcd a0 true fun y0 y1 => zck a0 y0 y1 fun y0_1 y1_1 y2 y3 => br (!(eqI y0_1 a1_0 && (eqN 6 y1_1 a1_1 && (eqI y2 a1_2 && eqN 6 y3 a1_3)))) (K 0 0 80) (K y0 y1 0)) (br (eqI a1_0 4) (zcd a0 false fun y0 y1 => zck a0 y0 y1 fun y0_1 y1_1 y2 y3 => br (!(eqI y0_1 a1_0 && (eqN 6 y1_1 a1_1 && (eqI y2 a1_2 && eqN 6 y3 a1_3)))) (K 0 0 80) (K y0 y1 0)) (br (eqI a1_0 8) (br (eqI a1_0 8) (zbh a1_3 fun y0_1 => br (ltI (yae IntKind.i64 y0 1) y0_1) (K 0 0 80) (zbz a0 fun y0 => zbt a0 false y0 a1_3 fun y0 y1 => zck a0 y0 y1 fun y0_2 y1_1 y2 y3 => br (!(eqI y0_2 a1_0 && (eqN 6 y1_1 a1_1 && (eqI y2 a1_2 && eqN 6 y3 a1_3)))) (K 0 0 80) (K y0 y1 0))) (br (eqI a1_0 2) (br (eqI a1_0 2) (zbh a1_1 fun y0_1 => br (ltI (yae IntKind.i64 y0 1) y0_1) (K 0 0 80) (zbt a0 (eqI a1_0 2) 0 a1_1 fun y0 y1 => zck a0 y0 y1 fun y0_2 y1_1 y2 y3 => br (!(eqI y0_2 a1_0 && (eqN 6 y1_1 a1_1 && (eqI y2 a1_2 && eqN 6 y3 a1_3)))) (K 0 0 80) (K y0 y1 0))) (br (eqI a1_0 1) (br (eqI a1_0 1) (zbv a0 fun y0_1 => zbh a1_1 fun y0_2 => br (!eqI y0_2 y0) (K 0 0 80) (br (ltI a1_2 (yaj IntKind.i64 (yae IntKind.i64 y0_1 y0) 1)) (K 0 0 80) (zbu a0 fun y0_3 => br (ltI (yaj IntKind.i64 (yae IntKind.i64 y0_3 y0) 1) a1_2) (K 0 0 80) (zbi (yae IntKind.i64 y0 1) fun y0_4 => zbc a1_1 y0_4 fun y0_5 => zbt a0 (eqI a1_0 1) (yaj IntKind.i64 (yae IntKind.i64 a1_2 (yaj IntKind.i64 (yae IntKind.i64 y0_1 y0) 1)) 1) y0_5 fun y0 y1 => zck a0 y0 y1 fun y0_6 y1_1 y2 y3 => br (!(eqI y0_6 a1_0 && (eqN 6 y1_1 a1_1 && (eqI y2 a1_2 && eqN 6 y3 a1_3)))) (K 0 0 80) (K y0 y1 0))))) (K 0 0 80)) (br (eqI a1_0 6) (zbv a0 fun y0_1 => zbh a1_1 fun y0_2 => br (!eqI y0_2 y0) (K 0 0 80) (br (ltI a1_2 (yaj IntKind.i64 (yae IntKind.i64 y0_1 y0) 1)) (K 0 0 80) (zbu a0 fun y0_3 => br (ltI (yaj IntKind.i64 (yae IntKind.i64 y0_3 y0) 1) a1_2) (K 0 0 80) (zbi (yae IntKind.i64 y0 1) fun y0_4 => zbc a1_1 y0_4 fun y0_5 => zbt a0 (eqI a1_0 1) (yaj IntKind.i64 (yae IntKind.i64 a1_2 (yaj IntKind.i64 (yae IntKind.i64 y0_1 y0) 1)) 1) y0_5 fun y0 y1 => zck a0 y0 y1 fun y0_6 y1_1 y2 y3 => br (!(eqI y0_6 a1_0 && (eqN 6 y1_1 a1_1 && (eqI y2 a1_2 && eqN 6 y3 a1_3)))) (K 0 0 80) (K y0 y1 0))))) (K 0 0 80)))) (br (eqI a1_0 5) (zbh a1_1 fun y0_1 => br (ltI (yae IntKind.i64 y0 1) y0_1) (K 0 0 80) (zbt a0 (eqI a1_0 2) 0 a1_1 fun y0 y1 => zck a0 y0 y1 fun y0_2 y1_1 y2 y3 => br (!(eqI y0_2 a1_0 && (eqN 6 y1_1 a1_1 && (eqI y2 a1_2 && eqN 6 y3 a1_3)))) (K 0 0 80) (K y0 y1 0))) (br (eqI a1_0 1) (br (eqI a1_0 1) (zbv a0 fun y0_1 => zbh a1_1 fun y0_2 => br (!eqI y0_2 y0) (K 0 0 80) (br (ltI a1_2 (yaj IntKind.i64 (yae IntKind.i64 y0_1 y0) 1)) (K 0 0 80) (zbu a0 fun y0_3 => br (ltI (yaj IntKind.i64 (yae IntKind.i64 y0_3 y0) 1) a1_2) (K 0 0 80) (zbi (yae IntKind.i64 y0 1) fun y0_4 => zbc a1_1 y0_4 fun y0_5 => zbt a0 (eqI a1_0 1) (yaj IntKind.i64 (yae IntKind.i64 a1_2 (yaj IntKind.i64 (yae IntKind.i64 y0_1 y0) 1)) 1) y0_5 fun y0 y1 => zck a0 y0 y1 fun y0_6 y1_1 y2 y3 => br (!(eqI y0_6 a1_0 && (eqN 6 y1_1 a1_1 && (eqI y2 a1_2 && eqN 6 y3 a1_3)))) (K 0 0 80) (K y0 y1 0))))) (K 0 0 80)) (br (eqI a1_0 6) (zbv a0 fun y0_1 => zbh a1_1 fun y0_2 => br (!eqI y0_2 y0) (K 0 0 80) (br (ltI a1_2 (yaj IntKind.i64 (yae IntKind.i64 y0_1 y0) 1)) (K 0 0 80) (zbu a0 fun y0_3 => br (ltI (yaj IntKind.i64 (yae IntKind.i64 y0_3 y0) 1) a1_2) (K 0 0 80) (zbi (yae IntKind.i64 y0 1) fun y0_4 => zbc a1_1 y0_4 fun y0_5 => zbt a0 (eqI a1_0 1) (yaj IntKind.i64 (yae IntKind.i64 a1_2 (yaj IntKind.i64 (yae IntKind.i64 y0_1 y0) 1)) 1) y0_5 fun y0 y1 => zck a0 y0 y1 fun y0_6 y1_1 y2 y3 => br (!(eqI y0_6 a1_0 && (eqN 6 y1_1 a1_1 && (eqI y2 a1_2 && eqN 6 y3 a1_3)))) (K 0 0 80) (K y0 y1 0))))) (K 0 0 80)))))) (br (eqI a1_0 9) (zbh a1_3 fun y0_1 => br (ltI (yae IntKind.i64 y0 1) y0_1) (K 0 0 80) (zbz a0 fun y0 => zbt a0 false y0 a1_3 fun y0 y1 => zck a0 y0 y1 fun y0_2 y1_1 y2 y3 => br (!(eqI y0_2 a1_0 && (eqN 6 y1_1 a1_1 && (eqI y2 a1_2 && eqN 6 y3 a1_3)))) (K 0 0 80) (K y0 y1 0))) (br (eqI a1_0 2) (br (eqI a1_0 2) (zbh a1_1 fun y0_1 => br (ltI (yae IntKind.i64 y0 1) y0_1) (K 0 0 80) (zbt a0 (eqI a1_0 2) 0 a1_1 fun y0 y1 => zck a0 y0 y1 fun y0_2 y1_1 y2 y3 => br (!(eqI y0_2 a1_0 && (eqN 6 y1_1 a1_1 && (eqI y2 a1_2 && eqN 6 y3 a1_3)))) (K 0 0 80) (K y0 y1 0))) (br (eqI a1_0 1) (br (eqI a1_0 1) (zbv a0 fun y0_1 => zbh a1_1 fun y0_2 => br (!eqI y0_2 y0) (K 0 0 80) (br (ltI a1_2 (yaj IntKind.i64 (yae IntKind.i64 y0_1 y0) 1)) (K 0 0 80) (zbu a0 fun y0_3 => br (ltI (yaj IntKind.i64 (yae IntKind.i64 y0_3 y0) 1) a1_2) (K 0 0 80) (zbi (yae IntKind.i64 y0 1) fun y0_4 => zbc a1_1 y0_4 fun y0_5 => zbt a0 (eqI a1_0 1) (yaj IntKind.i64 (yae IntKind.i64 a1_2 (yaj IntKind.i64 (yae IntKind.i64 y0_1 y0) 1)) 1) y0_5 fun y0 y1 => zck a0 y0 y1 fun y0_6 y1_1 y2 y3 => br (!(eqI y0_6 a1_0 && (eqN 6 y1_1 a1_1 && (eqI y2 a1_2 && eqN 6 y3 a1_3)))) (K 0 0 80) (K y0 y1 0))))) (K 0 0 80)) (br (eqI a1_0 6) (zbv a0 fun y0_1 => zbh a1_1 fun y0_2 => br (!eqI y0_2 y0) (K 0 0 80) (br (ltI a1_2 (yaj IntKind.i64 (yae IntKind.i64 y0_1 y0) 1)) (K 0 0 80) (zbu a0 fun y0_3 => br (ltI (yaj IntKind.i64 (yae IntKind.i64 y0_3 y0) 1) a1_2) (K 0 0 80) (zbi (yae IntKind.i64 y0 1) fun y0_4 => zbc a1_1 y0_4 fun y0_5 => zbt a0 (eqI a1_0 1) (yaj IntKind.i64 (yae IntKind.i64 a1_2 (yaj IntKind.i64 (yae IntKind.i64 y0_1 y0) 1)) 1) y0_5 fun y0 y1 => zck a0 y0 y1 fun y0_6 y1_1 y2 y3 => br (!(eqI y0_6 a1_0 && (eqN 6 y1_1 a1_1 && (eqI y2 a1_2 && eqN 6 y3 a1_3)))) (K 0 0 80) (K y0 y1 0))))) (K 0 0 80)))) (br (eqI a1_0 5) (zbh a1_1 fun y0_1 => br (ltI (yae IntKind.i64 y0 1) y0_1) (K 0 0 80) (zbt a0 (eqI a1_0 2) 0 a1_1 fun y0 y1 => zck a0 y0 y1 fun y0_2 y1_1 y2 y3 => br (!(eqI y0_2 a1_0 && (eqN 6 y1_1 a1_1 && (eqI y2 a1_2 && eqN 6 y3 a1_3)))) (K 0 0 80) (K y0 y1 0))) (br (eqI a1_0 1) (br (eqI a1_0 1) (zbv a0 fun y0_1 => zbh a1_1 fun y0_2 => br (!eqI y0_2 y0) (K 0 0 80) (br (ltI a1_2 (yaj IntKind.i64 (yae IntKind.i64 y0_1 y0) 1)) (K 0 0 80) (zbu a0 fun y0_3 => br (ltI (yaj IntKind.i64 (yae IntKind.i64 y0_3 y0) 1) a1_2) (K 0 0 80) (zbi (yae IntKind.i64 y0 1) fun y0_4 => zbc a1_1 y0_4 fun y0_5 => zbt a0 (eqI a1_0 1) (yaj IntKind.i64 (yae IntKind.i64 a1_2 (yaj IntKind.i64 (yae IntKind.i64 y0_1 y0) 1)) 1) y0_5 fun y0 y1 => zck a0 y0 y1 fun y0_6 y1_1 y2 y3 => br (!(eqI y0_6 a1_0 && (eqN 6 y1_1 a1_1 && (eqI y2 a1_2 && eqN 6 y3 a1_3)))) (K 0 0 80) (K y0 y1 0))))) (K 0 0 80)) (br (eqI a1_0 6) (zbv a0 fun y0_1 => zbh a1_1 fun y0_2 => br (!eqI y0_2 y0) (K 0 0 80) (br (ltI a1_2 (yaj IntKind.i64 (yae IntKind.i64 y0_1 y0) 1)) (K 0 0 80) (zbu a0 fun y0_3 => br (ltI (yaj IntKind.i64 (yae IntKind.i64 y0_3 y0) 1) a1_2) (K 0 0 80) (zbi (yae IntKind.i64 y0 1) fun y0_4 => zbc a1_1 y0_4 fun y0_5 => zbt a0 (eqI a1_0 1) (yaj IntKind.i64 (yae IntKind.i64 a1_2 (yaj IntKind.i64 (yae IntKind.i64 y0_1 y0) 1)) 1) y0_5 fun y0 y1 => zck a0 y0 y1 fun y0_6 y1_1 y2 y3 => br (!(eqI y0_6 a1_0 && (eqN 6 y1_1 a1_1 && (eqI y2 a1_2 && eqN 6 y3 a1_3)))) (K 0 0 80) (K y0 y1 0))))) (K 0 0 80))))))))))
noncomputable def zcg := shut zcg.d
theorem zcg.is : zcg = zcg.d := shut_is _
def zcj.d (a0 : Int) (a1_0 : Int) (a1_1 : Int) (K : List UInt8 → Prop) : Prop :=
  zck a0 a1_0 a1_1 fun y0 y1 y2 y3 => zci a0 a1_0 a1_1 fun y0_1 => br y0_1 (br (eqI y0 8) (zbn y3 fun y0 => gd (leI (6 + ↑(List.length y0)) 9223372036854775807) (K ([45] ++ [115, 110, 97, 110, 58] ++ y0))) (br (eqI y0 9) (zbn y3 fun y0 => gd (leI (5 + ↑(List.length y0)) 9223372036854775807) (K ([45] ++ [110, 97, 110, 58] ++ y0))) (br (eqI y0 0) (br (eqI y0 0) (K ([45] ++ [105, 110, 102])) (br (eqI y0 3) (br (eqI y0 3) (K ([45] ++ [48])) (zbn y1 fun y0 => gd (leI (1 + ↑(List.length y0)) 9223372036854775807) (gd (leI (↑(List.length ([45] ++ y0)) + 1) 9223372036854775807) (zbq y2 fun y0_2 => gd (leI (↑(List.length ([45] ++ y0 ++ [112])) + ↑(List.length y0_2)) 9223372036854775807) (K ([45] ++ y0 ++ [112] ++ y0_2)))))) (br (eqI y0 4) (K ([45] ++ [48])) (zbn y1 fun y0 => gd (leI (1 + ↑(List.length y0)) 9223372036854775807) (gd (leI (↑(List.length ([45] ++ y0)) + 1) 9223372036854775807) (zbq y2 fun y0_2 => gd (leI (↑(List.length ([45] ++ y0 ++ [112])) + ↑(List.length y0_2)) 9223372036854775807) (K ([45] ++ y0 ++ [112] ++ y0_2)))))))) (br (eqI y0 7) (K ([45] ++ [105, 110, 102])) (br (eqI y0 3) (br (eqI y0 3) (K ([45] ++ [48])) (zbn y1 fun y0 => gd (leI (1 + ↑(List.length y0)) 9223372036854775807) (gd (leI (↑(List.length ([45] ++ y0)) + 1) 9223372036854775807) (zbq y2 fun y0_2 => gd (leI (↑(List.length ([45] ++ y0 ++ [112])) + ↑(List.length y0_2)) 9223372036854775807) (K ([45] ++ y0 ++ [112] ++ y0_2)))))) (br (eqI y0 4) (K ([45] ++ [48])) (zbn y1 fun y0 => gd (leI (1 + ↑(List.length y0)) 9223372036854775807) (gd (leI (↑(List.length ([45] ++ y0)) + 1) 9223372036854775807) (zbq y2 fun y0_2 => gd (leI (↑(List.length ([45] ++ y0 ++ [112])) + ↑(List.length y0_2)) 9223372036854775807) (K ([45] ++ y0 ++ [112] ++ y0_2))))))))))) (br (eqI y0 8) (zbn y3 fun y0 => gd (leI (5 + ↑(List.length y0)) 9223372036854775807) (K ([] ++ [115, 110, 97, 110, 58] ++ y0))) (br (eqI y0 9) (zbn y3 fun y0 => gd (leI (4 + ↑(List.length y0)) 9223372036854775807) (K ([] ++ [110, 97, 110, 58] ++ y0))) (br (eqI y0 0) (br (eqI y0 0) (K ([] ++ [105, 110, 102])) (br (eqI y0 3) (br (eqI y0 3) (K ([] ++ [48])) (zbn y1 fun y0 => gd (leI (0 + ↑(List.length y0)) 9223372036854775807) (gd (leI (↑(List.length ([] ++ y0)) + 1) 9223372036854775807) (zbq y2 fun y0_2 => gd (leI (↑(List.length ([] ++ y0 ++ [112])) + ↑(List.length y0_2)) 9223372036854775807) (K ([] ++ y0 ++ [112] ++ y0_2)))))) (br (eqI y0 4) (K ([] ++ [48])) (zbn y1 fun y0 => gd (leI (0 + ↑(List.length y0)) 9223372036854775807) (gd (leI (↑(List.length ([] ++ y0)) + 1) 9223372036854775807) (zbq y2 fun y0_2 => gd (leI (↑(List.length ([] ++ y0 ++ [112])) + ↑(List.length y0_2)) 9223372036854775807) (K ([] ++ y0 ++ [112] ++ y0_2)))))))) (br (eqI y0 7) (K ([] ++ [105, 110, 102])) (br (eqI y0 3) (br (eqI y0 3) (K ([] ++ [48])) (zbn y1 fun y0 => gd (leI (0 + ↑(List.length y0)) 9223372036854775807) (gd (leI (↑(List.length ([] ++ y0)) + 1) 9223372036854775807) (zbq y2 fun y0_2 => gd (leI (↑(List.length ([] ++ y0 ++ [112])) + ↑(List.length y0_2)) 9223372036854775807) (K ([] ++ y0 ++ [112] ++ y0_2)))))) (br (eqI y0 4) (K ([] ++ [48])) (zbn y1 fun y0 => gd (leI (0 + ↑(List.length y0)) 9223372036854775807) (gd (leI (↑(List.length ([] ++ y0)) + 1) 9223372036854775807) (zbq y2 fun y0_2 => gd (leI (↑(List.length ([] ++ y0 ++ [112])) + ↑(List.length y0_2)) 9223372036854775807) (K ([] ++ y0 ++ [112] ++ y0_2)))))))))))
noncomputable def zcj := shut zcj.d
theorem zcj.is : zcj = zcj.d := shut_is _
def zcl.l2.step (again : List UInt8 → Int → Int → Prop) (k0 : Int → Prop) (k1 : Prop) (x0 : List UInt8) (x1 : Int) (x2 : Int) : Prop :=
  br (ltI x2 ↑(List.length x0)) (gd (leI 0 x2 && ltI x2 ↑(List.length x0)) (br (eqI (yar x0 (Int.toNat x2)) x1) (k0 x2) (again x0 x1 (yaj IntKind.i64 x2 1)))) k1
def zcl.l2 (k0 : Int → Prop) (k1 : Prop) : Nat → List UInt8 → Int → Int → Prop
  | 0 => fun _ _ _ => False
  | n + 1 => zcl.l2.step (zcl.l2 k0 k1 n) k0 k1
def zcl.l2.entry : yay := ⟨LV.mk 0 [(0, 0)] 16 0 false, 0, 18, fun vs H K => match vs, H with
  | [EV.str x0, EV.int IntKind.u8 x1, EV.int IntKind.i64 x2], [] => ∃ n, zcl.l2 (fun y0 => K .ret [EV.int IntKind.i64 y0] []) (K (.exit 0) [] []) n x0 x1 x2
  | _, _ => False⟩
def zcl.d (a0 : List UInt8) (a1 : Int) (K : Int → Prop) : Prop :=
  ∃ n, zcl.l2 (fun y0 => K y0) (K (-1)) n a0 a1 0
noncomputable def zcl := shut zcl.d
theorem zcl.is : zcl = zcl.d := shut_is _
def zcn.l8.step (again : List UInt8 → Bool → Int → Int → Prop) (k0 : Int → Bool → Prop) (k1 : Bool → Int → Prop) (x0 : List UInt8) (x1 : Bool) (x2 : Int) (x3 : Int) : Prop :=
  br (ltI x3 ↑(List.length x0)) (gd (leI 0 x3 && ltI x3 ↑(List.length x0)) (br (ltI (yar x0 (Int.toNat x3)) 48) (k0 0 false) (gd (leI 0 x3 && ltI x3 ↑(List.length x0)) (br (ltI 57 (yar x0 (Int.toNat x3))) (k0 0 false) (gd (leI 0 x3 && ltI x3 ↑(List.length x0)) (again x0 x1 (yaj IntKind.i64 (ya0 IntKind.i64 10 x2) (cvI IntKind.i64 (yae IntKind.u8 (yar x0 (Int.toNat x3)) 48))) (yaj IntKind.i64 x3 1))))))) (k1 x1 x2)
def zcn.l8 (k0 : Int → Bool → Prop) (k1 : Bool → Int → Prop) : Nat → List UInt8 → Bool → Int → Int → Prop
  | 0 => fun _ _ _ _ => False
  | n + 1 => zcn.l8.step (zcn.l8 k0 k1 n) k0 k1
def zcn.l8.entry : yay := ⟨LV.mk 48 [(0, 48)] 12 0 false, 0, 52, fun vs H K => match vs, H with
  | [EV.str x0, EV.bool x1, EV.int IntKind.i64 x2, EV.int IntKind.i64 x3], [] => ∃ n, zcn.l8 (fun y0 y1 => K .ret [EV.int IntKind.i64 y0, EV.bool y1] []) (fun y0 y1 => K (.exit 0) [EV.bool y0, EV.int IntKind.i64 y1] []) n x0 x1 x2 x3
  | _, _ => False⟩
def zcn.d (a0 : List UInt8) (K : Int → Bool → Prop) : Prop :=
  br (!eqS a0 []) (gd (ltI 0 ↑(List.length a0)) (br (eqI (yar a0 0) 45) (gd (leI 1 ↑(List.length a0) && leI ↑(List.length a0) ↑(List.length a0)) (br (eqS (ybw a0 1 (Int.toNat ↑(List.length a0))) []) (K 0 false) (br (ltI 6 ↑(List.length (ybw a0 1 (Int.toNat ↑(List.length a0))))) (K 0 false) (∃ n, zcn.l8 (fun y0 y1 => K y0 y1) (fun y0 y1 => br y0 (K (ykq IntKind.i64 y1) true) (K y1 true)) n (ybw a0 1 (Int.toNat ↑(List.length a0))) (eqI (yar a0 0) 45) 0 0)))) (br (eqS a0 []) (K 0 false) (br (ltI 6 ↑(List.length a0)) (K 0 false) (∃ n, zcn.l8 (fun y0 y1 => K y0 y1) (fun y0 y1 => br y0 (K (ykq IntKind.i64 y1) true) (K y1 true)) n a0 (eqI (yar a0 0) 45) 0 0))))) (br (eqS a0 []) (K 0 false) (br (ltI 6 ↑(List.length a0)) (K 0 false) (∃ n, zcn.l8 (fun y0 y1 => K y0 y1) (fun y0 y1 => br y0 (K (ykq IntKind.i64 y1) true) (K y1 true)) n a0 false 0 0)))
noncomputable def zcn := shut zcn.d
theorem zcn.is : zcn = zcn.d := shut_is _
def zcm.d (a0 : Int) (a1 : List UInt8) (K : Int → Int → Prop) : Prop :=
  br (!eqS a1 []) (gd (ltI 0 ↑(List.length a1)) (br (eqI (yar a1 0) 45) (gd (leI 1 ↑(List.length a1) && leI ↑(List.length a1) ↑(List.length a1)) (br (eqS (ybw a1 1 (Int.toNat ↑(List.length a1))) [105, 110, 102]) (zby a0 (eqI (yar a1 0) 45) fun y0 y1 => K y0 y1) (br (eqS (ybw a1 1 (Int.toNat ↑(List.length a1))) [48]) (zcd a0 (eqI (yar a1 0) 45) fun y0 y1 => K y0 y1) (zcl (ybw a1 1 (Int.toNat ↑(List.length a1))) 58 fun y0 => br (leI 0 y0) (gd (leI 0 (yaj IntKind.i64 y0 1) && (leI (yaj IntKind.i64 y0 1) ↑(List.length (ybw a1 1 (Int.toNat ↑(List.length a1)))) && leI ↑(List.length (ybw a1 1 (Int.toNat ↑(List.length a1)))) ↑(List.length (ybw a1 1 (Int.toNat ↑(List.length a1)))))) (zbl (ybw (ybw a1 1 (Int.toNat ↑(List.length a1))) (Int.toNat (yaj IntKind.i64 y0 1)) (Int.toNat ↑(List.length (ybw a1 1 (Int.toNat ↑(List.length a1)))))) fun y0 y1 => zbh y0 fun y0_1 => zca a0 fun y0_2 => br (ltI (yae IntKind.i64 y0_2 1) y0_1) (K 0 0) (zbz a0 fun y0_3 => zbt a0 (eqI (yar a1 0) 45) y0_3 y0 fun y0 y1 => K y0 y1))) (zcl (ybw a1 1 (Int.toNat ↑(List.length a1))) 112 fun y0 => br (ltI y0 0) (K 0 0) (gd (leI 0 y0 && leI y0 ↑(List.length (ybw a1 1 (Int.toNat ↑(List.length a1))))) (zbl (ybw (ybw a1 1 (Int.toNat ↑(List.length a1))) 0 (Int.toNat y0)) fun y0_1 y1 => gd (leI 0 (yaj IntKind.i64 y0 1) && (leI (yaj IntKind.i64 y0 1) ↑(List.length (ybw a1 1 (Int.toNat ↑(List.length a1)))) && leI ↑(List.length (ybw a1 1 (Int.toNat ↑(List.length a1)))) ↑(List.length (ybw a1 1 (Int.toNat ↑(List.length a1)))))) (zcn (ybw (ybw a1 1 (Int.toNat ↑(List.length a1))) (Int.toNat (yaj IntKind.i64 y0 1)) (Int.toNat ↑(List.length (ybw a1 1 (Int.toNat ↑(List.length a1)))))) fun y0 y1 => br (!y1) (K 0 0) (zbh y0_1 fun y0_2 => zca a0 fun y0_3 => br (ltI y0_2 y0_3) (zcg a0 5 y0_1 y0 (fun x => 0) fun y0 y1 y2 => br (eqI (yar a1 0) 45) (zcf a0 y0 y1 fun y0 y1 => K y0 y1) (K y0 y1)) (zcg a0 6 y0_1 y0 (fun x => 0) fun y0 y1 y2 => br (eqI (yar a1 0) 45) (zcf a0 y0 y1 fun y0 y1 => K y0 y1) (K y0 y1))))))))))) (br (eqS a1 [105, 110, 102]) (zby a0 (eqI (yar a1 0) 45) fun y0 y1 => K y0 y1) (br (eqS a1 [48]) (zcd a0 (eqI (yar a1 0) 45) fun y0 y1 => K y0 y1) (zcl a1 58 fun y0 => br (leI 0 y0) (gd (leI 0 (yaj IntKind.i64 y0 1) && (leI (yaj IntKind.i64 y0 1) ↑(List.length a1) && leI ↑(List.length a1) ↑(List.length a1))) (zbl (ybw a1 (Int.toNat (yaj IntKind.i64 y0 1)) (Int.toNat ↑(List.length a1))) fun y0 y1 => zbh y0 fun y0_1 => zca a0 fun y0_2 => br (ltI (yae IntKind.i64 y0_2 1) y0_1) (K 0 0) (zbz a0 fun y0_3 => zbt a0 (eqI (yar a1 0) 45) y0_3 y0 fun y0 y1 => K y0 y1))) (zcl a1 112 fun y0 => br (ltI y0 0) (K 0 0) (gd (leI 0 y0 && leI y0 ↑(List.length a1)) (zbl (ybw a1 0 (Int.toNat y0)) fun y0_1 y1 => gd (leI 0 (yaj IntKind.i64 y0 1) && (leI (yaj IntKind.i64 y0 1) ↑(List.length a1) && leI ↑(List.length a1) ↑(List.length a1))) (zcn (ybw a1 (Int.toNat (yaj IntKind.i64 y0 1)) (Int.toNat ↑(List.length a1))) fun y0 y1 => br (!y1) (K 0 0) (zbh y0_1 fun y0_2 => zca a0 fun y0_3 => br (ltI y0_2 y0_3) (zcg a0 5 y0_1 y0 (fun x => 0) fun y0 y1 y2 => br (eqI (yar a1 0) 45) (zcf a0 y0 y1 fun y0 y1 => K y0 y1) (K y0 y1)) (zcg a0 6 y0_1 y0 (fun x => 0) fun y0 y1 y2 => br (eqI (yar a1 0) 45) (zcf a0 y0 y1 fun y0 y1 => K y0 y1) (K y0 y1)))))))))))) (br (eqS a1 [105, 110, 102]) (zby a0 false fun y0 y1 => K y0 y1) (br (eqS a1 [48]) (zcd a0 false fun y0 y1 => K y0 y1) (zcl a1 58 fun y0 => br (leI 0 y0) (gd (leI 0 (yaj IntKind.i64 y0 1) && (leI (yaj IntKind.i64 y0 1) ↑(List.length a1) && leI ↑(List.length a1) ↑(List.length a1))) (zbl (ybw a1 (Int.toNat (yaj IntKind.i64 y0 1)) (Int.toNat ↑(List.length a1))) fun y0 y1 => zbh y0 fun y0_1 => zca a0 fun y0_2 => br (ltI (yae IntKind.i64 y0_2 1) y0_1) (K 0 0) (zbz a0 fun y0_3 => zbt a0 false y0_3 y0 fun y0 y1 => K y0 y1))) (zcl a1 112 fun y0 => br (ltI y0 0) (K 0 0) (gd (leI 0 y0 && leI y0 ↑(List.length a1)) (zbl (ybw a1 0 (Int.toNat y0)) fun y0_1 y1 => gd (leI 0 (yaj IntKind.i64 y0 1) && (leI (yaj IntKind.i64 y0 1) ↑(List.length a1) && leI ↑(List.length a1) ↑(List.length a1))) (zcn (ybw a1 (Int.toNat (yaj IntKind.i64 y0 1)) (Int.toNat ↑(List.length a1))) fun y0 y1 => br (!y1) (K 0 0) (zbh y0_1 fun y0_2 => zca a0 fun y0_3 => br (ltI y0_2 y0_3) (zcg a0 5 y0_1 y0 (fun x => 0) fun y0 y1 y2 => K y0 y1) (zcg a0 6 y0_1 y0 (fun x => 0) fun y0 y1 y2 => K y0 y1)))))))))
noncomputable def zcm := shut zcm.d
theorem zcm.is : zcm = zcm.d := shut_is _
def zch.d (a0 : Int) (a1 : List UInt8) (K : Int → Int → Int → Prop) : Prop :=
  zcm a0 a1 fun y0 y1 => zcj a0 y0 y1 fun y0_1 => br (!eqS y0_1 a1) (K 0 0 80) (K y0 y1 0)
noncomputable def zch := shut zch.d
theorem zch.is : zch = zch.d := shut_is _
end Go.Ev.S

/- The functions as the evaluator has them: what each comes to. -/
set_option maxRecDepth 100000
set_option linter.unusedVariables false
set_option linter.unusedSimpArgs false
namespace Go.Ev.S
open Go Go.Ev
def zaw.d (K : Bool → Prop) : Prop :=
  zak 2 0 32768 fun y0 y1 => zaq 2 0 15360 fun y0_1 y1_1 y2 y3 y4 => zak 4 0 0 fun y0_2 y1_2 => br (eqI y0 3) (br (eqI y1 0) (br (eqI y4 0) (br (eqN 6 y1_1 (upd (fun x => 0) 0 1024)) (br (eqI y2 (-10)) (K (eqI y1_2 2)) (K false)) (K false)) (K false)) (K false)) (K false)
noncomputable def zaw := shut zaw.d
theorem zaw.is : zaw = zaw.d := shut_is _
def zax.d (a0 : Int) (a1_0 : Int) (a1_1 : Int) (K : Bool → Prop) : Prop :=
  zbx a0 a1_0 a1_1 fun y0 => K y0
noncomputable def zax := shut zax.d
theorem zax.is : zax = zax.d := shut_is _
def zav.d (a0 : Int) (a1_0 : Int) (a1_1 : Int) (a2 : List UInt8) (K : Bool → Prop) : Prop :=
  zap a0 a1_0 a1_1 fun y0 y1 => zax a0 a1_0 a1_1 fun y0_1 => br (!y0_1) (br (!eqS y0 []) (K false) (br (!eqI y1 2) (K false) (zan a0 a2 fun y0 y1 y2 => zcb a0 fun y0_2 => br (!y0_2) (br (eqI y0 0 && eqI y1 0) (br (eqI y2 2) (zaw fun y0 => K y0) (K false)) (K false)) (zch a0 a2 fun y0_3 y1_1 y2_1 => br (eqI y0 y0_3 && eqI y1 y1_1) (br (eqI y2 y2_1) (zaw fun y0 => K y0) (K false)) (K false))))) (zcj a0 a1_0 a1_1 fun y0_2 => br (!eqS y0 y0_2) (K false) (br (!eqI y1 0) (K false) (zan a0 a2 fun y0 y1 y2 => zcb a0 fun y0_3 => br (!y0_3) (br (eqI y0 0 && eqI y1 0) (br (eqI y2 2) (zaw fun y0 => K y0) (K false)) (K false)) (zch a0 a2 fun y0_4 y1_1 y2_1 => br (eqI y0 y0_4 && eqI y1 y1_1) (br (eqI y2 y2_1) (zaw fun y0 => K y0) (K false)) (K false)))))
noncomputable def zav := shut zav.d
theorem zav.is : zav = zav.d := shut_is _
end Go.Ev.S

/- The functions as the evaluator has them: what each comes to. -/
set_option maxRecDepth 100000
set_option linter.unusedVariables false
set_option linter.unusedSimpArgs false
namespace Go.Ev.S
open Go Go.Ev
end Go.Ev.S

/- The functions as the evaluator has them: what each comes to. -/
set_option maxRecDepth 100000
set_option linter.unusedVariables false
set_option linter.unusedSimpArgs false
namespace Go.Ev.S
open Go Go.Ev
end Go.Ev.S

/- The functions as the evaluator has them: what each comes to. -/
set_option maxRecDepth 100000
set_option linter.unusedVariables false
set_option linter.unusedSimpArgs false
namespace Go.Ev.S
open Go Go.Ev
end Go.Ev.S

/- The functions as the evaluator has them: what each comes to. -/
set_option maxRecDepth 100000
set_option linter.unusedVariables false
set_option linter.unusedSimpArgs false
namespace Go.Ev.S
open Go Go.Ev
end Go.Ev.S

/- The functions as the evaluator has them: what each comes to. -/
set_option maxRecDepth 100000
set_option linter.unusedVariables false
set_option linter.unusedSimpArgs false
namespace Go.Ev.S
open Go Go.Ev
end Go.Ev.S

/- The functions as the evaluator has them: what each comes to. -/
set_option maxRecDepth 100000
set_option linter.unusedVariables false
set_option linter.unusedSimpArgs false
namespace Go.Ev.S
open Go Go.Ev
end Go.Ev.S

/- The functions as the evaluator has them: what each comes to. -/
set_option maxRecDepth 100000
set_option linter.unusedVariables false
set_option linter.unusedSimpArgs false
namespace Go.Ev.S
open Go Go.Ev
end Go.Ev.S

/- The functions as the evaluator has them: what each comes to. -/
set_option maxRecDepth 100000
set_option linter.unusedVariables false
set_option linter.unusedSimpArgs false
namespace Go.Ev.S
open Go Go.Ev
end Go.Ev.S

/- The functions as the evaluator has them: what each comes to. -/
set_option maxRecDepth 100000
set_option linter.unusedVariables false
set_option linter.unusedSimpArgs false
namespace Go.Ev.S
open Go Go.Ev
end Go.Ev.S
