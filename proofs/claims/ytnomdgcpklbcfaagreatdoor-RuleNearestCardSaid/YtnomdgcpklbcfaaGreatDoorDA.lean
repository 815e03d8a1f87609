/- The functions as the evaluator has them: what each comes to. -/
import Derived.Test.YtnomdgcpklbcfaaGreatDoorEvC
import Derived.Lib.ItoaNum
import Derived.Lib.AtoiAll
import Derived.Lib.Bytealg
set_option maxRecDepth 100000
set_option linter.unusedVariables false
set_option linter.unusedSimpArgs false
namespace Go.Ev.S
open Go Go.Ev
noncomputable def shut {α : Type} (d : α) : α := Classical.choose (⟨d, rfl⟩ : ∃ f, f = d)
theorem shut_is {α : Type} (d : α) : shut d = d := Classical.choose_spec (⟨d, rfl⟩ : ∃ f, f = d)
def zaa.d (a0 : Int) (K : Int → Prop) : Prop :=
  br (leI 4294967296 a0) (br (leI 65536 (yaP .u64 a0 32)) (br (leI 256 (yaP .u64 (yaP .u64 a0 32) 16)) (gd (leI 0 (cvI .u8 (yaP .u64 (yaP .u64 (yaP .u64 a0 32) 16) 8)) && ltI (cvI .u8 (yaP .u64 (yaP .u64 (yaP .u64 a0 32) 16) 8)) 256) (K (yaj .i64 56 (cvI .i64 (ybj [0, 1, 2, 2, 3, 3, 3, 3, 4, 4, 4, 4, 4, 4, 4, 4, 5, 5, 5, 5, 5, 5, 5, 5, 5, 5, 5, 5, 5, 5, 5, 5, 6, 6, 6, 6, 6, 6, 6, 6, 6, 6, 6, 6, 6, 6, 6, 6, 6, 6, 6, 6, 6, 6, 6, 6, 6, 6, 6, 6, 6, 6, 6, 6, 7, 7, 7, 7, 7, 7, 7, 7, 7, 7, 7, 7, 7, 7, 7, 7, 7, 7, 7, 7, 7, 7, 7, 7, 7, 7, 7, 7, 7, 7, 7, 7, 7, 7, 7, 7, 7, 7, 7, 7, 7, 7, 7, 7, 7, 7, 7, 7, 7, 7, 7, 7, 7, 7, 7, 7, 7, 7, 7, 7, 7, 7, 7, 7, 8, 8, 8, 8, 8, 8, 8, 8, 8, 8, 8, 8, 8, 8, 8, 8, 8, 8, 8, 8, 8, 8, 8, 8, 8, 8, 8, 8, 8, 8, 8, 8, 8, 8, 8, 8, 8, 8, 8, 8, 8, 8, 8, 8, 8, 8, 8, 8, 8, 8, 8, 8, 8, 8, 8, 8, 8, 8, 8, 8, 8, 8, 8, 8, 8, 8, 8, 8, 8, 8, 8, 8, 8, 8, 8, 8, 8, 8, 8, 8, 8, 8, 8, 8, 8, 8, 8, 8, 8, 8, 8, 8, 8, 8, 8, 8, 8, 8, 8, 8, 8, 8, 8, 8, 8, 8, 8, 8, 8, 8, 8, 8, 8, 8, 8, 8, 8, 8, 8, 8, 8, 8, 8, 8, 8, 8, 8, 8] (Int.toNat (cvI .u8 (yaP .u64 (yaP .u64 (yaP .u64 a0 32) 16) 8)))))))) (gd (leI 0 (cvI .u8 (yaP .u64 (yaP .u64 a0 32) 16)) && ltI (cvI .u8 (yaP .u64 (yaP .u64 a0 32) 16)) 256) (K (yaj .i64 48 (cvI .i64 (ybj [0, 1, 2, 2, 3, 3, 3, 3, 4, 4, 4, 4, 4, 4, 4, 4, 5, 5, 5, 5, 5, 5, 5, 5, 5, 5, 5, 5, 5, 5, 5, 5, 6, 6, 6, 6, 6, 6, 6, 6, 6, 6, 6, 6, 6, 6, 6, 6, 6, 6, 6, 6, 6, 6, 6, 6, 6, 6, 6, 6, 6, 6, 6, 6, 7, 7, 7, 7, 7, 7, 7, 7, 7, 7, 7, 7, 7, 7, 7, 7, 7, 7, 7, 7, 7, 7, 7, 7, 7, 7, 7, 7, 7, 7, 7, 7, 7, 7, 7, 7, 7, 7, 7, 7, 7, 7, 7, 7, 7, 7, 7, 7, 7, 7, 7, 7, 7, 7, 7, 7, 7, 7, 7, 7, 7, 7, 7, 7, 8, 8, 8, 8, 8, 8, 8, 8, 8, 8, 8, 8, 8, 8, 8, 8, 8, 8, 8, 8, 8, 8, 8, 8, 8, 8, 8, 8, 8, 8, 8, 8, 8, 8, 8, 8, 8, 8, 8, 8, 8, 8, 8, 8, 8, 8, 8, 8, 8, 8, 8, 8, 8, 8, 8, 8, 8, 8, 8, 8, 8, 8, 8, 8, 8, 8, 8, 8, 8, 8, 8, 8, 8, 8, 8, 8, 8, 8, 8, 8, 8, 8, 8, 8, 8, 8, 8, 8, 8, 8, 8, 8, 8, 8, 8, 8, 8, 8, 8, 8, 8, 8, 8, 8, 8, 8, 8, 8, 8, 8, 8, 8, 8, 8, 8, 8, 8, 8, 8, 8, 8, 8, 8, 8, 8, 8, 8, 8] (Int.toNat (cvI .u8 (yaP .u64 (yaP .u64 a0 32) 16))))))))) (br (leI 256 (yaP .u64 a0 32)) (gd (leI 0 (cvI .u8 (yaP .u64 (yaP .u64 a0 32) 8)) && ltI (cvI .u8 (yaP .u64 (yaP .u64 a0 32) 8)) 256) (K (yaj .i64 40 (cvI .i64 (ybj [0, 1, 2, 2, 3, 3, 3, 3, 4, 4, 4, 4, 4, 4, 4, 4, 5, 5, 5, 5, 5, 5, 5, 5, 5, 5, 5, 5, 5, 5, 5, 5, 6, 6, 6, 6, 6, 6, 6, 6, 6, 6, 6, 6, 6, 6, 6, 6, 6, 6, 6, 6, 6, 6, 6, 6, 6, 6, 6, 6, 6, 6, 6, 6, 7, 7, 7, 7, 7, 7, 7, 7, 7, 7, 7, 7, 7, 7, 7, 7, 7, 7, 7, 7, 7, 7, 7, 7, 7, 7, 7, 7, 7, 7, 7, 7, 7, 7, 7, 7, 7, 7, 7, 7, 7, 7, 7, 7, 7, 7, 7, 7, 7, 7, 7, 7, 7, 7, 7, 7, 7, 7, 7, 7, 7, 7, 7, 7, 8, 8, 8, 8, 8, 8, 8, 8, 8, 8, 8, 8, 8, 8, 8, 8, 8, 8, 8, 8, 8, 8, 8, 8, 8, 8, 8, 8, 8, 8, 8, 8, 8, 8, 8, 8, 8, 8, 8, 8, 8, 8, 8, 8, 8, 8, 8, 8, 8, 8, 8, 8, 8, 8, 8, 8, 8, 8, 8, 8, 8, 8, 8, 8, 8, 8, 8, 8, 8, 8, 8, 8, 8, 8, 8, 8, 8, 8, 8, 8, 8, 8, 8, 8, 8, 8, 8, 8, 8, 8, 8, 8, 8, 8, 8, 8, 8, 8, 8, 8, 8, 8, 8, 8, 8, 8, 8, 8, 8, 8, 8, 8, 8, 8, 8, 8, 8, 8, 8, 8, 8, 8, 8, 8, 8, 8, 8, 8] (Int.toNat (cvI .u8 (yaP .u64 (yaP .u64 a0 32) 8)))))))) (gd (leI 0 (cvI .u8 (yaP .u64 a0 32)) && ltI (cvI .u8 (yaP .u64 a0 32)) 256) (K (yaj .i64 32 (cvI .i64 (ybj [0, 1, 2, 2, 3, 3, 3, 3, 4, 4, 4, 4, 4, 4, 4, 4, 5, 5, 5, 5, 5, 5, 5, 5, 5, 5, 5, 5, 5, 5, 5, 5, 6, 6, 6, 6, 6, 6, 6, 6, 6, 6, 6, 6, 6, 6, 6, 6, 6, 6, 6, 6, 6, 6, 6, 6, 6, 6, 6, 6, 6, 6, 6, 6, 7, 7, 7, 7, 7, 7, 7, 7, 7, 7, 7, 7, 7, 7, 7, 7, 7, 7, 7, 7, 7, 7, 7, 7, 7, 7, 7, 7, 7, 7, 7, 7, 7, 7, 7, 7, 7, 7, 7, 7, 7, 7, 7, 7, 7, 7, 7, 7, 7, 7, 7, 7, 7, 7, 7, 7, 7, 7, 7, 7, 7, 7, 7, 7, 8, 8, 8, 8, 8, 8, 8, 8, 8, 8, 8, 8, 8, 8, 8, 8, 8, 8, 8, 8, 8, 8, 8, 8, 8, 8, 8, 8, 8, 8, 8, 8, 8, 8, 8, 8, 8, 8, 8, 8, 8, 8, 8, 8, 8, 8, 8, 8, 8, 8, 8, 8, 8, 8, 8, 8, 8, 8, 8, 8, 8, 8, 8, 8, 8, 8, 8, 8, 8, 8, 8, 8, 8, 8, 8, 8, 8, 8, 8, 8, 8, 8, 8, 8, 8, 8, 8, 8, 8, 8, 8, 8, 8, 8, 8, 8, 8, 8, 8, 8, 8, 8, 8, 8, 8, 8, 8, 8, 8, 8, 8, 8, 8, 8, 8, 8, 8, 8, 8, 8, 8, 8, 8, 8, 8, 8, 8, 8] (Int.toNat (cvI .u8 (yaP .u64 a0 32)))))))))) (br (leI 65536 a0) (br (leI 256 (yaP .u64 a0 16)) (gd (leI 0 (cvI .u8 (yaP .u64 (yaP .u64 a0 16) 8)) && ltI (cvI .u8 (yaP .u64 (yaP .u64 a0 16) 8)) 256) (K (yaj .i64 24 (cvI .i64 (ybj [0, 1, 2, 2, 3, 3, 3, 3, 4, 4, 4, 4, 4, 4, 4, 4, 5, 5, 5, 5, 5, 5, 5, 5, 5, 5, 5, 5, 5, 5, 5, 5, 6, 6, 6, 6, 6, 6, 6, 6, 6, 6, 6, 6, 6, 6, 6, 6, 6, 6, 6, 6, 6, 6, 6, 6, 6, 6, 6, 6, 6, 6, 6, 6, 7, 7, 7, 7, 7, 7, 7, 7, 7, 7, 7, 7, 7, 7, 7, 7, 7, 7, 7, 7, 7, 7, 7, 7, 7, 7, 7, 7, 7, 7, 7, 7, 7, 7, 7, 7, 7, 7, 7, 7, 7, 7, 7, 7, 7, 7, 7, 7, 7, 7, 7, 7, 7, 7, 7, 7, 7, 7, 7, 7, 7, 7, 7, 7, 8, 8, 8, 8, 8, 8, 8, 8, 8, 8, 8, 8, 8, 8, 8, 8, 8, 8, 8, 8, 8, 8, 8, 8, 8, 8, 8, 8, 8, 8, 8, 8, 8, 8, 8, 8, 8, 8, 8, 8, 8, 8, 8, 8, 8, 8, 8, 8, 8, 8, 8, 8, 8, 8, 8, 8, 8, 8, 8, 8, 8, 8, 8, 8, 8, 8, 8, 8, 8, 8, 8, 8, 8, 8, 8, 8, 8, 8, 8, 8, 8, 8, 8, 8, 8, 8, 8, 8, 8, 8, 8, 8, 8, 8, 8, 8, 8, 8, 8, 8, 8, 8, 8, 8, 8, 8, 8, 8, 8, 8, 8, 8, 8, 8, 8, 8, 8, 8, 8, 8, 8, 8, 8, 8, 8, 8, 8, 8] (Int.toNat (cvI .u8 (yaP .u64 (yaP .u64 a0 16) 8)))))))) (gd (leI 0 (cvI .u8 (yaP .u64 a0 16)) && ltI (cvI .u8 (yaP .u64 a0 16)) 256) (K (yaj .i64 16 (cvI .i64 (ybj [0, 1, 2, 2, 3, 3, 3, 3, 4, 4, 4, 4, 4, 4, 4, 4, 5, 5, 5, 5, 5, 5, 5, 5, 5, 5, 5, 5, 5, 5, 5, 5, 6, 6, 6, 6, 6, 6, 6, 6, 6, 6, 6, 6, 6, 6, 6, 6, 6, 6, 6, 6, 6, 6, 6, 6, 6, 6, 6, 6, 6, 6, 6, 6, 7, 7, 7, 7, 7, 7, 7, 7, 7, 7, 7, 7, 7, 7, 7, 7, 7, 7, 7, 7, 7, 7, 7, 7, 7, 7, 7, 7, 7, 7, 7, 7, 7, 7, 7, 7, 7, 7, 7, 7, 7, 7, 7, 7, 7, 7, 7, 7, 7, 7, 7, 7, 7, 7, 7, 7, 7, 7, 7, 7, 7, 7, 7, 7, 8, 8, 8, 8, 8, 8, 8, 8, 8, 8, 8, 8, 8, 8, 8, 8, 8, 8, 8, 8, 8, 8, 8, 8, 8, 8, 8, 8, 8, 8, 8, 8, 8, 8, 8, 8, 8, 8, 8, 8, 8, 8, 8, 8, 8, 8, 8, 8, 8, 8, 8, 8, 8, 8, 8, 8, 8, 8, 8, 8, 8, 8, 8, 8, 8, 8, 8, 8, 8, 8, 8, 8, 8, 8, 8, 8, 8, 8, 8, 8, 8, 8, 8, 8, 8, 8, 8, 8, 8, 8, 8, 8, 8, 8, 8, 8, 8, 8, 8, 8, 8, 8, 8, 8, 8, 8, 8, 8, 8, 8, 8, 8, 8, 8, 8, 8, 8, 8, 8, 8, 8, 8, 8, 8, 8, 8, 8, 8] (Int.toNat (cvI .u8 (yaP .u64 a0 16))))))))) (br (leI 256 a0) (gd (leI 0 (cvI .u8 (yaP .u64 a0 8)) && ltI (cvI .u8 (yaP .u64 a0 8)) 256) (K (yaj .i64 8 (cvI .i64 (ybj [0, 1, 2, 2, 3, 3, 3, 3, 4, 4, 4, 4, 4, 4, 4, 4, 5, 5, 5, 5, 5, 5, 5, 5, 5, 5, 5, 5, 5, 5, 5, 5, 6, 6, 6, 6, 6, 6, 6, 6, 6, 6, 6, 6, 6, 6, 6, 6, 6, 6, 6, 6, 6, 6, 6, 6, 6, 6, 6, 6, 6, 6, 6, 6, 7, 7, 7, 7, 7, 7, 7, 7, 7, 7, 7, 7, 7, 7, 7, 7, 7, 7, 7, 7, 7, 7, 7, 7, 7, 7, 7, 7, 7, 7, 7, 7, 7, 7, 7, 7, 7, 7, 7, 7, 7, 7, 7, 7, 7, 7, 7, 7, 7, 7, 7, 7, 7, 7, 7, 7, 7, 7, 7, 7, 7, 7, 7, 7, 8, 8, 8, 8, 8, 8, 8, 8, 8, 8, 8, 8, 8, 8, 8, 8, 8, 8, 8, 8, 8, 8, 8, 8, 8, 8, 8, 8, 8, 8, 8, 8, 8, 8, 8, 8, 8, 8, 8, 8, 8, 8, 8, 8, 8, 8, 8, 8, 8, 8, 8, 8, 8, 8, 8, 8, 8, 8, 8, 8, 8, 8, 8, 8, 8, 8, 8, 8, 8, 8, 8, 8, 8, 8, 8, 8, 8, 8, 8, 8, 8, 8, 8, 8, 8, 8, 8, 8, 8, 8, 8, 8, 8, 8, 8, 8, 8, 8, 8, 8, 8, 8, 8, 8, 8, 8, 8, 8, 8, 8, 8, 8, 8, 8, 8, 8, 8, 8, 8, 8, 8, 8, 8, 8, 8, 8, 8, 8] (Int.toNat (cvI .u8 (yaP .u64 a0 8)))))))) (gd (leI 0 (cvI .u8 a0) && ltI (cvI .u8 a0) 256) (K (yaj .i64 0 (cvI .i64 (ybj [0, 1, 2, 2, 3, 3, 3, 3, 4, 4, 4, 4, 4, 4, 4, 4, 5, 5, 5, 5, 5, 5, 5, 5, 5, 5, 5, 5, 5, 5, 5, 5, 6, 6, 6, 6, 6, 6, 6, 6, 6, 6, 6, 6, 6, 6, 6, 6, 6, 6, 6, 6, 6, 6, 6, 6, 6, 6, 6, 6, 6, 6, 6, 6, 7, 7, 7, 7, 7, 7, 7, 7, 7, 7, 7, 7, 7, 7, 7, 7, 7, 7, 7, 7, 7, 7, 7, 7, 7, 7, 7, 7, 7, 7, 7, 7, 7, 7, 7, 7, 7, 7, 7, 7, 7, 7, 7, 7, 7, 7, 7, 7, 7, 7, 7, 7, 7, 7, 7, 7, 7, 7, 7, 7, 7, 7, 7, 7, 8, 8, 8, 8, 8, 8, 8, 8, 8, 8, 8, 8, 8, 8, 8, 8, 8, 8, 8, 8, 8, 8, 8, 8, 8, 8, 8, 8, 8, 8, 8, 8, 8, 8, 8, 8, 8, 8, 8, 8, 8, 8, 8, 8, 8, 8, 8, 8, 8, 8, 8, 8, 8, 8, 8, 8, 8, 8, 8, 8, 8, 8, 8, 8, 8, 8, 8, 8, 8, 8, 8, 8, 8, 8, 8, 8, 8, 8, 8, 8, 8, 8, 8, 8, 8, 8, 8, 8, 8, 8, 8, 8, 8, 8, 8, 8, 8, 8, 8, 8, 8, 8, 8, 8, 8, 8, 8, 8, 8, 8, 8, 8, 8, 8, 8, 8, 8, 8, 8, 8, 8, 8, 8, 8, 8, 8, 8, 8] (Int.toNat (cvI .u8 a0)))))))))
noncomputable def zaa := shut zaa.d
theorem zaa.is : zaa = zaa.d := shut_is _
def zab.d (a0 : Int) (K : Int → Prop) : Prop :=
  br (eqI a0 0) (K 64) ((leI 0 (yaP .u64 (ybY .u64 (ycp .u64 a0 (yrG .u64 a0)) 285870213051353865) 58) && ltI (yaP .u64 (ybY .u64 (ycp .u64 a0 (yrG .u64 a0)) 285870213051353865) 58) 64) = true ∧ K (cvI .i64 (ybk (Int.toNat (yaP .u64 (ybY .u64 (ycp .u64 a0 (yrG .u64 a0)) 285870213051353865) 58)))))
noncomputable def zab := shut zab.d
theorem zab.is : zab = zab.d := shut_is _
end Go.Ev.S

/- The functions as the evaluator has them: what each comes to. -/
set_option maxRecDepth 100000
set_option linter.unusedVariables false
set_option linter.unusedSimpArgs false
namespace Go.Ev.S
open Go Go.Ev
def word_one.d (a0 : Bool) (K : Int → Prop) : Prop :=
  br a0 (K 1) (K 0)
noncomputable def word_one : Bool → (Int → Prop) → Prop := Classical.choose (⟨word_one.d, rfl⟩ : ∃ f, f = word_one.d)
def word_Add.d (a0 : Int) (a1 : Int) (a2 : Bool) (K : Int → Bool → Prop) : Prop :=
  word_one a2 fun y0 => br (ltI (yaj .u64 a0 a1) a0) (K (yaj .u64 (yaj .u64 a0 a1) y0) true) (br a2 (K (yaj .u64 (yaj .u64 a0 a1) y0) (eqI (yaj .u64 (yaj .u64 a0 a1) y0) 0)) (K (yaj .u64 (yaj .u64 a0 a1) y0) false))
noncomputable def word_Add : Int → Int → Bool → (Int → Bool → Prop) → Prop := Classical.choose (⟨word_Add.d, rfl⟩ : ∃ f, f = word_Add.d)
def zen.d (a0 : Int) (K : Int → Prop) : Prop :=
  zaa a0 fun y0 => K y0
noncomputable def zen := shut zen.d
theorem zen.is : zen = zen.d := shut_is _
def zeo.d (a0 : Int) (K : Int → Prop) : Prop :=
  zab a0 fun y0 => K y0
noncomputable def zeo := shut zeo.d
theorem zeo.is : zeo = zeo.d := shut_is _
def zeq.d (a0 : Int) (K : Int → Prop) : Prop :=
  K (cvI .u64 (ylF (yia a0 0) 64))
noncomputable def zeq := shut zeq.d
theorem zeq.is : zeq = zeq.d := shut_is _
def zep.d (a0 : Int) (K : Int → Prop) : Prop :=
  zeq a0 fun y0 => gd (!ltI y0 0) (K (yan .u64 (ybD .u64 1 y0) 1))
noncomputable def zep := shut zep.d
theorem zep.is : zep = zep.d := shut_is _
end Go.Ev.S

/- The functions as the evaluator has them: what each comes to. -/
set_option maxRecDepth 100000
set_option linter.unusedVariables false
set_option linter.unusedSimpArgs false
namespace Go.Ev.S
open Go Go.Ev
def wide_Add.l2.step (again : Bool → Int → (Nat → Int) → (Nat → Int) → (Nat → Int) → Prop) (k0 : Bool → (Nat → Int) → Prop) (x0 : Bool) (x1 : Int) (x2 : Nat → Int) (x3 : Nat → Int) (x4 : Nat → Int) : Prop :=
  br (ltI x1 6) (gd (leI 0 x1 && ltI x1 6) (gd (leI 0 x1 && ltI x1 6) (word_Add (x2 (Int.toNat x1)) (x3 (Int.toNat x1)) x0 fun y0 y1 => gd (leI 0 x1 && ltI x1 6) (again y1 (yaj .i64 x1 1) x2 x3 (upd x4 (Int.toNat x1) y0))))) (k0 x0 x4)
def wide_Add.l2 (k0 : Bool → (Nat → Int) → Prop) : Nat → Bool → Int → (Nat → Int) → (Nat → Int) → (Nat → Int) → Prop
  | 0 => fun _ _ _ _ _ => False
  | n + 1 => wide_Add.l2.step (wide_Add.l2 k0 n) k0
def wide_Add.l2.entry : yao := ⟨LV.mk 48 [(0, 48)] 48 0 false, 0, 26, fun vs H K => match vs, H with
  | [EV.ptr 0 [], EV.ptr 1 [], EV.ptr 2 [], EV.bool x0, EV.int .i64 x1], [some (EV.arr .u64 6 x2), some (EV.arr .u64 6 x3), some (EV.arr .u64 6 x4)] => ∃ n, wide_Add.l2 (fun y0 y1 => K (.exit 0) [EV.ptr 0 [], EV.bool y0] [some (EV.arr .u64 6 y1)]) n x0 x1 x2 x3 x4
  | _, _ => False⟩
def wide_Add.d (a0 : Nat → Int) (a1 : Nat → Int) (K : (Nat → Int) → Bool → Prop) : Prop :=
  ∃ n, wide_Add.l2 (fun y0 y1 => K y1 y0) n false 0 a0 a1 fun x => 0
noncomputable def wide_Add : (Nat → Int) → (Nat → Int) → ((Nat → Int) → Bool → Prop) → Prop := Classical.choose (⟨wide_Add.d, rfl⟩ : ∃ f, f = wide_Add.d)
def zeb.l2.step (again : Int → (Nat → Int) → (Nat → Int) → (Nat → Int) → Prop) (k0 : (Nat → Int) → (Nat → Int) → Prop) (x0 : Int) (x1 : Nat → Int) (x2 : Nat → Int) (x3 : Nat → Int) : Prop :=
  br (ltI x0 6) (gd (leI 0 x0 && ltI x0 6) (gd (leI 0 x0 && ltI x0 6) (gd (leI 0 x0 && ltI x0 6) (again (yaj .i64 x0 1) (upd x1 (Int.toNat x0) (ycp .u64 (x1 (Int.toNat x0)) (x2 (Int.toNat x0)))) x2 x3)))) (k0 x1 x3)
def zeb.l2 (k0 : (Nat → Int) → (Nat → Int) → Prop) : Nat → Int → (Nat → Int) → (Nat → Int) → (Nat → Int) → Prop
  | 0 => fun _ _ _ _ => False
  | n + 1 => zeb.l2.step (zeb.l2 k0 n) k0
def zeb.l2.entry : yao := ⟨LV.mk 20 [(0, 20)] 16 0 false, 0, 19, fun vs H K => match vs, H with
  | [EV.ptr 0 [], EV.ptr 1 [], EV.ptr 2 [], EV.int .i64 x0], [some (EV.arr .u64 6 x1), some (EV.arr .u64 6 x2), some (EV.arr .u64 6 x3)] => ∃ n, zeb.l2 (fun y0 y1 => K (.exit 0) [EV.ptr 0 [], EV.ptr 1 []] [some (EV.arr .u64 6 y0), some (EV.arr .u64 6 y1)]) n x0 x1 x2 x3
  | _, _ => False⟩
def zeb.d (a0 : Nat → Int) (a1 : Nat → Int) (K : (Nat → Int) → Prop) : Prop :=
  ∃ n, zeb.l2 (fun y0 y1 => K y0) n 0 a0 a1 fun x => 0
noncomputable def zeb := shut zeb.d
theorem zeb.is : zeb = zeb.d := shut_is _
def zec.d (a0 : Nat → Int) (a1 : Int) (K : Bool → Prop) : Prop :=
  br (leI 0 a1) (br (ltI a1 384) (gd (leI 0 (yaG .i64 a1 64) && ltI (yaG .i64 a1 64) 6) (gd (!ltI (cvI .u64 (ycg .i64 a1 64)) 0) (K (eqI (ycp .u64 (yaP .u64 (a0 (Int.toNat (yaG .i64 a1 64))) (cvI .u64 (ycg .i64 a1 64))) 1) 1)))) (K false)) (K false)
noncomputable def zec := shut zec.d
theorem zec.is : zec = zec.d := shut_is _
def zee.l2.step (again : Int → (Nat → Int) → Prop) (k0 : Int → Prop) (k1 : Prop) (x0 : Int) (x1 : Nat → Int) : Prop :=
  br (leI 0 x0) (gd (leI 0 x0 && ltI x0 6) (br (!eqI (x1 (Int.toNat x0)) 0) (gd (leI 0 x0 && ltI x0 6) (zen (x1 (Int.toNat x0)) fun y0 => k0 (yaj .i64 (ybY .i64 64 x0) y0))) (again (yan .i64 x0 1) x1))) k1
def zee.l2 (k0 : Int → Prop) (k1 : Prop) : Nat → Int → (Nat → Int) → Prop
  | 0 => fun _ _ => False
  | n + 1 => zee.l2.step (zee.l2 k0 k1 n) k0 k1
def zee.l2.entry : yao := ⟨LV.mk 0 [(0, 0)] 4 0 false, 0, 19, fun vs H K => match vs, H with
  | [EV.ptr 0 [], EV.int .i64 x0], [some (EV.arr .u64 6 x1)] => ∃ n, zee.l2 (fun y0 => K .ret [EV.int .i64 y0] []) (K (.exit 0) [] []) n x0 x1
  | _, _ => False⟩
def zee.d (a0 : Nat → Int) (K : Int → Prop) : Prop :=
  ∃ n, zee.l2 (fun y0 => K y0) (K 0) n 5 a0
noncomputable def zee := shut zee.d
theorem zee.is : zee = zee.d := shut_is _
def zem.d (a0 : Int) (K : Int → Prop) : Prop :=
  K (ylF (yia a0 0) 384)
noncomputable def zem := shut zem.d
theorem zem.is : zem = zem.d := shut_is _
def zed.l5.step (again : Bool → Int → Int → Int → (Nat → Int) → (Nat → Int) → Prop) (k0 : Bool → (Nat → Int) → Prop) (x0 : Bool) (x1 : Int) (x2 : Int) (x3 : Int) (x4 : Nat → Int) (x5 : Nat → Int) : Prop :=
  br (leI x1 x3) (gd (leI 0 (yan .i64 x3 x1) && ltI (yan .i64 x3 x1) 6) (gd (!ltI x2 0) (gd (leI 0 x3 && ltI x3 6) (br (ltI x1 x3) (gd (leI 0 x3 && ltI x3 6) (gd (leI 0 (yan .i64 (yan .i64 x3 x1) 1) && ltI (yan .i64 (yan .i64 x3 x1) 1) 6) (gd (!ltI (yan .u64 64 x2) 0) (gd (leI 0 x3 && ltI x3 6) (again x0 x1 x2 (yan .i64 x3 1) x4 (upd (upd x5 (Int.toNat x3) (ybD .u64 (x4 (Int.toNat (yan .i64 x3 x1))) x2)) (Int.toNat x3) (orI .u64 (upd x5 (Int.toNat x3) (ybD .u64 (x4 (Int.toNat (yan .i64 x3 x1))) x2) (Int.toNat x3)) (yaP .u64 (x4 (Int.toNat (yan .i64 (yan .i64 x3 x1) 1))) (yan .u64 64 x2))))))))) (again x0 x1 x2 (yan .i64 x3 1) x4 (upd x5 (Int.toNat x3) (ybD .u64 (x4 (Int.toNat (yan .i64 x3 x1))) x2))))))) (k0 x0 x5)
def zed.l5 (k0 : Bool → (Nat → Int) → Prop) : Nat → Bool → Int → Int → Int → (Nat → Int) → (Nat → Int) → Prop
  | 0 => fun _ _ _ _ _ _ => False
  | n + 1 => zed.l5.step (zed.l5 k0 n) k0
def zed.l5.entry : yao := ⟨LV.mk 48 [(0, 48)] 48 0 false, 0, 59, fun vs H K => match vs, H with
  | [EV.ptr 0 [], EV.ptr 1 [], EV.bool x0, EV.int .i64 x1, EV.int .u64 x2, EV.int .i64 x3], [some (EV.arr .u64 6 x4), some (EV.arr .u64 6 x5)] => ∃ n, zed.l5 (fun y0 y1 => K (.exit 0) [EV.ptr 0 [], EV.bool y0] [some (EV.arr .u64 6 y1)]) n x0 x1 x2 x3 x4 x5
  | _, _ => False⟩
def zed.d (a0 : Nat → Int) (a1 : Int) (K : (Nat → Int) → Bool → Prop) : Prop :=
  zem a1 fun y0 => zee a0 fun y0_1 => br (ltI 384 (yaj .i64 y0_1 y0)) (∃ n, zed.l5 (fun y0 y1 => K y1 y0) n (!eqN 6 a0 fun x => 0) (yaG .i64 y0 64) (cvI .u64 (ycg .i64 y0 64)) 5 a0 fun x => 0) (∃ n, zed.l5 (fun y0 y1 => K y1 y0) n false (yaG .i64 y0 64) (cvI .u64 (ycg .i64 y0 64)) 5 a0 fun x => 0)
noncomputable def zed := shut zed.d
theorem zed.is : zed = zed.d := shut_is _
def zef.l2.step (again : (Nat → Int) → Int → Prop) (k0 : Int → Prop) (k1 : Prop) (x0 : Nat → Int) (x1 : Int) : Prop :=
  br (ltI x1 6) (gd (leI 0 x1 && ltI x1 6) (br (!eqI (x0 (Int.toNat x1)) 0) (zeo (x0 (Int.toNat x1)) fun y0 => k0 (yaj .i64 (ybY .i64 64 x1) y0)) (again x0 (yaj .i64 x1 1)))) k1
def zef.l2 (k0 : Int → Prop) (k1 : Prop) : Nat → (Nat → Int) → Int → Prop
  | 0 => fun _ _ => False
  | n + 1 => zef.l2.step (zef.l2 k0 k1 n) k0 k1
def zef.l2.entry : yao := ⟨LV.mk 0 [(0, 0)] 4 0 false, 0, 18, fun vs H K => match vs, H with
  | [EV.arr .u64 6 x0, EV.int .i64 x1], [] => ∃ n, zef.l2 (fun y0 => K .ret [EV.int .i64 y0] []) (K (.exit 0) [] []) n x0 x1
  | _, _ => False⟩
def zef.d (a0 : Nat → Int) (K : Int → Prop) : Prop :=
  ∃ n, zef.l2 (fun y0 => K y0) (K 384) n a0 0
noncomputable def zef := shut zef.d
theorem zef.is : zef = zef.d := shut_is _
def zeg.l4.step (again : Int → Int → (Nat → Int) → (Nat → Int) → Prop) (k0 : (Nat → Int) → (Nat → Int) → Prop) (x0 : Int) (x1 : Int) (x2 : Nat → Int) (x3 : Nat → Int) : Prop :=
  br (ltI x1 6) (zep (yan .i64 x0 (ybY .i64 64 x1)) fun y0 => gd (leI 0 x1 && ltI x1 6) (again x0 (yaj .i64 x1 1) x2 (upd x3 (Int.toNat x1) y0))) (k0 x2 x3)
def zeg.l4 (k0 : (Nat → Int) → (Nat → Int) → Prop) : Nat → Int → Int → (Nat → Int) → (Nat → Int) → Prop
  | 0 => fun _ _ _ _ => False
  | n + 1 => zeg.l4.step (zeg.l4 k0 n) k0
def zeg.l4.entry : yao := ⟨LV.mk 12 [(0, 12)] 4 0 false, 0, 19, fun vs H K => match vs, H with
  | [EV.int .i64 x0, EV.ptr 0 [], EV.ptr 1 [], EV.int .i64 x1], [some (EV.arr .u64 6 x2), some (EV.arr .u64 6 x3)] => ∃ n, zeg.l4 (fun y0 y1 => K (.exit 0) [EV.ptr 0 [], EV.ptr 1 []] [some (EV.arr .u64 6 y0), some (EV.arr .u64 6 y1)]) n x0 x1 x2 x3
  | _, _ => False⟩
def zeg.d (a0 : Int) (K : (Nat → Int) → Prop) : Prop :=
  zem a0 fun y0 => ∃ n, zeg.l4 (fun y0 y1 => K y1) n y0 0 (fun x => 0) fun x => 0
noncomputable def zeg := shut zeg.d
theorem zeg.is : zeg = zeg.d := shut_is _
def zeh.d (a0 : Int) (K : (Nat → Int) → Prop) : Prop :=
  K (upd (fun x => 0) 0 a0)
noncomputable def zeh := shut zeh.d
theorem zeh.is : zeh = zeh.d := shut_is _
def zei.d (a0_0 : Int) (a0_1 : Int) (K : (Nat → Int) → Prop) : Prop :=
  K (upd (upd (fun x => 0) 0 a0_1) 1 a0_0)
noncomputable def zei := shut zei.d
theorem zei.is : zei = zei.d := shut_is _
def zej.l2.step (again : Int → (Nat → Int) → (Nat → Int) → (Nat → Int) → Prop) (k0 : (Nat → Int) → (Nat → Int) → Prop) (x0 : Int) (x1 : Nat → Int) (x2 : Nat → Int) (x3 : Nat → Int) : Prop :=
  br (ltI x0 6) (gd (leI 0 x0 && ltI x0 6) (gd (leI 0 x0 && ltI x0 6) (gd (leI 0 x0 && ltI x0 6) (again (yaj .i64 x0 1) (upd x1 (Int.toNat x0) (orI .u64 (x1 (Int.toNat x0)) (x2 (Int.toNat x0)))) x2 x3)))) (k0 x1 x3)
def zej.l2 (k0 : (Nat → Int) → (Nat → Int) → Prop) : Nat → Int → (Nat → Int) → (Nat → Int) → (Nat → Int) → Prop
  | 0 => fun _ _ _ _ => False
  | n + 1 => zej.l2.step (zej.l2 k0 n) k0
def zej.l2.entry : yao := ⟨LV.mk 20 [(0, 20)] 16 0 false, 0, 19, fun vs H K => match vs, H with
  | [EV.ptr 0 [], EV.ptr 1 [], EV.ptr 2 [], EV.int .i64 x0], [some (EV.arr .u64 6 x1), some (EV.arr .u64 6 x2), some (EV.arr .u64 6 x3)] => ∃ n, zej.l2 (fun y0 y1 => K (.exit 0) [EV.ptr 0 [], EV.ptr 1 []] [some (EV.arr .u64 6 y0), some (EV.arr .u64 6 y1)]) n x0 x1 x2 x3
  | _, _ => False⟩
def zej.d (a0 : Nat → Int) (a1 : Nat → Int) (K : (Nat → Int) → Prop) : Prop :=
  ∃ n, zej.l2 (fun y0 y1 => K y0) n 0 a0 a1 fun x => 0
noncomputable def zej := shut zej.d
theorem zej.is : zej = zej.d := shut_is _
def zek.l5.step (again : Bool → Int → Int → Int → (Nat → Int) → (Nat → Int) → Prop) (k0 : Bool → (Nat → Int) → Prop) (x0 : Bool) (x1 : Int) (x2 : Int) (x3 : Int) (x4 : Nat → Int) (x5 : Nat → Int) : Prop :=
  br (ltI (yaj .i64 x3 x1) 6) (gd (leI 0 (yaj .i64 x3 x1) && ltI (yaj .i64 x3 x1) 6) (gd (!ltI x2 0) (gd (leI 0 x3 && ltI x3 6) (br (ltI (yaj .i64 x3 x1) 5) (gd (leI 0 x3 && ltI x3 6) (gd (leI 0 (yaj .i64 (yaj .i64 x3 x1) 1) && ltI (yaj .i64 (yaj .i64 x3 x1) 1) 6) (gd (!ltI (yan .u64 64 x2) 0) (gd (leI 0 x3 && ltI x3 6) (again x0 x1 x2 (yaj .i64 x3 1) x4 (upd (upd x5 (Int.toNat x3) (yaP .u64 (x4 (Int.toNat (yaj .i64 x3 x1))) x2)) (Int.toNat x3) (orI .u64 (upd x5 (Int.toNat x3) (yaP .u64 (x4 (Int.toNat (yaj .i64 x3 x1))) x2) (Int.toNat x3)) (ybD .u64 (x4 (Int.toNat (yaj .i64 (yaj .i64 x3 x1) 1))) (yan .u64 64 x2))))))))) (again x0 x1 x2 (yaj .i64 x3 1) x4 (upd x5 (Int.toNat x3) (yaP .u64 (x4 (Int.toNat (yaj .i64 x3 x1))) x2))))))) (k0 x0 x5)
def zek.l5 (k0 : Bool → (Nat → Int) → Prop) : Nat → Bool → Int → Int → Int → (Nat → Int) → (Nat → Int) → Prop
  | 0 => fun _ _ _ _ _ _ => False
  | n + 1 => zek.l5.step (zek.l5 k0 n) k0
def zek.l5.entry : yao := ⟨LV.mk 48 [(0, 48)] 48 0 false, 0, 60, fun vs H K => match vs, H with
  | [EV.ptr 0 [], EV.ptr 1 [], EV.bool x0, EV.int .i64 x1, EV.int .u64 x2, EV.int .i64 x3], [some (EV.arr .u64 6 x4), some (EV.arr .u64 6 x5)] => ∃ n, zek.l5 (fun y0 y1 => K (.exit 0) [EV.ptr 0 [], EV.bool y0] [some (EV.arr .u64 6 y1)]) n x0 x1 x2 x3 x4 x5
  | _, _ => False⟩
def zek.d (a0 : Nat → Int) (a1 : Int) (K : (Nat → Int) → Bool → Prop) : Prop :=
  zem a1 fun y0 => br (!eqN 6 a0 fun x => 0) (zef a0 fun y0_1 => ∃ n, zek.l5 (fun y0 y1 => K y1 y0) n (ltI y0_1 y0) (yaG .i64 y0 64) (cvI .u64 (ycg .i64 y0 64)) 0 a0 fun x => 0) (∃ n, zek.l5 (fun y0 y1 => K y1 y0) n false (yaG .i64 y0 64) (cvI .u64 (ycg .i64 y0 64)) 0 a0 fun x => 0)
noncomputable def zek := shut zek.d
theorem zek.is : zek = zek.d := shut_is _
def zel.d (a0 : Nat → Int) (K : Int → Int → Bool → Prop) : Prop :=
  br (!eqI (orI .u64 (orI .u64 (orI .u64 (a0 2) (a0 3)) (a0 4)) (a0 5)) 0) (K 0 0 false) (K (a0 1) (a0 0) true)
noncomputable def zel := shut zel.d
theorem zel.is : zel = zel.d := shut_is _
end Go.Ev.S

/- The functions as the evaluator has them: what each comes to. -/
set_option maxRecDepth 100000
set_option linter.unusedVariables false
set_option linter.unusedSimpArgs false
namespace Go.Ev.S
open Go Go.Ev
def zbg.d (a0 : List UInt8) (K : Int → Prop) : Prop :=
  br (ltI 16384 ↑(List.length a0)) (K 2) (br (!eqS a0 []) (gd (ltI 0 ↑(List.length a0)) (br (eqI (ybj a0 0) 0) (K 2) (K 0))) (K 0))
noncomputable def zbg := shut zbg.d
theorem zbg.is : zbg = zbg.d := shut_is _
def zcc.d (a0 : List UInt8) (a1 : List UInt8) (K : Bool → Prop) : Prop :=
  zbg a0 fun y0 => br (eqI y0 0) (zbg a1 fun y0 => K (eqI y0 0)) (K false)
noncomputable def zcc := shut zcc.d
theorem zcc.is : zcc = zcc.d := shut_is _
def zbv.l1.step (again : Nat → Nat → Nat → (Nat → Int) → Prop) (k0 : Nat → Nat → Nat → (Nat → Int) → Prop) (x0 : Nat) (x1 : Nat) (x2 : Nat) (x3 : Nat → Int) : Prop :=
  br (ltI 0 ↑x0) (gd (leI 0 (yan .i64 (↑x0) 1) && ltI (yan .i64 (↑x0) 1) ↑x0) (br (eqI (x3 (Int.toNat (yan .i64 (↑x0) 1))) 0) (gd (leI 0 (yan .i64 (↑x0) 1) && leI (yan .i64 (↑x0) 1) ↑x1) (again (Int.toNat (yan .i64 (↑x0) 1) - 0) (x1 - 0) x2 x3)) (k0 x0 x1 x2 x3))) (k0 x0 x1 x2 x3)
def zbv.l1 (k0 : Nat → Nat → Nat → (Nat → Int) → Prop) : Nat → Nat → Nat → Nat → (Nat → Int) → Prop
  | 0 => fun _ _ _ _ => False
  | n + 1 => zbv.l1.step (zbv.l1 k0 n) k0
def zbv.l1.entry : yao := ⟨LV.mk 1 [(0, 1)] 4 1 false, 1, 21, fun vs H K => match vs, H with
  | [EV.slice 0 0 x0 (some x1) 1], [some (EV.arr .u32 x2 x3)] => ∃ n, zbv.l1 (fun y0 y1 y2 y3 => K (.exit 0) [EV.slice 0 0 y0 (some y1) 1] [some (EV.arr .u32 y2 y3)]) n x0 x1 x2 x3
  | _, _ => False⟩
def zbv.d (a0l : Nat) (a0c : Nat) (a0n : Nat) (a0 : Nat → Int) (K : Nat → Nat → Nat → (Nat → Int) → Prop) : Prop :=
  ∃ n, zbv.l1 (fun y0 y1 y2 y3 => K y0 y1 y2 y3) n a0l a0c a0n a0
noncomputable def zbv := shut zbv.d
theorem zbv.is : zbv = zbv.d := shut_is _
def zcd.l7.step (again : Nat → (Nat → Int) → Nat → Nat → Int → Int → Nat → (Nat → Int) → Prop) (k0 : Nat → Nat → Nat → (Nat → Int) → Prop) (x0 : Nat) (x1 : Nat → Int) (x2 : Nat) (x3 : Nat) (x4 : Int) (x5 : Int) (x6 : Nat) (x7 : Nat → Int) : Prop :=
  br (ltI x5 ↑x0) (gd (leI 0 x5 && ltI x5 ↑x2) (br (ltI x5 ↑x0) (gd (leI 0 x5 && ltI x5 ↑x0) (gd (leI 0 x5 && ltI x5 ↑x2) (again x0 x1 x2 x3 (yaP .u64 (yaj .u64 (yaj .u64 x4 (cvI .u64 (x7 (Int.toNat x5)))) (cvI .u64 (x1 (Int.toNat x5)))) 32) (yaj .i64 x5 1) x6 (upd x7 (Int.toNat x5) (cvI .u32 (yaj .u64 (yaj .u64 x4 (cvI .u64 (x7 (Int.toNat x5)))) (cvI .u64 (x1 (Int.toNat x5))))))))) (gd (leI 0 x5 && ltI x5 ↑x2) (again x0 x1 x2 x3 (yaP .u64 (yaj .u64 x4 (cvI .u64 (x7 (Int.toNat x5)))) 32) (yaj .i64 x5 1) x6 (upd x7 (Int.toNat x5) (cvI .u32 (yaj .u64 x4 (cvI .u64 (x7 (Int.toNat x5)))))))))) (br (ltI 0 x4) (gd (leI 0 x5 && ltI x5 ↑x2) (br (ltI x5 ↑x0) (gd (leI 0 x5 && ltI x5 ↑x0) (gd (leI 0 x5 && ltI x5 ↑x2) (again x0 x1 x2 x3 (yaP .u64 (yaj .u64 (yaj .u64 x4 (cvI .u64 (x7 (Int.toNat x5)))) (cvI .u64 (x1 (Int.toNat x5)))) 32) (yaj .i64 x5 1) x6 (upd x7 (Int.toNat x5) (cvI .u32 (yaj .u64 (yaj .u64 x4 (cvI .u64 (x7 (Int.toNat x5)))) (cvI .u64 (x1 (Int.toNat x5))))))))) (gd (leI 0 x5 && ltI x5 ↑x2) (again x0 x1 x2 x3 (yaP .u64 (yaj .u64 x4 (cvI .u64 (x7 (Int.toNat x5)))) 32) (yaj .i64 x5 1) x6 (upd x7 (Int.toNat x5) (cvI .u32 (yaj .u64 x4 (cvI .u64 (x7 (Int.toNat x5)))))))))) (k0 x2 x3 x6 x7))
def zcd.l7 (k0 : Nat → Nat → Nat → (Nat → Int) → Prop) : Nat → Nat → (Nat → Int) → Nat → Nat → Int → Int → Nat → (Nat → Int) → Prop
  | 0 => fun _ _ _ _ _ _ _ _ => False
  | n + 1 => zcd.l7.step (zcd.l7 k0 n) k0
def zcd.l7.entry : yao := ⟨LV.mk 32 [(0, 32)] 16 0 false, 0, 59, fun vs H K => match vs, H with
  | [EV.rsI .u32 x0 x1, EV.slice 0 0 x2 (some x3) 1, EV.int .u64 x4, EV.int .i64 x5], [some (EV.arr .u32 x6 x7)] => ∃ n, zcd.l7 (fun y0 y1 y2 y3 => K (.exit 0) [EV.slice 0 0 y0 (some y1) 1] [some (EV.arr .u32 y2 y3)]) n x0 x1 x2 x3 x4 x5 x6 x7
  | _, _ => False⟩
def zcd.d (a0n : Nat) (a0 : Nat → Int) (a1n : Nat) (a1 : Nat → Int) (K : Nat → (Nat → Int) → Prop) : Prop :=
  br (ltI ↑a0n ↑a1n) (gd (leI 0 (yaj .i64 (↑a1n) 1) && (leI (yaj .i64 (↑a1n) 1) (yaj .i64 (↑a1n) 1) && leI (yaj .i64 (↑a1n) 1) 1099511627776)) (∃ n, zcd.l7 (fun y0 y1 y2 y3 => zbv y0 y1 y2 y3 fun y0 y1 y2 y3 => K y0 y3) n a0n a0 (Int.toNat (yaj .i64 (↑a1n) 1)) (Int.toNat (yaj .i64 (↑a1n) 1)) 0 0 (Int.toNat (yaj .i64 (↑a1n) 1)) (ovl 0 (ygj a1n (Int.toNat (yaj .i64 (↑a1n) 1))) a1 fun x => 0))) (gd (leI 0 (yaj .i64 (↑a0n) 1) && (leI (yaj .i64 (↑a0n) 1) (yaj .i64 (↑a0n) 1) && leI (yaj .i64 (↑a0n) 1) 1099511627776)) (∃ n, zcd.l7 (fun y0 y1 y2 y3 => zbv y0 y1 y2 y3 fun y0 y1 y2 y3 => K y0 y3) n a1n a1 (Int.toNat (yaj .i64 (↑a0n) 1)) (Int.toNat (yaj .i64 (↑a0n) 1)) 0 0 (Int.toNat (yaj .i64 (↑a0n) 1)) (ovl 0 (ygj a0n (Int.toNat (yaj .i64 (↑a0n) 1))) a0 fun x => 0)))
noncomputable def zcd := shut zcd.d
theorem zcd.is : zcd = zcd.d := shut_is _
def zbw.l1.step (again : Nat → (Nat → Int) → Prop) (k0 : Nat → (Nat → Int) → Prop) (x0 : Nat) (x1 : Nat → Int) : Prop :=
  br (ltI 0 ↑x0) (gd (leI 0 (yan .i64 (↑x0) 1) && ltI (yan .i64 (↑x0) 1) ↑x0) (br (eqI (x1 (Int.toNat (yan .i64 (↑x0) 1))) 0) (gd (leI 0 (yan .i64 (↑x0) 1) && leI (yan .i64 (↑x0) 1) ↑x0) (again (Int.toNat (yan .i64 (↑x0) 1) - 0) x1)) (k0 x0 x1))) (k0 x0 x1)
def zbw.l1 (k0 : Nat → (Nat → Int) → Prop) : Nat → Nat → (Nat → Int) → Prop
  | 0 => fun _ _ => False
  | n + 1 => zbw.l1.step (zbw.l1 k0 n) k0
def zbw.l1.entry : yao := ⟨LV.mk 1 [(0, 1)] 4 0 false, 0, 21, fun vs H K => match vs, H with
  | [EV.rsI .u32 x0 x1], [] => ∃ n, zbw.l1 (fun y0 y1 => K (.exit 0) [EV.rsI .u32 y0 y1] []) n x0 x1
  | _, _ => False⟩
def zbw.d (a0n : Nat) (a0 : Nat → Int) (K : Nat → (Nat → Int) → Prop) : Prop :=
  ∃ n, zbw.l1 (fun y0 y1 => K y0 y1) n a0n a0
noncomputable def zbw := shut zbw.d
theorem zbw.is : zbw = zbw.d := shut_is _
def zca.l4.step (again : Nat → (Nat → Int) → Nat → Nat → Int → Int → Nat → (Nat → Int) → Prop) (k0 : Nat → Nat → Nat → (Nat → Int) → Prop) (x0 : Nat) (x1 : Nat → Int) (x2 : Nat) (x3 : Nat) (x4 : Int) (x5 : Int) (x6 : Nat) (x7 : Nat → Int) : Prop :=
  br (ltI x5 x4) (gd (leI 0 (yaG .i64 x5 4) && ltI (yaG .i64 x5 4) ↑x0) (gd (!ltI (cvI .u64 (ybY .i64 8 (ycg .i64 x5 4))) 0) (gd (leI 0 (yan .i64 (yan .i64 (↑x2) 1) x5) && ltI (yan .i64 (yan .i64 (↑x2) 1) x5) ↑x2) (again x0 x1 x2 x3 x4 (yaj .i64 x5 1) x6 (upd x7 (Int.toNat (yan .i64 (yan .i64 (↑x2) 1) x5)) (cvI .u8 (yaP .u32 (x1 (Int.toNat (yaG .i64 x5 4))) (cvI .u64 (ybY .i64 8 (ycg .i64 x5 4)))))))))) (k0 x2 x3 x6 x7)
def zca.l4 (k0 : Nat → Nat → Nat → (Nat → Int) → Prop) : Nat → Nat → (Nat → Int) → Nat → Nat → Int → Int → Nat → (Nat → Int) → Prop
  | 0 => fun _ _ _ _ _ _ _ _ => False
  | n + 1 => zca.l4.step (zca.l4 k0 n) k0
def zca.l4.entry : yao := ⟨LV.mk 8 [(0, 8)] 4 0 false, 0, 48, fun vs H K => match vs, H with
  | [EV.rsI .u32 x0 x1, EV.slice 0 0 x2 (some x3) 1, EV.int .i64 x4, EV.int .i64 x5], [some (EV.arr .u8 x6 x7)] => ∃ n, zca.l4 (fun y0 y1 y2 y3 => K (.exit 0) [EV.slice 0 0 y0 (some y1) 1] [some (EV.arr .u8 y2 y3)]) n x0 x1 x2 x3 x4 x5 x6 x7
  | _, _ => False⟩
def zca.l8.step (again : Nat → Nat → Nat → Nat → (Nat → Int) → Prop) (k0 : Nat → Nat → Nat → Nat → (Nat → Int) → Prop) (x0 : Nat) (x1 : Nat) (x2 : Nat) (x3 : Nat) (x4 : Nat → Int) : Prop :=
  br (ltI 0 ↑x1) (gd (ltI 0 ↑x1) (br (eqI (x4 (yh5 x0 0)) 0) (gd (leI 1 ↑x1 && leI ↑x1 ↑x2) (again (yh5 x0 1) (Int.toNat ↑x1 - 1) (x2 - 1) x3 x4)) (k0 x0 x1 x2 x3 x4))) (k0 x0 x1 x2 x3 x4)
def zca.l8 (k0 : Nat → Nat → Nat → Nat → (Nat → Int) → Prop) : Nat → Nat → Nat → Nat → Nat → (Nat → Int) → Prop
  | 0 => fun _ _ _ _ _ => False
  | n + 1 => zca.l8.step (zca.l8 k0 n) k0
def zca.l8.entry : yao := ⟨LV.mk 8 [(2, 8)] 4 0 false, 0, 48, fun vs H K => match vs, H with
  | [EV.slice 0 x0 x1 (some x2) 1], [some (EV.arr .u8 x3 x4)] => ∃ n, zca.l8 (fun y0 y1 y2 y3 y4 => K (.exit 2) [EV.slice 0 y0 y1 (some y2) 1] [some (EV.arr .u8 y3 y4)]) n x0 x1 x2 x3 x4
  | _, _ => False⟩
def zca.d (a0n : Nat) (a0 : Nat → Int) (K : List UInt8 → Prop) : Prop :=
  zbw a0n a0 fun y0 y1 => gd (leI 0 (ybY .i64 4 ↑y0) && (leI (ybY .i64 4 ↑y0) (ybY .i64 4 ↑y0) && leI (ybY .i64 4 ↑y0) 1099511627776)) (∃ n, zca.l4 (fun y0 y1 y2 y3 => ∃ n, zca.l8 (fun y0 y1 y2 y3 y4 => K (ybA y1 (shift y0 y4))) n 0 y0 y1 y2 y3) n y0 y1 (Int.toNat (ybY .i64 4 ↑y0)) (Int.toNat (ybY .i64 4 ↑y0)) (↑(Int.toNat (ybY .i64 4 ↑y0))) 0 (Int.toNat (ybY .i64 4 ↑y0)) fun x => 0)
noncomputable def zca := shut zca.d
theorem zca.is : zca = zca.d := shut_is _
def zcf.d (a0n : Nat) (a0 : Nat → Int) (K : List UInt8 → Int → Prop) : Prop :=
  zca a0n a0 fun y0 => br (ltI 16384 ↑(List.length y0)) (K [] 4) (K y0 0)
noncomputable def zcf := shut zcf.d
theorem zcf.is : zcf = zcf.d := shut_is _
def zci.l3.step (again : List UInt8 → Nat → Nat → Int → Int → Nat → (Nat → Int) → Prop) (k0 : Nat → Nat → Nat → (Nat → Int) → Prop) (x0 : List UInt8) (x1 : Nat) (x2 : Nat) (x3 : Int) (x4 : Int) (x5 : Nat) (x6 : Nat → Int) : Prop :=
  br (ltI x4 x3) (gd (leI 0 (yaG .i64 x4 4) && ltI (yaG .i64 x4 4) ↑x1) (gd (leI 0 (yan .i64 (yan .i64 (↑(List.length x0)) 1) x4) && ltI (yan .i64 (yan .i64 (↑(List.length x0)) 1) x4) ↑(List.length x0)) (gd (!ltI (cvI .u64 (ybY .i64 8 (ycg .i64 x4 4))) 0) (gd (leI 0 (yaG .i64 x4 4) && ltI (yaG .i64 x4 4) ↑x1) (again x0 x1 x2 x3 (yaj .i64 x4 1) x5 (upd x6 (Int.toNat (yaG .i64 x4 4)) (orI .u32 (x6 (Int.toNat (yaG .i64 x4 4))) (ybD .u32 (cvI .u32 (ybj x0 (Int.toNat (yan .i64 (yan .i64 (↑(List.length x0)) 1) x4)))) (cvI .u64 (ybY .i64 8 (ycg .i64 x4 4))))))))))) (k0 x1 x2 x5 x6)
def zci.l3 (k0 : Nat → Nat → Nat → (Nat → Int) → Prop) : Nat → List UInt8 → Nat → Nat → Int → Int → Nat → (Nat → Int) → Prop
  | 0 => fun _ _ _ _ _ _ _ => False
  | n + 1 => zci.l3.step (zci.l3 k0 n) k0
def zci.l3.entry : yao := ⟨LV.mk 8 [(0, 8)] 4 0 false, 0, 37, fun vs H K => match vs, H with
  | [EV.str x0, EV.slice 0 0 x1 (some x2) 1, EV.int .i64 x3, EV.int .i64 x4], [some (EV.arr .u32 x5 x6)] => ∃ n, zci.l3 (fun y0 y1 y2 y3 => K (.exit 0) [EV.slice 0 0 y0 (some y1) 1] [some (EV.arr .u32 y2 y3)]) n x0 x1 x2 x3 x4 x5 x6
  | _, _ => False⟩
def zci.d (a0 : List UInt8) (K : Nat → (Nat → Int) → Prop) : Prop :=
  gd (leI 0 (yaG .i64 (yaj .i64 (↑(List.length a0)) 3) 4) && (leI (yaG .i64 (yaj .i64 (↑(List.length a0)) 3) 4) (yaG .i64 (yaj .i64 (↑(List.length a0)) 3) 4) && leI (yaG .i64 (yaj .i64 (↑(List.length a0)) 3) 4) 1099511627776)) (∃ n, zci.l3 (fun y0 y1 y2 y3 => K y0 y3) n a0 (Int.toNat (yaG .i64 (yaj .i64 (↑(List.length a0)) 3) 4)) (Int.toNat (yaG .i64 (yaj .i64 (↑(List.length a0)) 3) 4)) (↑(List.length a0)) 0 (Int.toNat (yaG .i64 (yaj .i64 (↑(List.length a0)) 3) 4)) fun x => 0)
noncomputable def zci := shut zci.d
theorem zci.is : zci = zci.d := shut_is _
def zbf.d (a0 : List UInt8) (a1 : List UInt8) (K : List UInt8 → Int → Prop) : Prop :=
  zcc a0 a1 fun y0 => br (!y0) (K [] 2) (zci a0 fun y0 y1 => zci a1 fun y0_1 y1_1 => zcd y0 y1 y0_1 y1_1 fun y0 y1 => zcf y0 y1 fun y0 y1 => K y0 y1)
noncomputable def zbf := shut zbf.d
theorem zbf.is : zbf = zbf.d := shut_is _
def zbt.l6.step (again : Nat → (Nat → Int) → Nat → (Nat → Int) → Int → Prop) (k0 : Int → Prop) (k1 : Prop) (x0 : Nat) (x1 : Nat → Int) (x2 : Nat) (x3 : Nat → Int) (x4 : Int) : Prop :=
  br (leI 0 x4) (gd (leI 0 x4 && ltI x4 ↑x0) (gd (leI 0 x4 && ltI x4 ↑x2) (br (ltI (x1 (Int.toNat x4)) (x3 (Int.toNat x4))) (k0 (-1)) (gd (leI 0 x4 && ltI x4 ↑x0) (gd (leI 0 x4 && ltI x4 ↑x2) (br (ltI (x3 (Int.toNat x4)) (x1 (Int.toNat x4))) (k0 1) (again x0 x1 x2 x3 (yan .i64 x4 1)))))))) k1
def zbt.l6 (k0 : Int → Prop) (k1 : Prop) : Nat → Nat → (Nat → Int) → Nat → (Nat → Int) → Int → Prop
  | 0 => fun _ _ _ _ _ => False
  | n + 1 => zbt.l6.step (zbt.l6 k0 k1 n) k0 k1
def zbt.l6.entry : yao := ⟨LV.mk 0 [(1, 0)] 16 0 false, 0, 45, fun vs H K => match vs, H with
  | [EV.rsI .u32 x0 x1, EV.rsI .u32 x2 x3, EV.int .i64 x4], [] => ∃ n, zbt.l6 (fun y0 => K .ret [EV.int .i64 y0] []) (K (.exit 1) [] []) n x0 x1 x2 x3 x4
  | _, _ => False⟩
def zbt.d (a0n : Nat) (a0 : Nat → Int) (a1n : Nat) (a1 : Nat → Int) (K : Int → Prop) : Prop :=
  br (ltI ↑a0n ↑a1n) (K (-1)) (br (ltI ↑a1n ↑a0n) (K 1) (∃ n, zbt.l6 (fun y0 => K y0) (K 0) n a0n a0 a1n a1 (yan .i64 (↑a0n) 1)))
noncomputable def zbt := shut zbt.d
theorem zbt.is : zbt = zbt.d := shut_is _
def zbh.d (a0 : List UInt8) (a1 : List UInt8) (K : Int → Int → Prop) : Prop :=
  zcc a0 a1 fun y0 => br (!y0) (K 0 2) (zci a0 fun y0 y1 => zci a1 fun y0_1 y1_1 => zbt y0 y1 y0_1 y1_1 fun y0 => K y0 0)
noncomputable def zbh := shut zbh.d
theorem zbh.is : zbh = zbh.d := shut_is _
def zbu.l1.step (again : Nat → Nat → (Nat → Int) → Prop) (k0 : Nat → Nat → (Nat → Int) → Prop) (x0 : Nat) (x1 : Nat) (x2 : Nat → Int) : Prop :=
  br (ltI 0 ↑x0) (gd (leI 0 (yan .i64 (↑x0) 1) && ltI (yan .i64 (↑x0) 1) ↑x0) (br (eqI (x2 (Int.toNat (yan .i64 (↑x0) 1))) 0) (gd (leI 0 (yan .i64 (↑x0) 1) && leI (yan .i64 (↑x0) 1) ↑x0) (again (Int.toNat (yan .i64 (↑x0) 1) - 0) x1 x2)) (k0 x0 x1 x2))) (k0 x0 x1 x2)
def zbu.l1 (k0 : Nat → Nat → (Nat → Int) → Prop) : Nat → Nat → Nat → (Nat → Int) → Prop
  | 0 => fun _ _ _ => False
  | n + 1 => zbu.l1.step (zbu.l1 k0 n) k0
def zbu.l1.entry : yao := ⟨LV.mk 1 [(0, 1)] 4 1 false, 1, 21, fun vs H K => match vs, H with
  | [EV.slice 0 0 x0 none 1], [some (EV.arr .u32 x1 x2)] => ∃ n, zbu.l1 (fun y0 y1 y2 => K (.exit 0) [EV.slice 0 0 y0 none 1] [some (EV.arr .u32 y1 y2)]) n x0 x1 x2
  | _, _ => False⟩
def zbu.d (a0l : Nat) (a0n : Nat) (a0 : Nat → Int) (K : Nat → Nat → (Nat → Int) → Prop) : Prop :=
  ∃ n, zbu.l1 (fun y0 y1 y2 => K y0 y1 y2) n a0l a0n a0
noncomputable def zbu := shut zbu.d
theorem zbu.is : zbu = zbu.d := shut_is _
def zbx.l5.step (again : Nat → (Nat → Int) → Int → Nat → Nat → Int → Int → Nat → (Nat → Int) → Prop) (k0 : Nat → Nat → Nat → (Nat → Int) → Prop) (x0 : Nat) (x1 : Nat → Int) (x2 : Int) (x3 : Nat) (x4 : Nat) (x5 : Int) (x6 : Int) (x7 : Nat) (x8 : Nat → Int) : Prop :=
  br (ltI x6 x5) (gd (leI 0 (yaj .i64 x6 (yaG .i64 x2 32)) && ltI (yaj .i64 x6 (yaG .i64 x2 32)) ↑x0) (br (ltI (yaj .i64 (yaj .i64 x6 (yaG .i64 x2 32)) 1) ↑x0) (gd (leI 0 (yaj .i64 (yaj .i64 x6 (yaG .i64 x2 32)) 1) && ltI (yaj .i64 (yaj .i64 x6 (yaG .i64 x2 32)) 1) ↑x0) (gd (!ltI (cvI .u64 (ycg .i64 x2 32)) 0) (gd (leI 0 x6 && ltI x6 ↑x3) (again x0 x1 x2 x3 x4 x5 (yaj .i64 x6 1) x7 (upd x8 (Int.toNat x6) (cvI .u32 (yaP .u64 (orI .u64 (cvI .u64 (x1 (Int.toNat (yaj .i64 x6 (yaG .i64 x2 32))))) (ybD .u64 (cvI .u64 (x1 (Int.toNat (yaj .i64 (yaj .i64 x6 (yaG .i64 x2 32)) 1)))) 32)) (cvI .u64 (ycg .i64 x2 32))))))))) (gd (!ltI (cvI .u64 (ycg .i64 x2 32)) 0) (gd (leI 0 x6 && ltI x6 ↑x3) (again x0 x1 x2 x3 x4 x5 (yaj .i64 x6 1) x7 (upd x8 (Int.toNat x6) (cvI .u32 (yaP .u64 (cvI .u64 (x1 (Int.toNat (yaj .i64 x6 (yaG .i64 x2 32))))) (cvI .u64 (ycg .i64 x2 32)))))))))) (k0 x3 x4 x7 x8)
def zbx.l5 (k0 : Nat → Nat → Nat → (Nat → Int) → Prop) : Nat → Nat → (Nat → Int) → Int → Nat → Nat → Int → Int → Nat → (Nat → Int) → Prop
  | 0 => fun _ _ _ _ _ _ _ _ _ => False
  | n + 1 => zbx.l5.step (zbx.l5 k0 n) k0
def zbx.l5.entry : yao := ⟨LV.mk 32 [(0, 32)] 16 0 false, 0, 64, fun vs H K => match vs, H with
  | [EV.rsI .u32 x0 x1, EV.int .i64 x2, EV.slice 0 0 x3 (some x4) 1, EV.int .i64 x5, EV.int .i64 x6], [some (EV.arr .u32 x7 x8)] => ∃ n, zbx.l5 (fun y0 y1 y2 y3 => K (.exit 0) [EV.slice 0 0 y0 (some y1) 1] [some (EV.arr .u32 y2 y3)]) n x0 x1 x2 x3 x4 x5 x6 x7 x8
  | _, _ => False⟩
def zbx.d (a0n : Nat) (a0 : Nat → Int) (a1 : Int) (K : Nat → (Nat → Int) → Prop) : Prop :=
  br (leI (↑a0n) (yaG .i64 a1 32)) (K 0 fun x => 0) (gd (leI 0 (yan .i64 (↑a0n) (yaG .i64 a1 32)) && (leI (yan .i64 (↑a0n) (yaG .i64 a1 32)) (yan .i64 (↑a0n) (yaG .i64 a1 32)) && leI (yan .i64 (↑a0n) (yaG .i64 a1 32)) 1099511627776)) (∃ n, zbx.l5 (fun y0 y1 y2 y3 => zbv y0 y1 y2 y3 fun y0 y1 y2 y3 => K y0 y3) n a0n a0 a1 (Int.toNat (yan .i64 (↑a0n) (yaG .i64 a1 32))) (Int.toNat (yan .i64 (↑a0n) (yaG .i64 a1 32))) (↑(Int.toNat (yan .i64 (↑a0n) (yaG .i64 a1 32)))) 0 (Int.toNat (yan .i64 (↑a0n) (yaG .i64 a1 32))) fun x => 0))
noncomputable def zbx := shut zbx.d
theorem zbx.is : zbx = zbx.d := shut_is _
def zcg.l5.step (again : Int → Nat → Nat → Nat → (Nat → Int) → Int → Int → Nat → (Nat → Int) → Prop) (k0 : Nat → Nat → Nat → (Nat → Int) → Prop) (x0 : Int) (x1 : Nat) (x2 : Nat) (x3 : Nat) (x4 : Nat → Int) (x5 : Int) (x6 : Int) (x7 : Nat) (x8 : Nat → Int) : Prop :=
  br (ltI x6 x5) (gd (leI 0 x6 && ltI x6 ↑x3) (gd (!ltI (cvI .u64 (ycg .i64 x0 32)) 0) (gd (leI 0 (yaj .i64 x6 (yaG .i64 x0 32)) && ltI (yaj .i64 x6 (yaG .i64 x0 32)) ↑x1) (gd (leI 0 (yaj .i64 x6 (yaG .i64 x0 32)) && ltI (yaj .i64 x6 (yaG .i64 x0 32)) ↑x1) (gd (leI 0 (yaj .i64 (yaj .i64 x6 (yaG .i64 x0 32)) 1) && ltI (yaj .i64 (yaj .i64 x6 (yaG .i64 x0 32)) 1) ↑x1) (gd (leI 0 (yaj .i64 (yaj .i64 x6 (yaG .i64 x0 32)) 1) && ltI (yaj .i64 (yaj .i64 x6 (yaG .i64 x0 32)) 1) ↑x1) (again x0 x1 x2 x3 x4 x5 (yaj .i64 x6 1) x7 (upd (upd x8 (Int.toNat (yaj .i64 x6 (yaG .i64 x0 32))) (orI .u32 (x8 (Int.toNat (yaj .i64 x6 (yaG .i64 x0 32)))) (cvI .u32 (ybD .u64 (cvI .u64 (x4 (Int.toNat x6))) (cvI .u64 (ycg .i64 x0 32)))))) (Int.toNat (yaj .i64 (yaj .i64 x6 (yaG .i64 x0 32)) 1)) (orI .u32 (upd x8 (Int.toNat (yaj .i64 x6 (yaG .i64 x0 32))) (orI .u32 (x8 (Int.toNat (yaj .i64 x6 (yaG .i64 x0 32)))) (cvI .u32 (ybD .u64 (cvI .u64 (x4 (Int.toNat x6))) (cvI .u64 (ycg .i64 x0 32))))) (Int.toNat (yaj .i64 (yaj .i64 x6 (yaG .i64 x0 32)) 1))) (cvI .u32 (yaP .u64 (ybD .u64 (cvI .u64 (x4 (Int.toNat x6))) (cvI .u64 (ycg .i64 x0 32))) 32))))))))))) (k0 x1 x2 x7 x8)
def zcg.l5 (k0 : Nat → Nat → Nat → (Nat → Int) → Prop) : Nat → Int → Nat → Nat → Nat → (Nat → Int) → Int → Int → Nat → (Nat → Int) → Prop
  | 0 => fun _ _ _ _ _ _ _ _ _ => False
  | n + 1 => zcg.l5.step (zcg.l5 k0 n) k0
def zcg.l5.entry : yao := ⟨LV.mk 32 [(0, 32)] 16 0 false, 0, 59, fun vs H K => match vs, H with
  | [EV.int .i64 x0, EV.slice 0 0 x1 (some x2) 1, EV.rsI .u32 x3 x4, EV.int .i64 x5, EV.int .i64 x6], [some (EV.arr .u32 x7 x8)] => ∃ n, zcg.l5 (fun y0 y1 y2 y3 => K (.exit 0) [EV.slice 0 0 y0 (some y1) 1] [some (EV.arr .u32 y2 y3)]) n x0 x1 x2 x3 x4 x5 x6 x7 x8
  | _, _ => False⟩
def zcg.d (a0n : Nat) (a0 : Nat → Int) (a1 : Int) (K0 : Prop) (K1 : Nat → Nat → Nat → (Nat → Int) → Prop) : Prop :=
  br (eqI (↑a0n) 0) K0 (gd (leI 0 (yaj .i64 (yaj .i64 (↑a0n) (yaG .i64 a1 32)) 1) && (leI (yaj .i64 (yaj .i64 (↑a0n) (yaG .i64 a1 32)) 1) (yaj .i64 (yaj .i64 (↑a0n) (yaG .i64 a1 32)) 1) && leI (yaj .i64 (yaj .i64 (↑a0n) (yaG .i64 a1 32)) 1) 1099511627776)) (∃ n, zcg.l5 (fun y0 y1 y2 y3 => zbv y0 y1 y2 y3 fun y0 y1 y2 y3 => K1 y0 y1 y2 y3) n a1 (Int.toNat (yaj .i64 (yaj .i64 (↑a0n) (yaG .i64 a1 32)) 1)) (Int.toNat (yaj .i64 (yaj .i64 (↑a0n) (yaG .i64 a1 32)) 1)) a0n a0 (↑a0n) 0 (Int.toNat (yaj .i64 (yaj .i64 (↑a0n) (yaG .i64 a1 32)) 1)) fun x => 0))
noncomputable def zcg := shut zcg.d
theorem zcg.is : zcg = zcg.d := shut_is _
def zcb.l7.step (again : Nat → (Nat → Int) → Nat → (Nat → Int) → Nat → Int → Int → Nat → (Nat → Int) → Prop) (k0 : Nat → Int → Nat → (Nat → Int) → Prop) (x0 : Nat) (x1 : Nat → Int) (x2 : Nat) (x3 : Nat → Int) (x4 : Nat) (x5 : Int) (x6 : Int) (x7 : Nat) (x8 : Nat → Int) : Prop :=
  br (leI 0 x6) (gd (leI 0 x6 && ltI x6 ↑x0) (gd (ltI 0 ↑x2) (gd (!eqI (cvI .u64 (x3 0)) 0) (gd (leI 0 x6 && ltI x6 ↑x4) (gd (ltI 0 ↑x2) (gd (!eqI (cvI .u64 (x3 0)) 0) (again x0 x1 x2 x3 x4 (ycg .u64 (orI .u64 (ybD .u64 x5 32) (cvI .u64 (x1 (Int.toNat x6)))) (cvI .u64 (x3 0))) (yan .i64 x6 1) x7 (upd x8 (Int.toNat x6) (cvI .u32 (yaG .u64 (orI .u64 (ybD .u64 x5 32) (cvI .u64 (x1 (Int.toNat x6)))) (cvI .u64 (x3 0)))))))))))) (k0 x4 x5 x7 x8)
def zcb.l7 (k0 : Nat → Int → Nat → (Nat → Int) → Prop) : Nat → Nat → (Nat → Int) → Nat → (Nat → Int) → Nat → Int → Int → Nat → (Nat → Int) → Prop
  | 0 => fun _ _ _ _ _ _ _ _ _ => False
  | n + 1 => zcb.l7.step (zcb.l7 k0 n) k0
def zcb.l7.entry : yao := ⟨LV.mk 80 [(0, 80)] 48 0 true, 0, 285, fun vs H K => match vs, H with
  | [EV.rsI .u32 x0 x1, EV.rsI .u32 x2 x3, EV.slice 0 0 x4 none 1, EV.int .u64 x5, EV.int .i64 x6], [some (EV.arr .u32 x7 x8)] => ∃ n, zcb.l7 (fun y0 y1 y2 y3 => K (.exit 0) [EV.slice 0 0 y0 none 1, EV.int .u64 y1] [some (EV.arr .u32 y2 y3)]) n x0 x1 x2 x3 x4 x5 x6 x7 x8
  | _, _ => False⟩
def zcb.l16.step (again : Nat → (Nat → Int) → Nat → Int → Nat → Nat → Nat → (Nat → Int) → Nat → (Nat → Int) → Nat → (Nat → Int) → Prop) (k0 : Nat → Int → Nat → Nat → Nat → (Nat → Int) → Nat → (Nat → Int) → Nat → (Nat → Int) → Prop) (x0 : Nat) (x1 : Nat → Int) (x2 : Nat) (x3 : Int) (x4 : Nat) (x5 : Nat) (x6 : Nat) (x7 : Nat → Int) (x8 : Nat) (x9 : Nat → Int) (x10 : Nat) (x11 : Nat → Int) : Prop :=
  br (ltI (↑x5) (yaj .i64 (↑x0) 1)) (gd (leN (x5 + 1) 1099511627776) (again x0 x1 x2 x3 x4 (x5 + 1) x6 x7 x8 x9 (x5 + 1) (app x5 x11 (upd (fun x => 0) 0 0)))) (k0 x2 x3 x4 x5 x6 x7 x8 x9 x10 x11)
def zcb.l16 (k0 : Nat → Int → Nat → Nat → Nat → (Nat → Int) → Nat → (Nat → Int) → Nat → (Nat → Int) → Prop) : Nat → Nat → (Nat → Int) → Nat → Int → Nat → Nat → Nat → (Nat → Int) → Nat → (Nat → Int) → Nat → (Nat → Int) → Prop
  | 0 => fun _ _ _ _ _ _ _ _ _ _ _ _ => False
  | n + 1 => zcb.l16.step (zcb.l16 k0 n) k0
def zcb.l16.entry : yao := ⟨LV.mk 1808 [(2, 1808)] 48 0 true, 0, 285, fun vs H K => match vs, H with
  | [EV.rsI .u32 x0 x1, EV.slice 0 0 x2 none 1, EV.int .i64 x3, EV.slice 1 0 x4 none 1, EV.slice 2 0 x5 none 1], [some (EV.arr .u32 x6 x7), some (EV.arr .u32 x8 x9), some (EV.arr .u32 x10 x11)] => ∃ n, zcb.l16 (fun y0 y1 y2 y3 y4 y5 y6 y7 y8 y9 => K (.exit 2) [EV.slice 0 0 y0 none 1, EV.int .i64 y1, EV.slice 1 0 y2 none 1, EV.slice 2 0 y3 none 1] [some (EV.arr .u32 y4 y5), some (EV.arr .u32 y6 y7), some (EV.arr .u32 y8 y9)]) n x0 x1 x2 x3 x4 x5 x6 x7 x8 x9 x10 x11
  | _, _ => False⟩
def zcb.l24.step (again : Nat → Int → Nat → Nat → Int → Int → Int → Int → Nat → (Nat → Int) → Nat → (Nat → Int) → Nat → (Nat → Int) → Prop) (k0 : Nat → Int → Nat → Nat → Int → Int → Int → Nat → (Nat → Int) → Nat → (Nat → Int) → Nat → (Nat → Int) → Prop) (x0 : Nat) (x1 : Int) (x2 : Nat) (x3 : Nat) (x4 : Int) (x5 : Int) (x6 : Int) (x7 : Int) (x8 : Nat) (x9 : Nat → Int) (x10 : Nat) (x11 : Nat → Int) (x12 : Nat) (x13 : Nat → Int) : Prop :=
  br (leI 4294967296 x6) (gd (leI 0 (yan .i64 x4 1) && ltI (yan .i64 x4 1) ↑x2) (br (leI 4294967296 (yaj .u64 x7 (cvI .u64 (x11 (Int.toNat (yan .i64 x4 1)))))) (k0 x0 x1 x2 x3 x4 x5 (yan .u64 x6 1) x8 x9 x10 x11 x12 x13) (again x0 x1 x2 x3 x4 x5 (yan .u64 x6 1) (yaj .u64 x7 (cvI .u64 (x11 (Int.toNat (yan .i64 x4 1))))) x8 x9 x10 x11 x12 x13))) (gd (leI 0 (yan .i64 x4 2) && ltI (yan .i64 x4 2) ↑x2) (gd (leI 0 (yan .i64 (yaj .i64 x5 x4) 2) && ltI (yan .i64 (yaj .i64 x5 x4) 2) ↑x3) (br (ltI (orI .u64 (ybD .u64 x7 32) (cvI .u64 (x13 (Int.toNat (yan .i64 (yaj .i64 x5 x4) 2))))) (ybY .u64 x6 (cvI .u64 (x11 (Int.toNat (yan .i64 x4 2)))))) (gd (leI 0 (yan .i64 x4 1) && ltI (yan .i64 x4 1) ↑x2) (br (leI 4294967296 (yaj .u64 x7 (cvI .u64 (x11 (Int.toNat (yan .i64 x4 1)))))) (k0 x0 x1 x2 x3 x4 x5 (yan .u64 x6 1) x8 x9 x10 x11 x12 x13) (again x0 x1 x2 x3 x4 x5 (yan .u64 x6 1) (yaj .u64 x7 (cvI .u64 (x11 (Int.toNat (yan .i64 x4 1))))) x8 x9 x10 x11 x12 x13))) (k0 x0 x1 x2 x3 x4 x5 x6 x8 x9 x10 x11 x12 x13))))
def zcb.l24 (k0 : Nat → Int → Nat → Nat → Int → Int → Int → Nat → (Nat → Int) → Nat → (Nat → Int) → Nat → (Nat → Int) → Prop) : Nat → Nat → Int → Nat → Nat → Int → Int → Int → Int → Nat → (Nat → Int) → Nat → (Nat → Int) → Nat → (Nat → Int) → Prop
  | 0 => fun _ _ _ _ _ _ _ _ _ _ _ _ _ _ => False
  | n + 1 => zcb.l24.step (zcb.l24 k0 n) k0
def zcb.l24.entry : yao := ⟨LV.mk 24336 [(6, 24336), (5, 7952), (4, 1296)] 48 0 true, 0, 285, fun vs H K => match vs, H with
  | [EV.slice 0 0 x0 none 1, EV.int .i64 x1, EV.slice 1 0 x2 none 1, EV.slice 2 0 x3 none 1, EV.int .i64 x4, EV.int .i64 x5, EV.int .u64 x6, EV.int .u64 x7], [some (EV.arr .u32 x8 x9), some (EV.arr .u32 x10 x11), some (EV.arr .u32 x12 x13)] => ∃ n, zcb.l24 (fun y0 y1 y2 y3 y4 y5 y6 y7 y8 y9 y10 y11 y12 => K (.exit 6) [EV.slice 0 0 y0 none 1, EV.int .i64 y1, EV.slice 1 0 y2 none 1, EV.slice 2 0 y3 none 1, EV.int .i64 y4, EV.int .i64 y5, EV.int .u64 y6] [some (EV.arr .u32 y7 y8), some (EV.arr .u32 y9 y10), some (EV.arr .u32 y11 y12)]) n x0 x1 x2 x3 x4 x5 x6 x7 x8 x9 x10 x11 x12 x13
  | _, _ => False⟩
def zcb.l31.step (again : Nat → Int → Nat → Nat → Int → Int → Int → Int → Int → Int → Int → Nat → (Nat → Int) → Nat → (Nat → Int) → Nat → (Nat → Int) → Prop) (k0 : Nat → Int → Nat → Nat → Int → Int → Int → Int → Int → Nat → (Nat → Int) → Nat → (Nat → Int) → Nat → (Nat → Int) → Prop) (x0 : Nat) (x1 : Int) (x2 : Nat) (x3 : Nat) (x4 : Int) (x5 : Int) (x6 : Int) (x7 : Int) (x8 : Int) (x9 : Int) (x10 : Int) (x11 : Nat) (x12 : Nat → Int) (x13 : Nat) (x14 : Nat → Int) (x15 : Nat) (x16 : Nat → Int) : Prop :=
  br (ltI x10 x9) (gd (leI 0 x10 && ltI x10 ↑x2) (gd (leI 0 (yaj .i64 x5 x10) && ltI (yaj .i64 x5 x10) ↑x3) (gd (leI 0 (yaj .i64 x5 x10) && ltI (yaj .i64 x5 x10) ↑x3) (again x0 x1 x2 x3 x4 x5 x6 (yaP .u64 (yaj .u64 x7 (ybY .u64 x6 (cvI .u64 (x14 (Int.toNat x10))))) 32) (yaP .i64 (yaj .i64 x8 (yan .i64 (cvI .i64 (x16 (Int.toNat (yaj .i64 x5 x10)))) (cvI .i64 (cvI .u32 (yaj .u64 x7 (ybY .u64 x6 (cvI .u64 (x14 (Int.toNat x10))))))))) 32) x9 (yaj .i64 x10 1) x11 x12 x13 x14 x15 (upd x16 (Int.toNat (yaj .i64 x5 x10)) (cvI .u32 (yaj .i64 x8 (yan .i64 (cvI .i64 (x16 (Int.toNat (yaj .i64 x5 x10)))) (cvI .i64 (cvI .u32 (yaj .u64 x7 (ybY .u64 x6 (cvI .u64 (x14 (Int.toNat x10))))))))))))))) (k0 x0 x1 x2 x3 x4 x5 x6 x7 x8 x11 x12 x13 x14 x15 x16)
def zcb.l31 (k0 : Nat → Int → Nat → Nat → Int → Int → Int → Int → Int → Nat → (Nat → Int) → Nat → (Nat → Int) → Nat → (Nat → Int) → Prop) : Nat → Nat → Int → Nat → Nat → Int → Int → Int → Int → Int → Int → Int → Nat → (Nat → Int) → Nat → (Nat → Int) → Nat → (Nat → Int) → Prop
  | 0 => fun _ _ _ _ _ _ _ _ _ _ _ _ _ _ _ _ _ => False
  | n + 1 => zcb.l31.step (zcb.l31 k0 n) k0
def zcb.l31.entry : yao := ⟨LV.mk 220944 [(8, 220944), (5, 7952), (4, 1296)] 48 0 true, 0, 285, fun vs H K => match vs, H with
  | [EV.slice 0 0 x0 none 1, EV.int .i64 x1, EV.slice 1 0 x2 none 1, EV.slice 2 0 x3 none 1, EV.int .i64 x4, EV.int .i64 x5, EV.int .u64 x6, EV.int .u64 x7, EV.int .i64 x8, EV.int .i64 x9, EV.int .i64 x10], [some (EV.arr .u32 x11 x12), some (EV.arr .u32 x13 x14), some (EV.arr .u32 x15 x16)] => ∃ n, zcb.l31 (fun y0 y1 y2 y3 y4 y5 y6 y7 y8 y9 y10 y11 y12 y13 y14 => K (.exit 8) [EV.slice 0 0 y0 none 1, EV.int .i64 y1, EV.slice 1 0 y2 none 1, EV.slice 2 0 y3 none 1, EV.int .i64 y4, EV.int .i64 y5, EV.int .u64 y6, EV.int .u64 y7, EV.int .i64 y8] [some (EV.arr .u32 y9 y10), some (EV.arr .u32 y11 y12), some (EV.arr .u32 y13 y14)]) n x0 x1 x2 x3 x4 x5 x6 x7 x8 x9 x10 x11 x12 x13 x14 x15 x16
  | _, _ => False⟩
def zcb.l45.step (again : Nat → Int → Nat → Nat → Int → Int → Int → Int → Int → Int → Nat → (Nat → Int) → Nat → (Nat → Int) → Nat → (Nat → Int) → Prop) (k0 : Nat → Int → Nat → Nat → Int → Int → Int → Int → Nat → (Nat → Int) → Nat → (Nat → Int) → Nat → (Nat → Int) → Prop) (x0 : Nat) (x1 : Int) (x2 : Nat) (x3 : Nat) (x4 : Int) (x5 : Int) (x6 : Int) (x7 : Int) (x8 : Int) (x9 : Int) (x10 : Nat) (x11 : Nat → Int) (x12 : Nat) (x13 : Nat → Int) (x14 : Nat) (x15 : Nat → Int) : Prop :=
  br (ltI x9 x8) (gd (leI 0 (yaj .i64 x5 x9) && ltI (yaj .i64 x5 x9) ↑x3) (gd (leI 0 x9 && ltI x9 ↑x2) (gd (leI 0 (yaj .i64 x5 x9) && ltI (yaj .i64 x5 x9) ↑x3) (again x0 x1 x2 x3 x4 x5 x6 (yaP .u64 (yaj .u64 x7 (yaj .u64 (cvI .u64 (x15 (Int.toNat (yaj .i64 x5 x9)))) (cvI .u64 (x13 (Int.toNat x9))))) 32) x8 (yaj .i64 x9 1) x10 x11 x12 x13 x14 (upd x15 (Int.toNat (yaj .i64 x5 x9)) (cvI .u32 (yaj .u64 x7 (yaj .u64 (cvI .u64 (x15 (Int.toNat (yaj .i64 x5 x9)))) (cvI .u64 (x13 (Int.toNat x9))))))))))) (k0 x0 x1 x2 x3 x4 x5 x6 x7 x10 x11 x12 x13 x14 x15)
def zcb.l45 (k0 : Nat → Int → Nat → Nat → Int → Int → Int → Int → Nat → (Nat → Int) → Nat → (Nat → Int) → Nat → (Nat → Int) → Prop) : Nat → Nat → Int → Nat → Nat → Int → Int → Int → Int → Int → Int → Nat → (Nat → Int) → Nat → (Nat → Int) → Nat → (Nat → Int) → Prop
  | 0 => fun _ _ _ _ _ _ _ _ _ _ _ _ _ _ _ _ => False
  | n + 1 => zcb.l45.step (zcb.l45 k0 n) k0
def zcb.l45.entry : yao := ⟨LV.mk 89872 [(10, 89872), (5, 7952), (4, 1296)] 48 0 true, 0, 285, fun vs H K => match vs, H with
  | [EV.slice 0 0 x0 none 1, EV.int .i64 x1, EV.slice 1 0 x2 none 1, EV.slice 2 0 x3 none 1, EV.int .i64 x4, EV.int .i64 x5, EV.int .u64 x6, EV.int .u64 x7, EV.int .i64 x8, EV.int .i64 x9], [some (EV.arr .u32 x10 x11), some (EV.arr .u32 x12 x13), some (EV.arr .u32 x14 x15)] => ∃ n, zcb.l45 (fun y0 y1 y2 y3 y4 y5 y6 y7 y8 y9 y10 y11 y12 y13 => K (.exit 10) [EV.slice 0 0 y0 none 1, EV.int .i64 y1, EV.slice 1 0 y2 none 1, EV.slice 2 0 y3 none 1, EV.int .i64 y4, EV.int .i64 y5, EV.int .u64 y6, EV.int .u64 y7] [some (EV.arr .u32 y8 y9), some (EV.arr .u32 y10 y11), some (EV.arr .u32 y12 y13)]) n x0 x1 x2 x3 x4 x5 x6 x7 x8 x9 x10 x11 x12 x13 x14 x15
  | _, _ => False⟩
def zcb.l20.step (again : Nat → Int → Nat → Nat → Int → Int → Nat → (Nat → Int) → Nat → (Nat → Int) → Nat → (Nat → Int) → Prop) (k0 : Nat → Int → Nat → Nat → (Nat → Int) → Nat → (Nat → Int) → Prop) (x0 : Nat) (x1 : Int) (x2 : Nat) (x3 : Nat) (x4 : Int) (x5 : Int) (x6 : Nat) (x7 : Nat → Int) (x8 : Nat) (x9 : Nat → Int) (x10 : Nat) (x11 : Nat → Int) : Prop :=
  br (leI 0 x5) (gd (leI 0 (yaj .i64 x5 x4) && ltI (yaj .i64 x5 x4) ↑x3) (gd (leI 0 (yan .i64 (yaj .i64 x5 x4) 1) && ltI (yan .i64 (yaj .i64 x5 x4) 1) ↑x3) (gd (leI 0 (yan .i64 x4 1) && ltI (yan .i64 x4 1) ↑x2) (gd (!eqI (cvI .u64 (x9 (Int.toNat (yan .i64 x4 1)))) 0) (gd (leI 0 (yan .i64 x4 1) && ltI (yan .i64 x4 1) ↑x2) (gd (!eqI (cvI .u64 (x9 (Int.toNat (yan .i64 x4 1)))) 0) (∃ n, zcb.l24 (fun y0 y1 y2 y3 y4 y5 y6 y7 y8 y9 y10 y11 y12 => ∃ n, zcb.l31 (fun y0 y1 y2 y3 y4 y5 y6 y7 y8 y9 y10 y11 y12 y13 y14 => gd (leI 0 (yaj .i64 y5 y4) && ltI (yaj .i64 y5 y4) ↑y3) (gd (leI 0 (yaj .i64 y5 y4) && ltI (yaj .i64 y5 y4) ↑y3) (br (ltI (yaj .i64 y8 (yan .i64 (cvI .i64 (y14 (Int.toNat (yaj .i64 y5 y4)))) (cvI .i64 y7))) 0) (∃ n, zcb.l45 (fun y0 y1 y2 y3 y4 y5 y6 y7 y8 y9 y10 y11 y12 y13 => gd (leI 0 (yaj .i64 y5 y4) && ltI (yaj .i64 y5 y4) ↑y3) (gd (leI 0 (yaj .i64 y5 y4) && ltI (yaj .i64 y5 y4) ↑y3) (gd (leI 0 y5 && ltI y5 ↑y0) (again y0 y1 y2 y3 y4 (yan .i64 y5 1) y8 (upd y9 (Int.toNat y5) (cvI .u32 y6)) y10 y11 y12 (upd y13 (Int.toNat (yaj .i64 y5 y4)) (yaj .u32 (y13 (Int.toNat (yaj .i64 y5 y4))) (cvI .u32 y7))))))) n y0 y1 y2 y3 y4 y5 (yan .u64 y6 1) 0 y4 0 y9 y10 y11 y12 y13 (upd y14 (Int.toNat (yaj .i64 y5 y4)) (cvI .u32 (yaj .i64 y8 (yan .i64 (cvI .i64 (y14 (Int.toNat (yaj .i64 y5 y4)))) (cvI .i64 y7)))))) (gd (leI 0 y5 && ltI y5 ↑y0) (again y0 y1 y2 y3 y4 (yan .i64 y5 1) y9 (upd y10 (Int.toNat y5) (cvI .u32 y6)) y11 y12 y13 (upd y14 (Int.toNat (yaj .i64 y5 y4)) (cvI .u32 (yaj .i64 y8 (yan .i64 (cvI .i64 (y14 (Int.toNat (yaj .i64 y5 y4)))) (cvI .i64 y7)))))))))) n y0 y1 y2 y3 y4 y5 y6 0 0 y4 0 y7 y8 y9 y10 y11 y12) n x0 x1 x2 x3 x4 x5 (yaG .u64 (orI .u64 (ybD .u64 (cvI .u64 (x11 (Int.toNat (yaj .i64 x5 x4)))) 32) (cvI .u64 (x11 (Int.toNat (yan .i64 (yaj .i64 x5 x4) 1))))) (cvI .u64 (x9 (Int.toNat (yan .i64 x4 1))))) (ycg .u64 (orI .u64 (ybD .u64 (cvI .u64 (x11 (Int.toNat (yaj .i64 x5 x4)))) 32) (cvI .u64 (x11 (Int.toNat (yan .i64 (yaj .i64 x5 x4) 1))))) (cvI .u64 (x9 (Int.toNat (yan .i64 x4 1))))) x6 x7 x8 x9 x10 x11))))))) (k0 x0 x1 x3 x6 x7 x10 x11)
def zcb.l20 (k0 : Nat → Int → Nat → Nat → (Nat → Int) → Nat → (Nat → Int) → Prop) : Nat → Nat → Int → Nat → Nat → Int → Int → Nat → (Nat → Int) → Nat → (Nat → Int) → Nat → (Nat → Int) → Prop
  | 0 => fun _ _ _ _ _ _ _ _ _ _ _ _ => False
  | n + 1 => zcb.l20.step (zcb.l20 k0 n) k0
def zcb.l20.entry : yao := ⟨LV.mk 1296 [(4, 1296)] 48 0 true, 0, 285, fun vs H K => match vs, H with
  | [EV.slice 0 0 x0 none 1, EV.int .i64 x1, EV.slice 1 0 x2 none 1, EV.slice 2 0 x3 none 1, EV.int .i64 x4, EV.int .i64 x5], [some (EV.arr .u32 x6 x7), some (EV.arr .u32 x8 x9), some (EV.arr .u32 x10 x11)] => ∃ n, zcb.l20 (fun y0 y1 y2 y3 y4 y5 y6 => K (.exit 4) [EV.slice 0 0 y0 none 1, EV.int .i64 y1, EV.slice 1 0 y2 none 1] [some (EV.arr .u32 y3 y4), some (EV.arr .u32 y5 y6)]) n x0 x1 x2 x3 x4 x5 x6 x7 x8 x9 x10 x11
  | _, _ => False⟩
def zcb.d (a0n : Nat) (a0 : Nat → Int) (a1n : Nat) (a1 : Nat → Int) (K : Nat → (Nat → Int) → Nat → (Nat → Int) → Prop) : Prop :=
  zbt a0n a0 a1n a1 fun y0 => br (ltI y0 0) (K 0 (fun x => 0) a0n a0) (gd (leI 0 ↑a0n && (leI ↑a0n ↑a0n && leI (↑a0n) 1099511627776)) (br (eqI (↑a1n) 1) (∃ n, zcb.l7 (fun y0 y1 y2 y3 => zbu y0 y2 y3 fun y0 y1_1 y2 => zbv 1 1 1 (upd (fun x => 0) 0 (cvI .u32 y1)) fun y0_1 y1 y2_1 y3 => K y0 y2 y0_1 y3) n a0n a0 a1n a1 (Int.toNat ↑a0n) 0 (yan .i64 (↑a0n) 1) (Int.toNat ↑a0n) fun x => 0) (gd (leI 0 (yan .i64 (↑a1n) 1) && ltI (yan .i64 (↑a1n) 1) ↑a1n) (zen (cvI .u64 (a1 (Int.toNat (yan .i64 (↑a1n) 1)))) fun y0 => zcg a1n a1 (yan .i64 32 y0) False fun y0_1 y1 y2 y3 => zcg a0n a0 (yan .i64 32 y0) False fun y0_2 y1 y2_1 y3_1 => gd (leN (y0_2 + 1) 1099511627776) (∃ n, zcb.l16 (fun y0 y1 y2 y3 y4 y5 y6 y7 y8 y9 => ∃ n, zcb.l20 (fun y0 y1 y2 y3 y4 y5 y6 => zbu y0 y3 y4 fun y0 y1_1 y2_2 => zbu y2 y5 y6 fun y0_3 y1_2 y2 => zbx y0_3 y2 y1 fun y0_4 y1 => K y0 y2_2 y0_4 y1) n y0 y1 y2 y3 (↑y2) (yan .i64 (yan .i64 ↑y3 ↑y2) 1) y4 y5 y6 y7 y8 y9) n a0n a0 (Int.toNat ↑a0n) (yan .i64 32 y0) y0_1 (y0_2 + 1) (Int.toNat ↑a0n) (fun x => 0) y2 y3 (y0_2 + 1) (app y0_2 y3_1 (upd (fun x => 0) 0 0)))))))
noncomputable def zcb := shut zcb.d
theorem zcb.is : zcb = zcb.d := shut_is _
def zbi.d (a0 : List UInt8) (a1 : List UInt8) (K : List UInt8 → List UInt8 → Int → Prop) : Prop :=
  zcc a0 a1 fun y0 => br (!y0) (K [] [] 2) (br (eqS a1 []) (K [] [] 2) (zci a0 fun y0 y1 => zci a1 fun y0_1 y1_1 => zcb y0 y1 y0_1 y1_1 fun y0 y1 y2 y3 => zca y0 y1 fun y0 => zca y2 y3 fun y0_2 => K y0 y0_2 0))
noncomputable def zbi := shut zbi.d
theorem zbi.is : zbi = zbi.d := shut_is _
def zbj.l4.step (again : Nat → (Nat → Int) → Nat → (Nat → Int) → Prop) (k0 : Nat → (Nat → Int) → Prop) (x0 : Nat) (x1 : Nat → Int) (x2 : Nat) (x3 : Nat → Int) : Prop :=
  br (ltI 0 ↑x2) (zcb x0 x1 x2 x3 fun y0 y1 y2 y3 => again x2 x3 y2 y3) (k0 x0 x1)
def zbj.l4 (k0 : Nat → (Nat → Int) → Prop) : Nat → Nat → (Nat → Int) → Nat → (Nat → Int) → Prop
  | 0 => fun _ _ _ _ => False
  | n + 1 => zbj.l4.step (zbj.l4 k0 n) k0
def zbj.l4.entry : yao := ⟨LV.mk 64 [(0, 64)] 48 0 false, 0, 31, fun vs H K => match vs, H with
  | [EV.rsI .u32 x0 x1, EV.rsI .u32 x2 x3], [] => ∃ n, zbj.l4 (fun y0 y1 => K (.exit 0) [EV.rsI .u32 y0 y1] []) n x0 x1 x2 x3
  | _, _ => False⟩
def zbj.d (a0 : List UInt8) (a1 : List UInt8) (K : List UInt8 → Int → Prop) : Prop :=
  zcc a0 a1 fun y0 => br (!y0) (K [] 2) (zci a0 fun y0 y1 => zci a1 fun y0_1 y1_1 => ∃ n, zbj.l4 (fun y0 y1 => zca y0 y1 fun y0 => K y0 0) n y0 y1 y0_1 y1_1)
noncomputable def zbj := shut zbj.d
theorem zbj.is : zbj = zbj.d := shut_is _
def zbl.d (a0 : List UInt8) (K : Int → Prop) : Prop :=
  zbg a0 fun y0 => br (!eqI y0 0) (K 0) (br (eqS a0 []) (K 0) (gd (ltI 0 ↑(List.length a0)) (zen (cvI .u64 (ybj a0 0)) fun y0 => K (yaj .i64 (ybY .i64 8 (yan .i64 (↑(List.length a0)) 1)) y0))))
noncomputable def zbl := shut zbl.d
theorem zbl.is : zbl = zbl.d := shut_is _
def zbk.d (a0 : List UInt8) (a1 : Int) (K : List UInt8 → Int → Prop) : Prop :=
  zbg a0 fun y0 => br (!eqI y0 0) (K [] 2) (br (ltI a1 0) (K [] 2) (br (eqS a0 []) (K [] 0) (zbl a0 fun y0 => br (ltI (yan .i64 131072 y0) a1) (K [] 4) (zci a0 fun y0 y1 => zcg y0 y1 a1 (zcf 0 (fun x => 0) fun y0 y1 => K y0 y1) fun y0 y1 y2 y3 => zcf y0 y3 fun y0 y1 => K y0 y1))))
noncomputable def zbk := shut zbk.d
theorem zbk.is : zbk = zbk.d := shut_is _
def zbm.l4.step (again : List UInt8 → Int → Prop) (k0 : Int → Prop) (k1 : Prop) (x0 : List UInt8) (x1 : Int) : Prop :=
  br (leI 0 x1) (gd (leI 0 x1 && ltI x1 ↑(List.length x0)) (br (!eqI (ybj x0 (Int.toNat x1)) 0) (gd (leI 0 x1 && ltI x1 ↑(List.length x0)) (zeo (cvI .u64 (ybj x0 (Int.toNat x1))) fun y0 => k0 (yaj .i64 (ybY .i64 8 (yan .i64 (yan .i64 (↑(List.length x0)) 1) x1)) y0))) (again x0 (yan .i64 x1 1)))) k1
def zbm.l4 (k0 : Int → Prop) (k1 : Prop) : Nat → List UInt8 → Int → Prop
  | 0 => fun _ _ => False
  | n + 1 => zbm.l4.step (zbm.l4 k0 k1 n) k0 k1
def zbm.l4.entry : yao := ⟨LV.mk 0 [(0, 0)] 4 0 false, 0, 30, fun vs H K => match vs, H with
  | [EV.str x0, EV.int .i64 x1], [] => ∃ n, zbm.l4 (fun y0 => K .ret [EV.int .i64 y0] []) (K (.exit 0) [] []) n x0 x1
  | _, _ => False⟩
def zbm.d (a0 : List UInt8) (K : Int → Prop) : Prop :=
  zbg a0 fun y0 => br (!eqI y0 0) (K 0) (∃ n, zbm.l4 (fun y0 => K y0) (K 0) n a0 (yan .i64 (↑(List.length a0)) 1))
noncomputable def zbm := shut zbm.d
theorem zbm.is : zbm = zbm.d := shut_is _
def zce.l7.step (again : Nat → (Nat → Int) → Nat → Nat → Int → Int → Int → Nat → (Nat → Int) → Int → Int → Nat → (Nat → Int) → Int → Int → Nat → (Nat → Int) → Prop) (k0 : Nat → (Nat → Int) → Nat → Nat → Int → Int → Nat → (Nat → Int) → Int → Int → Nat → (Nat → Int) → Prop) (x0 : Nat) (x1 : Nat → Int) (x2 : Nat) (x3 : Nat) (x4 : Int) (x5 : Int) (x6 : Int) (x7 : Nat) (x8 : Nat → Int) (x9 : Int) (x10 : Int) (x11 : Nat) (x12 : Nat → Int) (x13 : Int) (x14 : Int) (x15 : Nat) (x16 : Nat → Int) : Prop :=
  br (ltI x14 x13) (gd (leI 0 x14 && ltI x14 ↑x11) (gd (leI 0 (yaj .i64 x4 x14) && ltI (yaj .i64 x4 x14) ↑x2) (gd (leI 0 (yaj .i64 x4 x14) && ltI (yaj .i64 x4 x14) ↑x2) (again x0 x1 x2 x3 x4 x5 (yaP .u64 (yaj .u64 x6 (yaj .u64 (ybY .u64 (cvI .u64 x5) (cvI .u64 (x12 (Int.toNat x14)))) (cvI .u64 (x16 (Int.toNat (yaj .i64 x4 x14)))))) 32) x7 x8 x9 x10 x11 x12 x13 (yaj .i64 x14 1) x15 (upd x16 (Int.toNat (yaj .i64 x4 x14)) (cvI .u32 (yaj .u64 x6 (yaj .u64 (ybY .u64 (cvI .u64 x5) (cvI .u64 (x12 (Int.toNat x14)))) (cvI .u64 (x16 (Int.toNat (yaj .i64 x4 x14)))))))))))) (k0 x0 x1 x2 x3 x4 x6 x7 x8 x9 x10 x15 x16)
def zce.l7 (k0 : Nat → (Nat → Int) → Nat → Nat → Int → Int → Nat → (Nat → Int) → Int → Int → Nat → (Nat → Int) → Prop) : Nat → Nat → (Nat → Int) → Nat → Nat → Int → Int → Int → Nat → (Nat → Int) → Int → Int → Nat → (Nat → Int) → Int → Int → Nat → (Nat → Int) → Prop
  | 0 => fun _ _ _ _ _ _ _ _ _ _ _ _ _ _ _ _ _ => False
  | n + 1 => zce.l7.step (zce.l7 k0 n) k0
def zce.l7.entry : yao := ⟨LV.mk 917858 [(2, 917858), (1, 917538), (0, 32)] 16 0 false, 0, 67, fun vs H K => match vs, H with
  | [EV.rsI .u32 x0 x1, EV.slice 0 0 x2 (some x3) 1, EV.int .i64 x4, EV.int .u32 x5, EV.int .u64 x6, EV.rsI .u32 x7 x8, EV.int .i64 x9, EV.int .i64 x10, EV.rsI .u32 x11 x12, EV.int .i64 x13, EV.int .i64 x14], [some (EV.arr .u32 x15 x16)] => ∃ n, zce.l7 (fun y0 y1 y2 y3 y4 y5 y6 y7 y8 y9 y10 y11 => K (.exit 2) [EV.rsI .u32 y0 y1, EV.slice 0 0 y2 (some y3) 1, EV.int .i64 y4, EV.int .u64 y5, EV.rsI .u32 y6 y7, EV.int .i64 y8, EV.int .i64 y9] [some (EV.arr .u32 y10 y11)]) n x0 x1 x2 x3 x4 x5 x6 x7 x8 x9 x10 x11 x12 x13 x14 x15 x16
  | _, _ => False⟩
def zce.l3.step (again : Nat → (Nat → Int) → Nat → Nat → Nat → (Nat → Int) → Int → Int → Nat → (Nat → Int) → Prop) (k0 : Nat → Nat → Nat → (Nat → Int) → Prop) (x0 : Nat) (x1 : Nat → Int) (x2 : Nat) (x3 : Nat) (x4 : Nat) (x5 : Nat → Int) (x6 : Int) (x7 : Int) (x8 : Nat) (x9 : Nat → Int) : Prop :=
  br (ltI x7 x6) (gd (leI 0 x7 && ltI x7 ↑x4) (∃ n, zce.l7 (fun y0 y1 y2 y3 y4 y5 y6 y7 y8 y9 y10 y11 => gd (leI 0 (yaj .i64 y4 ↑y0) && ltI (yaj .i64 y4 ↑y0) ↑y2) (again y0 y1 y2 y3 y6 y7 y8 (yaj .i64 y9 1) y10 (upd y11 (Int.toNat (yaj .i64 y4 ↑y0)) (cvI .u32 y5)))) n x0 x1 x2 x3 x7 (x5 (Int.toNat x7)) 0 x4 x5 x6 x7 x0 x1 (↑x0) 0 x8 x9)) (k0 x2 x3 x8 x9)
def zce.l3 (k0 : Nat → Nat → Nat → (Nat → Int) → Prop) : Nat → Nat → (Nat → Int) → Nat → Nat → Nat → (Nat → Int) → Int → Int → Nat → (Nat → Int) → Prop
  | 0 => fun _ _ _ _ _ _ _ _ _ _ => False
  | n + 1 => zce.l3.step (zce.l3 k0 n) k0
def zce.l3.entry : yao := ⟨LV.mk 32 [(0, 32)] 16 0 false, 0, 67, fun vs H K => match vs, H with
  | [EV.rsI .u32 x0 x1, EV.slice 0 0 x2 (some x3) 1, EV.rsI .u32 x4 x5, EV.int .i64 x6, EV.int .i64 x7], [some (EV.arr .u32 x8 x9)] => ∃ n, zce.l3 (fun y0 y1 y2 y3 => K (.exit 0) [EV.slice 0 0 y0 (some y1) 1] [some (EV.arr .u32 y2 y3)]) n x0 x1 x2 x3 x4 x5 x6 x7 x8 x9
  | _, _ => False⟩
def zce.d (a0n : Nat) (a0 : Nat → Int) (a1n : Nat) (a1 : Nat → Int) (K : Nat → (Nat → Int) → Prop) : Prop :=
  gd (leI 0 (yaj .i64 ↑a0n ↑a1n) && (leI (yaj .i64 ↑a0n ↑a1n) (yaj .i64 ↑a0n ↑a1n) && leI (yaj .i64 ↑a0n ↑a1n) 1099511627776)) (∃ n, zce.l3 (fun y0 y1 y2 y3 => zbv y0 y1 y2 y3 fun y0 y1 y2 y3 => K y0 y3) n a1n a1 (Int.toNat (yaj .i64 ↑a0n ↑a1n)) (Int.toNat (yaj .i64 ↑a0n ↑a1n)) a0n a0 (↑a0n) 0 (Int.toNat (yaj .i64 ↑a0n ↑a1n)) fun x => 0)
noncomputable def zce := shut zce.d
theorem zce.is : zce = zce.d := shut_is _
def zbn.d (a0 : List UInt8) (a1 : List UInt8) (K : List UInt8 → Int → Prop) : Prop :=
  zcc a0 a1 fun y0 => br (!y0) (K [] 2) (br (eqS a0 []) (K [] 0) (br (eqS a1 []) (K [] 0) (br (ltI 16385 (yaj .i64 ↑(List.length a0) ↑(List.length a1))) (K [] 4) (zci a0 fun y0 y1 => zci a1 fun y0_1 y1_1 => zce y0 y1 y0_1 y1_1 fun y0 y1 => zcf y0 y1 fun y0 y1 => K y0 y1))))
noncomputable def zbn := shut zbn.d
theorem zbn.is : zbn = zbn.d := shut_is _
def zbo.d (a0 : Nat → Int) (K : List UInt8 → Prop) : Prop :=
  zca 12 (app 10 (app 8 (app 6 (app 4 (app 2 (upd (upd (fun x => 0) 0 (cvI .u32 (a0 0))) 1 (cvI .u32 (yaP .u64 (a0 0) 32))) (upd (upd (fun x => 0) 0 (cvI .u32 (a0 1))) 1 (cvI .u32 (yaP .u64 (a0 1) 32)))) (upd (upd (fun x => 0) 0 (cvI .u32 (a0 2))) 1 (cvI .u32 (yaP .u64 (a0 2) 32)))) (upd (upd (fun x => 0) 0 (cvI .u32 (a0 3))) 1 (cvI .u32 (yaP .u64 (a0 3) 32)))) (upd (upd (fun x => 0) 0 (cvI .u32 (a0 4))) 1 (cvI .u32 (yaP .u64 (a0 4) 32)))) (upd (upd (fun x => 0) 0 (cvI .u32 (a0 5))) 1 (cvI .u32 (yaP .u64 (a0 5) 32)))) fun y0 => K y0
noncomputable def zbo := shut zbo.d
theorem zbo.is : zbo = zbo.d := shut_is _
def zbp.d (a0 : List UInt8) (a1 : Int) (K : List UInt8 → Bool → Int → Prop) : Prop :=
  zbg a0 fun y0 => br (!eqI y0 0) (K [] false 2) (br (ltI a1 0) (K [] false 2) (br (eqS a0 []) (K [] false 0) (zci a0 fun y0 y1 => zbx y0 y1 a1 fun y0 y1 => zca y0 y1 fun y0 => zbm a0 fun y0_1 => K y0 (ltI y0_1 a1) 0)))
noncomputable def zbp := shut zbp.d
theorem zbp.is : zbp = zbp.d := shut_is _
def zby.d (a0n : Nat) (a0 : Nat → Int) (K : Int → Prop) : Prop :=
  br (eqI (↑a0n) 0) (K 0) (gd (leI 0 (yan .i64 (↑a0n) 1) && ltI (yan .i64 (↑a0n) 1) ↑a0n) (zen (cvI .u64 (a0 (Int.toNat (yan .i64 (↑a0n) 1)))) fun y0 => K (yaj .i64 (ybY .i64 32 (yan .i64 (↑a0n) 1)) y0)))
noncomputable def zby := shut zby.d
theorem zby.is : zby = zby.d := shut_is _
def zbz.l4.step (again : Nat → (Nat → Int) → Nat → (Nat → Int) → Nat → Nat → Int → Int → Int → Nat → (Nat → Int) → Prop) (k0 : Nat → Nat → Nat → (Nat → Int) → Prop) (x0 : Nat) (x1 : Nat → Int) (x2 : Nat) (x3 : Nat → Int) (x4 : Nat) (x5 : Nat) (x6 : Int) (x7 : Int) (x8 : Int) (x9 : Nat) (x10 : Nat → Int) : Prop :=
  br (ltI x8 x7) (gd (leI 0 x8 && ltI x8 ↑x0) (br (ltI x8 ↑x2) (gd (leI 0 x8 && ltI x8 ↑x2) (gd (leI 0 x8 && ltI x8 ↑x4) (again x0 x1 x2 x3 x4 x5 (yaP .i64 (yan .i64 (yaj .i64 x6 (cvI .i64 (x1 (Int.toNat x8)))) (cvI .i64 (x3 (Int.toNat x8)))) 32) x7 (yaj .i64 x8 1) x9 (upd x10 (Int.toNat x8) (cvI .u32 (yan .i64 (yaj .i64 x6 (cvI .i64 (x1 (Int.toNat x8)))) (cvI .i64 (x3 (Int.toNat x8))))))))) (gd (leI 0 x8 && ltI x8 ↑x4) (again x0 x1 x2 x3 x4 x5 (yaP .i64 (yaj .i64 x6 (cvI .i64 (x1 (Int.toNat x8)))) 32) x7 (yaj .i64 x8 1) x9 (upd x10 (Int.toNat x8) (cvI .u32 (yaj .i64 x6 (cvI .i64 (x1 (Int.toNat x8)))))))))) (k0 x4 x5 x9 x10)
def zbz.l4 (k0 : Nat → Nat → Nat → (Nat → Int) → Prop) : Nat → Nat → (Nat → Int) → Nat → (Nat → Int) → Nat → Nat → Int → Int → Int → Nat → (Nat → Int) → Prop
  | 0 => fun _ _ _ _ _ _ _ _ _ _ _ => False
  | n + 1 => zbz.l4.step (zbz.l4 k0 n) k0
def zbz.l4.entry : yao := ⟨LV.mk 32 [(0, 32)] 16 0 false, 0, 44, fun vs H K => match vs, H with
  | [EV.rsI .u32 x0 x1, EV.rsI .u32 x2 x3, EV.slice 0 0 x4 (some x5) 1, EV.int .i64 x6, EV.int .i64 x7, EV.int .i64 x8], [some (EV.arr .u32 x9 x10)] => ∃ n, zbz.l4 (fun y0 y1 y2 y3 => K (.exit 0) [EV.slice 0 0 y0 (some y1) 1] [some (EV.arr .u32 y2 y3)]) n x0 x1 x2 x3 x4 x5 x6 x7 x8 x9 x10
  | _, _ => False⟩
def zbz.d (a0n : Nat) (a0 : Nat → Int) (a1n : Nat) (a1 : Nat → Int) (K : Nat → (Nat → Int) → Prop) : Prop :=
  gd (leI 0 ↑a0n && (leI ↑a0n ↑a0n && leI (↑a0n) 1099511627776)) (∃ n, zbz.l4 (fun y0 y1 y2 y3 => zbv y0 y1 y2 y3 fun y0 y1 y2 y3 => K y0 y3) n a0n a0 a1n a1 (Int.toNat ↑a0n) (Int.toNat ↑a0n) 0 (↑a0n) 0 (Int.toNat ↑a0n) fun x => 0)
noncomputable def zbz := shut zbz.d
theorem zbz.is : zbz = zbz.d := shut_is _
def zch.l5.step (again : Int → Nat → Nat → Nat → (Nat → Int) → Int → Int → Nat → (Nat → Int) → Prop) (k0 : Nat → Nat → Nat → (Nat → Int) → Prop) (x0 : Int) (x1 : Nat) (x2 : Nat) (x3 : Nat) (x4 : Nat → Int) (x5 : Int) (x6 : Int) (x7 : Nat) (x8 : Nat → Int) : Prop :=
  br (ltI x6 x5) (gd (leI 0 x6 && ltI x6 ↑x3) (gd (!ltI (cvI .u64 (ycg .i64 x0 32)) 0) (gd (leI 0 (yaj .i64 x6 (yaG .i64 x0 32)) && ltI (yaj .i64 x6 (yaG .i64 x0 32)) ↑x1) (gd (leI 0 (yaj .i64 x6 (yaG .i64 x0 32)) && ltI (yaj .i64 x6 (yaG .i64 x0 32)) ↑x1) (gd (leI 0 (yaj .i64 (yaj .i64 x6 (yaG .i64 x0 32)) 1) && ltI (yaj .i64 (yaj .i64 x6 (yaG .i64 x0 32)) 1) ↑x1) (gd (leI 0 (yaj .i64 (yaj .i64 x6 (yaG .i64 x0 32)) 1) && ltI (yaj .i64 (yaj .i64 x6 (yaG .i64 x0 32)) 1) ↑x1) (again x0 x1 x2 x3 x4 x5 (yaj .i64 x6 1) x7 (upd (upd x8 (Int.toNat (yaj .i64 x6 (yaG .i64 x0 32))) (orI .u32 (x8 (Int.toNat (yaj .i64 x6 (yaG .i64 x0 32)))) (cvI .u32 (ybD .u64 (cvI .u64 (x4 (Int.toNat x6))) (cvI .u64 (ycg .i64 x0 32)))))) (Int.toNat (yaj .i64 (yaj .i64 x6 (yaG .i64 x0 32)) 1)) (orI .u32 (upd x8 (Int.toNat (yaj .i64 x6 (yaG .i64 x0 32))) (orI .u32 (x8 (Int.toNat (yaj .i64 x6 (yaG .i64 x0 32)))) (cvI .u32 (ybD .u64 (cvI .u64 (x4 (Int.toNat x6))) (cvI .u64 (ycg .i64 x0 32))))) (Int.toNat (yaj .i64 (yaj .i64 x6 (yaG .i64 x0 32)) 1))) (cvI .u32 (yaP .u64 (ybD .u64 (cvI .u64 (x4 (Int.toNat x6))) (cvI .u64 (ycg .i64 x0 32))) 32))))))))))) (k0 x1 x2 x7 x8)
def zch.l5 (k0 : Nat → Nat → Nat → (Nat → Int) → Prop) : Nat → Int → Nat → Nat → Nat → (Nat → Int) → Int → Int → Nat → (Nat → Int) → Prop
  | 0 => fun _ _ _ _ _ _ _ _ _ => False
  | n + 1 => zch.l5.step (zch.l5 k0 n) k0
def zch.l5.entry : yao := ⟨LV.mk 32 [(0, 32)] 16 0 false, 0, 59, fun vs H K => match vs, H with
  | [EV.int .i64 x0, EV.slice 0 0 x1 (some x2) 1, EV.rsI .u32 x3 x4, EV.int .i64 x5, EV.int .i64 x6], [some (EV.arr .u32 x7 x8)] => ∃ n, zch.l5 (fun y0 y1 y2 y3 => K (.exit 0) [EV.slice 0 0 y0 (some y1) 1] [some (EV.arr .u32 y2 y3)]) n x0 x1 x2 x3 x4 x5 x6 x7 x8
  | _, _ => False⟩
def zch.d (a0n : Nat) (a0 : Nat → Int) (a1 : Int) (K : Nat → (Nat → Int) → Prop) : Prop :=
  br (eqI (↑a0n) 0) (K 0 fun x => 0) (gd (leI 0 (yaj .i64 (yaj .i64 (↑a0n) (yaG .i64 a1 32)) 1) && (leI (yaj .i64 (yaj .i64 (↑a0n) (yaG .i64 a1 32)) 1) (yaj .i64 (yaj .i64 (↑a0n) (yaG .i64 a1 32)) 1) && leI (yaj .i64 (yaj .i64 (↑a0n) (yaG .i64 a1 32)) 1) 1099511627776)) (∃ n, zch.l5 (fun y0 y1 y2 y3 => zbv y0 y1 y2 y3 fun y0 y1 y2 y3 => K y0 y3) n a1 (Int.toNat (yaj .i64 (yaj .i64 (↑a0n) (yaG .i64 a1 32)) 1)) (Int.toNat (yaj .i64 (yaj .i64 (↑a0n) (yaG .i64 a1 32)) 1)) a0n a0 (↑a0n) 0 (Int.toNat (yaj .i64 (yaj .i64 (↑a0n) (yaG .i64 a1 32)) 1)) fun x => 0))
noncomputable def zch := shut zch.d
theorem zch.is : zch = zch.d := shut_is _
def zbq.l7.step (again : Nat → (Nat → Int) → Nat → (Nat → Int) → Prop) (k0 : Nat → (Nat → Int) → Nat → (Nat → Int) → Prop) (x0 : Nat) (x1 : Nat → Int) (x2 : Nat) (x3 : Nat → Int) : Prop :=
  zcb x0 x1 x2 x3 fun y0 y1 y2 y3 => zcd x2 x3 y0 y1 fun y0 y1 => zbx y0 y1 1 fun y0 y1 => zbt y0 y1 x2 x3 fun y0_1 => br (leI 0 y0_1) (k0 x0 x1 x2 x3) (again x0 x1 y0 y1)
def zbq.l7 (k0 : Nat → (Nat → Int) → Nat → (Nat → Int) → Prop) : Nat → Nat → (Nat → Int) → Nat → (Nat → Int) → Prop
  | 0 => fun _ _ _ _ => False
  | n + 1 => zbq.l7.step (zbq.l7 k0 n) k0
def zbq.l7.entry : yao := ⟨LV.mk 96 [(0, 96)] 28 0 false, 0, 46, fun vs H K => match vs, H with
  | [EV.rsI .u32 x0 x1, EV.rsI .u32 x2 x3], [] => ∃ n, zbq.l7 (fun y0 y1 y2 y3 => K (.exit 0) [EV.rsI .u32 y0 y1, EV.rsI .u32 y2 y3] []) n x0 x1 x2 x3
  | _, _ => False⟩
def zbq.d (a0 : List UInt8) (K : List UInt8 → List UInt8 → Int → Prop) : Prop :=
  zbg a0 fun y0 => br (!eqI y0 0) (K [] [] 2) (br (eqS a0 []) (K [] [] 0) (zci a0 fun y0 y1 => zby y0 y1 fun y0_1 => zch 1 (upd (fun x => 0) 0 1) (yaG .i64 (yaj .i64 y0_1 1) 2) fun y0_2 y1_1 => ∃ n, zbq.l7 (fun y0 y1 y2 y3 => zca y2 y3 fun y0_3 => zce y2 y3 y2 y3 fun y0_4 y1_2 => zbz y0 y1 y0_4 y1_2 fun y0 y1 => zca y0 y1 fun y0 => K y0_3 y0 0) n y0 y1 y0_2 y1_1))
noncomputable def zbq := shut zbq.d
theorem zbq.is : zbq = zbq.d := shut_is _
def zbr.d (a0 : List UInt8) (a1 : List UInt8) (K : List UInt8 → Int → Prop) : Prop :=
  zbh a0 a1 fun y0 y1 => br (!eqI y1 0) (K [] 2) (br (ltI y0 0) (K [] 2) (zci a0 fun y0 y1 => zci a1 fun y0_1 y1_1 => zbz y0 y1 y0_1 y1_1 fun y0 y1 => zcf y0 y1 fun y0 y1 => K y0 y1))
noncomputable def zbr := shut zbr.d
theorem zbr.is : zbr = zbr.d := shut_is _
def zbs.l4.step (again : List UInt8 → Nat → (Nat → Int) → Int → Int → (Nat → Int) → Prop) (k0 : List UInt8 → (Nat → Int) → Prop) (x0 : List UInt8) (x1 : Nat) (x2 : Nat → Int) (x3 : Int) (x4 : Int) (x5 : Nat → Int) : Prop :=
  br (ltI x4 x3) (gd (leI 0 x4 && ltI x4 ↑x1) (gd (leI 0 (yaG .i64 x4 2) && ltI (yaG .i64 x4 2) 6) (gd (!ltI (cvI .u64 (ybY .i64 32 (ycg .i64 x4 2))) 0) (gd (leI 0 (yaG .i64 x4 2) && ltI (yaG .i64 x4 2) 6) (again x0 x1 x2 x3 (yaj .i64 x4 1) (upd x5 (Int.toNat (yaG .i64 x4 2)) (orI .u64 (x5 (Int.toNat (yaG .i64 x4 2))) (ybD .u64 (cvI .u64 (x2 (Int.toNat x4))) (cvI .u64 (ybY .i64 32 (ycg .i64 x4 2))))))))))) (k0 x0 x5)
def zbs.l4 (k0 : List UInt8 → (Nat → Int) → Prop) : Nat → List UInt8 → Nat → (Nat → Int) → Int → Int → (Nat → Int) → Prop
  | 0 => fun _ _ _ _ _ _ => False
  | n + 1 => zbs.l4.step (zbs.l4 k0 n) k0
def zbs.l4.entry : yao := ⟨LV.mk 5 [(0, 5)] 12 0 false, 0, 43, fun vs H K => match vs, H with
  | [EV.str x0, EV.ptr 0 [], EV.rsI .u32 x1 x2, EV.int .i64 x3, EV.int .i64 x4], [some (EV.arr .u64 6 x5)] => ∃ n, zbs.l4 (fun y0 y1 => K (.exit 0) [EV.str y0, EV.ptr 0 []] [some (EV.arr .u64 6 y1)]) n x0 x1 x2 x3 x4 x5
  | _, _ => False⟩
def zbs.d (a0 : List UInt8) (K : (Nat → Int) → Bool → Prop) : Prop :=
  zbg a0 fun y0 => br (!eqI y0 0) (K (fun x => 0) false) (br (ltI 48 ↑(List.length a0)) (K (fun x => 0) false) (zci a0 fun y0 y1 => ∃ n, zbs.l4 (fun y0 y1 => zee y1 fun y0_1 => zbl y0 fun y0 => K y1 (eqI y0_1 y0)) n a0 y0 y1 (↑y0) 0 fun x => 0))
noncomputable def zbs := shut zbs.d
theorem zbs.is : zbs = zbs.d := shut_is _
end Go.Ev.S

/- Numbers in decimal digits: what the library's two functions come to. -/
set_option linter.unusedVariables false
set_option linter.unusedSimpArgs false
namespace Go.Ev.S
open Go Go.Ev
end Go.Ev.S

/- The functions as the evaluator has them: what each comes to. -/
set_option maxRecDepth 100000
set_option linter.unusedVariables false
set_option linter.unusedSimpArgs false
namespace Go.Ev.S
open Go Go.Ev
def zao.d (K : Bool → List UInt8 → List UInt8 → Int → Prop) : Prop :=
  K false [] [1] 0
noncomputable def zao := shut zao.d
theorem zao.is : zao = zao.d := shut_is _
def zap.d (a0 : List UInt8) (K : Bool → Prop) : Prop :=
  br (!eqS a0 []) (gd (leI 0 (yan .i64 (↑(List.length a0)) 1) && ltI (yan .i64 (↑(List.length a0)) 1) ↑(List.length a0)) (K (eqI (ycp .u8 (ybj a0 (Int.toNat (yan .i64 (↑(List.length a0)) 1))) 1) 1))) (K false)
noncomputable def zap := shut zap.d
theorem zap.is : zap = zap.d := shut_is _
def zas.d (a0 : Int) (K : Bool → Prop) : Prop :=
  br (leI (-1048576) a0) (K (leI a0 1048576)) (K false)
noncomputable def zas := shut zas.d
theorem zas.is : zas = zas.d := shut_is _
def zae.d (a0_0 : Bool) (a0_1 : List UInt8) (a0_2 : List UInt8) (a0_3 : Int) (K : Int → Prop) : Prop :=
  zbg a0_1 fun y0 => br (!eqI y0 0) (K 2) (zbg a0_2 fun y0 => br (!eqI y0 0) (K 2) (zap a0_2 fun y0 => br (!y0) (K 2) (zas a0_3 fun y0 => br (!y0) (K 2) (br (eqS a0_1 []) (zao fun y0 y1 y2 y3 => br (!(ybf a0_0 y0 && (eqS a0_1 y1 && (eqS a0_2 y2 && eqI a0_3 y3)))) (K 2) (K 0)) (zbj a0_1 a0_2 fun y0 y1 => zap a0_1 fun y0_1 => br (!y0_1) (K 2) (br (!eqS y0 [1]) (K 2) (K 0)))))))
noncomputable def zae := shut zae.d
theorem zae.is : zae = zae.d := shut_is _
def zac.d (a0_0 : Bool) (a0_1 : List UInt8) (a0_2 : List UInt8) (a0_3 : Int) (K : Bool → List UInt8 → List UInt8 → Int → Prop) : Prop :=
  zae a0_0 a0_1 a0_2 a0_3 fun y0 => br (!eqI y0 0) (K false [] [] 0) (K false a0_1 a0_2 a0_3)
noncomputable def zac := shut zac.d
theorem zac.is : zac = zac.d := shut_is _
def zah.d (a0 : Bool) (a1 : List UInt8) (a2 : List UInt8) (a3 : Int) (K : Bool → List UInt8 → List UInt8 → Int → Int → Prop) : Prop :=
  zbg a1 fun y0 => br (!eqI y0 0) (K false [] [] 0 2) (zbg a2 fun y0 => br (!eqI y0 0) (K false [] [] 0 2) (br (eqS a2 []) (K false [] [] 0 2) (zas a3 fun y0 => br (!y0) (K false [] [] 0 2) (br (eqS a1 []) (zao fun y0 y1 y2 y3 => K y0 y1 y2 y3 0) (zbm a1 fun y0 => zbm a2 fun y0_1 => zbp a1 y0 fun y0_2 y1 y2 => zbp a2 y0_1 fun y0_3 y1 y2 => zbj y0_2 y0_3 fun y0_4 y1 => br (!eqS y0_4 [1]) (zbi y0_2 y0_4 fun y0_5 y1 y2 => zbi y0_3 y0_4 fun y0_6 y1 y2 => zas (yaj .i64 a3 (yan .i64 y0 y0_1)) fun y0_7 => br (!y0_7) (K false [] [] 0 4) (K a0 y0_5 y0_6 (yaj .i64 a3 (yan .i64 y0 y0_1)) 0)) (zas (yaj .i64 a3 (yan .i64 y0 y0_1)) fun y0_5 => br (!y0_5) (K false [] [] 0 4) (K a0 y0_2 y0_3 (yaj .i64 a3 (yan .i64 y0 y0_1)) 0)))))))
noncomputable def zah := shut zah.d
theorem zah.is : zah = zah.d := shut_is _
def zam.d (a0_0 : Int) (a1 : List UInt8) (a2 : Int) (K : List UInt8 → Int → Prop) : Prop :=
  br (eqI a0_0 0) (K a1 a2) (K a1 a0_0)
noncomputable def zam := shut zam.d
theorem zam.is : zam = zam.d := shut_is _
def zan.d (a0_0 : Bool) (a0_1 : List UInt8) (a0_2 : List UInt8) (a0_3 : Int) (a1_0 : Bool) (a1_1 : List UInt8) (a1_2 : List UInt8) (a1_3 : Int) (K : List UInt8 → List UInt8 → Int → Int → Prop) : Prop :=
  zbn a0_1 a1_2 fun y0 y1 => zam 0 y0 y1 fun y0 y1 => zbn a1_1 a0_2 fun y0_1 y1_1 => zam y1 y0_1 y1_1 fun y0_2 y1 => zbk y0 (yan .i64 a0_3 (ylF a0_3 a1_3)) fun y0 y1_2 => zam y1 y0 y1_2 fun y0 y1 => zbk y0_2 (yan .i64 a1_3 (ylF a0_3 a1_3)) fun y0_3 y1_3 => zam y1 y0_3 y1_3 fun y0_4 y1 => K y0 y0_4 (ylF a0_3 a1_3) y1
noncomputable def zan := shut zan.d
theorem zan.is : zan = zan.d := shut_is _
def zaq.d (a0_0 : Bool) (a0_1 : List UInt8) (a0_2 : List UInt8) (a0_3 : Int) (a1_0 : Bool) (a1_1 : List UInt8) (a1_2 : List UInt8) (a1_3 : Int) (K : Bool → Prop) : Prop :=
  zae a0_0 a0_1 a0_2 a0_3 fun y0 => br (eqI y0 0) (zae a1_0 a1_1 a1_2 a1_3 fun y0 => K (eqI y0 0)) (K false)
noncomputable def zaq := shut zaq.d
theorem zaq.is : zaq = zaq.d := shut_is _
def zad.d (a0_0 : Bool) (a0_1 : List UInt8) (a0_2 : List UInt8) (a0_3 : Int) (a1_0 : Bool) (a1_1 : List UInt8) (a1_2 : List UInt8) (a1_3 : Int) (K : Bool → List UInt8 → List UInt8 → Int → Int → Prop) : Prop :=
  zaq a0_0 a0_1 a0_2 a0_3 a1_0 a1_1 a1_2 a1_3 fun y0 => br (!y0) (K false [] [] 0 2) (br (eqS a0_1 []) (K a1_0 a1_1 a1_2 a1_3 0) (br (eqS a1_1 []) (K a0_0 a0_1 a0_2 a0_3 0) (zan a0_0 a0_1 a0_2 a0_3 a1_0 a1_1 a1_2 a1_3 fun y0 y1 y2 y3 => br (!eqI y3 0) (K false [] [] 0 y3) (zbn a0_2 a1_2 fun y0_1 y1_1 => zam 0 y0_1 y1_1 fun y0_2 y1_2 => br (ybf a0_0 a1_0) (zbf y0 y1 fun y0 y1 => zam y1_2 y0 y1 fun y0 y1 => br (!eqI y1 0) (K false [] [] 0 y1) (zah a0_0 y0 y0_2 y2 fun y0 y1 y2 y3 y4 => K y0 y1 y2 y3 y4)) (zbh y0 y1 fun y0_3 y1_3 => br (leI 0 y0_3) (zbr y0 y1 fun y0 y1 => zam y1_2 y0 y1 fun y0 y1 => br (!eqI y1 0) (K false [] [] 0 y1) (zah a0_0 y0 y0_2 y2 fun y0 y1 y2 y3 y4 => K y0 y1 y2 y3 y4)) (zbr y1 y0 fun y0 y1 => zam y1_2 y0 y1 fun y0 y1 => br (!eqI y1 0) (K false [] [] 0 y1) (zah a1_0 y0 y0_2 y2 fun y0 y1 y2 y3 y4 => K y0 y1 y2 y3 y4)))))))
noncomputable def zad := shut zad.d
theorem zad.is : zad = zad.d := shut_is _
def zaj.d (a0_0 : Bool) (a0_1 : List UInt8) (a0_2 : List UInt8) (a0_3 : Int) (K : Int → Prop) : Prop :=
  zae a0_0 a0_1 a0_2 a0_3 fun y0 => br (!eqI y0 0) (K 0) (br (eqS a0_1 []) (K 0) (br a0_0 (K (-1)) (K 1)))
noncomputable def zaj := shut zaj.d
theorem zaj.is : zaj = zaj.d := shut_is _
def zaf.d (a0_0 : Bool) (a0_1 : List UInt8) (a0_2 : List UInt8) (a0_3 : Int) (a1_0 : Bool) (a1_1 : List UInt8) (a1_2 : List UInt8) (a1_3 : Int) (K : Int → Int → Prop) : Prop :=
  zaq a0_0 a0_1 a0_2 a0_3 a1_0 a1_1 a1_2 a1_3 fun y0 => br (!y0) (K 0 2) (zaj a0_0 a0_1 a0_2 a0_3 fun y0 => zaj a1_0 a1_1 a1_2 a1_3 fun y0_1 => br (ltI y0 y0_1) (K (-1) 0) (br (ltI y0_1 y0) (K 1 0) (br (eqI y0 0) (K 0 0) (zan a0_0 a0_1 a0_2 a0_3 a1_0 a1_1 a1_2 a1_3 fun y0_2 y1 y2 y3 => br (!eqI y3 0) (K 0 y3) (zbh y0_2 y1 fun y0_3 y1 => K (ybY .i64 y0 y0_3) 0)))))
noncomputable def zaf := shut zaf.d
theorem zaf.is : zaf = zaf.d := shut_is _
def zar.d (a0_0 : Bool) (a0_1 : List UInt8) (a0_2 : List UInt8) (a0_3 : Int) (K : Int → Prop) : Prop :=
  zbl a0_1 fun y0 => zbl a0_2 fun y0_1 => br (leI 0 (yan .i64 y0 y0_1)) (zbk a0_2 (yan .i64 y0 y0_1) fun y0_2 y1 => zbh a0_1 y0_2 fun y0_3 y1 => br (ltI y0_3 0) (K (yaj .i64 (yan .i64 (yan .i64 y0 y0_1) 1) a0_3)) (K (yaj .i64 (yan .i64 y0 y0_1) a0_3))) (zbk a0_1 (yrG .i64 (yan .i64 y0 y0_1)) fun y0_2 y1 => zbh y0_2 a0_2 fun y0_3 y1 => br (ltI y0_3 0) (K (yaj .i64 (yan .i64 (yan .i64 y0 y0_1) 1) a0_3)) (K (yaj .i64 (yan .i64 y0 y0_1) a0_3)))
noncomputable def zar := shut zar.d
theorem zar.is : zar = zar.d := shut_is _
def zag.d (a0_0 : Bool) (a0_1 : List UInt8) (a0_2 : List UInt8) (a0_3 : Int) (a1 : Int) (K : List UInt8 → Bool → Int → Prop) : Prop :=
  zae a0_0 a0_1 a0_2 a0_3 fun y0 => br (!eqI y0 0) (K [] false 2) (br (ltI a1 (-2097152)) (K [] false 2) (br (ltI 2097152 a1) (K [] false 2) (br (eqS a0_1 []) (K [] true 0) (br (leI a1 a0_3) (zbk a0_1 (yan .i64 a0_3 a1) fun y0 y1 => br (!eqI y1 0) (K [] false y1) (zbi y0 a0_2 fun y0 y1 y2 => K y0 (eqS y1 []) 0)) (zar a0_0 a0_1 a0_2 a0_3 fun y0 => br (ltI y0 a1) (K [] false 0) (zbk a0_2 (yan .i64 a1 a0_3) fun y0 y1 => zbi a0_1 y0 fun y0 y1 y2 => K y0 (eqS y1 []) 0))))))
noncomputable def zag := shut zag.d
theorem zag.is : zag = zag.d := shut_is _
def zai.d (a0_0 : Bool) (a0_1 : List UInt8) (a0_2 : List UInt8) (a0_3 : Int) (K : Bool → List UInt8 → List UInt8 → Int → Prop) : Prop :=
  zae a0_0 a0_1 a0_2 a0_3 fun y0 => br (!eqI y0 0) (K false [] [] 0) (br (!a0_0) (K (!eqS a0_1 []) a0_1 a0_2 a0_3) (K false a0_1 a0_2 a0_3))
noncomputable def zai := shut zai.d
theorem zai.is : zai = zai.d := shut_is _
def zak.d (a0_0 : Bool) (a0_1 : List UInt8) (a0_2 : List UInt8) (a0_3 : Int) (a1_0 : Bool) (a1_1 : List UInt8) (a1_2 : List UInt8) (a1_3 : Int) (K : Bool → List UInt8 → List UInt8 → Int → Int → Prop) : Prop :=
  zaq a0_0 a0_1 a0_2 a0_3 a1_0 a1_1 a1_2 a1_3 fun y0 => br (!y0) (K false [] [] 0 2) (zai a1_0 a1_1 a1_2 a1_3 fun y0 y1 y2 y3 => zad a0_0 a0_1 a0_2 a0_3 y0 y1 y2 y3 fun y0 y1 y2 y3 y4 => K y0 y1 y2 y3 y4)
noncomputable def zak := shut zak.d
theorem zak.is : zak = zak.d := shut_is _
def zal.d (a0_0 : Bool) (a0_1 : List UInt8) (a0_2 : List UInt8) (a0_3 : Int) (K : Int → Int → Prop) : Prop :=
  zae a0_0 a0_1 a0_2 a0_3 fun y0 => br (!eqI y0 0) (K 0 2) (br (eqS a0_1 []) (K 0 2) (zar a0_0 a0_1 a0_2 a0_3 fun y0 => K y0 0))
noncomputable def zal := shut zal.d
theorem zal.is : zal = zal.d := shut_is _
end Go.Ev.S

/- The functions as the evaluator has them: what each comes to. -/
set_option maxRecDepth 100000
set_option linter.unusedVariables false
set_option linter.unusedSimpArgs false
namespace Go.Ev.S
open Go Go.Ev
def zdn.d (a0 : Int) (K : Int → Prop) : Prop :=
  br (ltI 3 a0) (K 2) (K 0)
noncomputable def zdn := shut zdn.d
theorem zdn.is : zdn = zdn.d := shut_is _
def zdo.d (a0 : Int) (K : Int → Prop) : Prop :=
  br (ltI 4 a0) (K 2) (K 0)
noncomputable def zdo := shut zdo.d
theorem zdo.is : zdo = zdo.d := shut_is _
def zdz.d (a0 : Int) (K : Int → Int → Int → List UInt8 → Prop) : Prop :=
  br (leI 4 (cvI .i64 a0)) (K 0 0 0 []) (br (eqI a0 0) (br (eqI a0 0) (br (eqI a0 0) (br (eqI a0 0) (K 32 24 127 [115]) (br (eqI a0 1) (K 32 24 127 [100]) (br (eqI a0 2) (K 32 24 127 [104]) (br (eqI a0 3) (K 32 24 127 [113]) False)))) (br (eqI a0 1) (br (eqI a0 0) (K 32 24 1023 [115]) (br (eqI a0 1) (K 32 24 1023 [100]) (br (eqI a0 2) (K 32 24 1023 [104]) (br (eqI a0 3) (K 32 24 1023 [113]) False)))) (br (eqI a0 2) (br (eqI a0 0) (K 32 24 15 [115]) (br (eqI a0 1) (K 32 24 15 [100]) (br (eqI a0 2) (K 32 24 15 [104]) (br (eqI a0 3) (K 32 24 15 [113]) False)))) (br (eqI a0 3) (br (eqI a0 0) (K 32 24 16383 [115]) (br (eqI a0 1) (K 32 24 16383 [100]) (br (eqI a0 2) (K 32 24 16383 [104]) (br (eqI a0 3) (K 32 24 16383 [113]) False)))) False)))) (br (eqI a0 1) (br (eqI a0 0) (br (eqI a0 0) (K 32 53 127 [115]) (br (eqI a0 1) (K 32 53 127 [100]) (br (eqI a0 2) (K 32 53 127 [104]) (br (eqI a0 3) (K 32 53 127 [113]) False)))) (br (eqI a0 1) (br (eqI a0 0) (K 32 53 1023 [115]) (br (eqI a0 1) (K 32 53 1023 [100]) (br (eqI a0 2) (K 32 53 1023 [104]) (br (eqI a0 3) (K 32 53 1023 [113]) False)))) (br (eqI a0 2) (br (eqI a0 0) (K 32 53 15 [115]) (br (eqI a0 1) (K 32 53 15 [100]) (br (eqI a0 2) (K 32 53 15 [104]) (br (eqI a0 3) (K 32 53 15 [113]) False)))) (br (eqI a0 3) (br (eqI a0 0) (K 32 53 16383 [115]) (br (eqI a0 1) (K 32 53 16383 [100]) (br (eqI a0 2) (K 32 53 16383 [104]) (br (eqI a0 3) (K 32 53 16383 [113]) False)))) False)))) (br (eqI a0 2) (br (eqI a0 0) (br (eqI a0 0) (K 32 11 127 [115]) (br (eqI a0 1) (K 32 11 127 [100]) (br (eqI a0 2) (K 32 11 127 [104]) (br (eqI a0 3) (K 32 11 127 [113]) False)))) (br (eqI a0 1) (br (eqI a0 0) (K 32 11 1023 [115]) (br (eqI a0 1) (K 32 11 1023 [100]) (br (eqI a0 2) (K 32 11 1023 [104]) (br (eqI a0 3) (K 32 11 1023 [113]) False)))) (br (eqI a0 2) (br (eqI a0 0) (K 32 11 15 [115]) (br (eqI a0 1) (K 32 11 15 [100]) (br (eqI a0 2) (K 32 11 15 [104]) (br (eqI a0 3) (K 32 11 15 [113]) False)))) (br (eqI a0 3) (br (eqI a0 0) (K 32 11 16383 [115]) (br (eqI a0 1) (K 32 11 16383 [100]) (br (eqI a0 2) (K 32 11 16383 [104]) (br (eqI a0 3) (K 32 11 16383 [113]) False)))) False)))) (br (eqI a0 3) (br (eqI a0 0) (br (eqI a0 0) (K 32 113 127 [115]) (br (eqI a0 1) (K 32 113 127 [100]) (br (eqI a0 2) (K 32 113 127 [104]) (br (eqI a0 3) (K 32 113 127 [113]) False)))) (br (eqI a0 1) (br (eqI a0 0) (K 32 113 1023 [115]) (br (eqI a0 1) (K 32 113 1023 [100]) (br (eqI a0 2) (K 32 113 1023 [104]) (br (eqI a0 3) (K 32 113 1023 [113]) False)))) (br (eqI a0 2) (br (eqI a0 0) (K 32 113 15 [115]) (br (eqI a0 1) (K 32 113 15 [100]) (br (eqI a0 2) (K 32 113 15 [104]) (br (eqI a0 3) (K 32 113 15 [113]) False)))) (br (eqI a0 3) (br (eqI a0 0) (K 32 113 16383 [115]) (br (eqI a0 1) (K 32 113 16383 [100]) (br (eqI a0 2) (K 32 113 16383 [104]) (br (eqI a0 3) (K 32 113 16383 [113]) False)))) False)))) False)))) (br (eqI a0 1) (br (eqI a0 0) (br (eqI a0 0) (br (eqI a0 0) (K 64 24 127 [115]) (br (eqI a0 1) (K 64 24 127 [100]) (br (eqI a0 2) (K 64 24 127 [104]) (br (eqI a0 3) (K 64 24 127 [113]) False)))) (br (eqI a0 1) (br (eqI a0 0) (K 64 24 1023 [115]) (br (eqI a0 1) (K 64 24 1023 [100]) (br (eqI a0 2) (K 64 24 1023 [104]) (br (eqI a0 3) (K 64 24 1023 [113]) False)))) (br (eqI a0 2) (br (eqI a0 0) (K 64 24 15 [115]) (br (eqI a0 1) (K 64 24 15 [100]) (br (eqI a0 2) (K 64 24 15 [104]) (br (eqI a0 3) (K 64 24 15 [113]) False)))) (br (eqI a0 3) (br (eqI a0 0) (K 64 24 16383 [115]) (br (eqI a0 1) (K 64 24 16383 [100]) (br (eqI a0 2) (K 64 24 16383 [104]) (br (eqI a0 3) (K 64 24 16383 [113]) False)))) False)))) (br (eqI a0 1) (br (eqI a0 0) (br (eqI a0 0) (K 64 53 127 [115]) (br (eqI a0 1) (K 64 53 127 [100]) (br (eqI a0 2) (K 64 53 127 [104]) (br (eqI a0 3) (K 64 53 127 [113]) False)))) (br (eqI a0 1) (br (eqI a0 0) (K 64 53 1023 [115]) (br (eqI a0 1) (K 64 53 1023 [100]) (br (eqI a0 2) (K 64 53 1023 [104]) (br (eqI a0 3) (K 64 53 1023 [113]) False)))) (br (eqI a0 2) (br (eqI a0 0) (K 64 53 15 [115]) (br (eqI a0 1) (K 64 53 15 [100]) (br (eqI a0 2) (K 64 53 15 [104]) (br (eqI a0 3) (K 64 53 15 [113]) False)))) (br (eqI a0 3) (br (eqI a0 0) (K 64 53 16383 [115]) (br (eqI a0 1) (K 64 53 16383 [100]) (br (eqI a0 2) (K 64 53 16383 [104]) (br (eqI a0 3) (K 64 53 16383 [113]) False)))) False)))) (br (eqI a0 2) (br (eqI a0 0) (br (eqI a0 0) (K 64 11 127 [115]) (br (eqI a0 1) (K 64 11 127 [100]) (br (eqI a0 2) (K 64 11 127 [104]) (br (eqI a0 3) (K 64 11 127 [113]) False)))) (br (eqI a0 1) (br (eqI a0 0) (K 64 11 1023 [115]) (br (eqI a0 1) (K 64 11 1023 [100]) (br (eqI a0 2) (K 64 11 1023 [104]) (br (eqI a0 3) (K 64 11 1023 [113]) False)))) (br (eqI a0 2) (br (eqI a0 0) (K 64 11 15 [115]) (br (eqI a0 1) (K 64 11 15 [100]) (br (eqI a0 2) (K 64 11 15 [104]) (br (eqI a0 3) (K 64 11 15 [113]) False)))) (br (eqI a0 3) (br (eqI a0 0) (K 64 11 16383 [115]) (br (eqI a0 1) (K 64 11 16383 [100]) (br (eqI a0 2) (K 64 11 16383 [104]) (br (eqI a0 3) (K 64 11 16383 [113]) False)))) False)))) (br (eqI a0 3) (br (eqI a0 0) (br (eqI a0 0) (K 64 113 127 [115]) (br (eqI a0 1) (K 64 113 127 [100]) (br (eqI a0 2) (K 64 113 127 [104]) (br (eqI a0 3) (K 64 113 127 [113]) False)))) (br (eqI a0 1) (br (eqI a0 0) (K 64 113 1023 [115]) (br (eqI a0 1) (K 64 113 1023 [100]) (br (eqI a0 2) (K 64 113 1023 [104]) (br (eqI a0 3) (K 64 113 1023 [113]) False)))) (br (eqI a0 2) (br (eqI a0 0) (K 64 113 15 [115]) (br (eqI a0 1) (K 64 113 15 [100]) (br (eqI a0 2) (K 64 113 15 [104]) (br (eqI a0 3) (K 64 113 15 [113]) False)))) (br (eqI a0 3) (br (eqI a0 0) (K 64 113 16383 [115]) (br (eqI a0 1) (K 64 113 16383 [100]) (br (eqI a0 2) (K 64 113 16383 [104]) (br (eqI a0 3) (K 64 113 16383 [113]) False)))) False)))) False)))) (br (eqI a0 2) (br (eqI a0 0) (br (eqI a0 0) (br (eqI a0 0) (K 16 24 127 [115]) (br (eqI a0 1) (K 16 24 127 [100]) (br (eqI a0 2) (K 16 24 127 [104]) (br (eqI a0 3) (K 16 24 127 [113]) False)))) (br (eqI a0 1) (br (eqI a0 0) (K 16 24 1023 [115]) (br (eqI a0 1) (K 16 24 1023 [100]) (br (eqI a0 2) (K 16 24 1023 [104]) (br (eqI a0 3) (K 16 24 1023 [113]) False)))) (br (eqI a0 2) (br (eqI a0 0) (K 16 24 15 [115]) (br (eqI a0 1) (K 16 24 15 [100]) (br (eqI a0 2) (K 16 24 15 [104]) (br (eqI a0 3) (K 16 24 15 [113]) False)))) (br (eqI a0 3) (br (eqI a0 0) (K 16 24 16383 [115]) (br (eqI a0 1) (K 16 24 16383 [100]) (br (eqI a0 2) (K 16 24 16383 [104]) (br (eqI a0 3) (K 16 24 16383 [113]) False)))) False)))) (br (eqI a0 1) (br (eqI a0 0) (br (eqI a0 0) (K 16 53 127 [115]) (br (eqI a0 1) (K 16 53 127 [100]) (br (eqI a0 2) (K 16 53 127 [104]) (br (eqI a0 3) (K 16 53 127 [113]) False)))) (br (eqI a0 1) (br (eqI a0 0) (K 16 53 1023 [115]) (br (eqI a0 1) (K 16 53 1023 [100]) (br (eqI a0 2) (K 16 53 1023 [104]) (br (eqI a0 3) (K 16 53 1023 [113]) False)))) (br (eqI a0 2) (br (eqI a0 0) (K 16 53 15 [115]) (br (eqI a0 1) (K 16 53 15 [100]) (br (eqI a0 2) (K 16 53 15 [104]) (br (eqI a0 3) (K 16 53 15 [113]) False)))) (br (eqI a0 3) (br (eqI a0 0) (K 16 53 16383 [115]) (br (eqI a0 1) (K 16 53 16383 [100]) (br (eqI a0 2) (K 16 53 16383 [104]) (br (eqI a0 3) (K 16 53 16383 [113]) False)))) False)))) (br (eqI a0 2) (br (eqI a0 0) (br (eqI a0 0) (K 16 11 127 [115]) (br (eqI a0 1) (K 16 11 127 [100]) (br (eqI a0 2) (K 16 11 127 [104]) (br (eqI a0 3) (K 16 11 127 [113]) False)))) (br (eqI a0 1) (br (eqI a0 0) (K 16 11 1023 [115]) (br (eqI a0 1) (K 16 11 1023 [100]) (br (eqI a0 2) (K 16 11 1023 [104]) (br (eqI a0 3) (K 16 11 1023 [113]) False)))) (br (eqI a0 2) (br (eqI a0 0) (K 16 11 15 [115]) (br (eqI a0 1) (K 16 11 15 [100]) (br (eqI a0 2) (K 16 11 15 [104]) (br (eqI a0 3) (K 16 11 15 [113]) False)))) (br (eqI a0 3) (br (eqI a0 0) (K 16 11 16383 [115]) (br (eqI a0 1) (K 16 11 16383 [100]) (br (eqI a0 2) (K 16 11 16383 [104]) (br (eqI a0 3) (K 16 11 16383 [113]) False)))) False)))) (br (eqI a0 3) (br (eqI a0 0) (br (eqI a0 0) (K 16 113 127 [115]) (br (eqI a0 1) (K 16 113 127 [100]) (br (eqI a0 2) (K 16 113 127 [104]) (br (eqI a0 3) (K 16 113 127 [113]) False)))) (br (eqI a0 1) (br (eqI a0 0) (K 16 113 1023 [115]) (br (eqI a0 1) (K 16 113 1023 [100]) (br (eqI a0 2) (K 16 113 1023 [104]) (br (eqI a0 3) (K 16 113 1023 [113]) False)))) (br (eqI a0 2) (br (eqI a0 0) (K 16 113 15 [115]) (br (eqI a0 1) (K 16 113 15 [100]) (br (eqI a0 2) (K 16 113 15 [104]) (br (eqI a0 3) (K 16 113 15 [113]) False)))) (br (eqI a0 3) (br (eqI a0 0) (K 16 113 16383 [115]) (br (eqI a0 1) (K 16 113 16383 [100]) (br (eqI a0 2) (K 16 113 16383 [104]) (br (eqI a0 3) (K 16 113 16383 [113]) False)))) False)))) False)))) (br (eqI a0 3) (br (eqI a0 0) (br (eqI a0 0) (br (eqI a0 0) (K 128 24 127 [115]) (br (eqI a0 1) (K 128 24 127 [100]) (br (eqI a0 2) (K 128 24 127 [104]) (br (eqI a0 3) (K 128 24 127 [113]) False)))) (br (eqI a0 1) (br (eqI a0 0) (K 128 24 1023 [115]) (br (eqI a0 1) (K 128 24 1023 [100]) (br (eqI a0 2) (K 128 24 1023 [104]) (br (eqI a0 3) (K 128 24 1023 [113]) False)))) (br (eqI a0 2) (br (eqI a0 0) (K 128 24 15 [115]) (br (eqI a0 1) (K 128 24 15 [100]) (br (eqI a0 2) (K 128 24 15 [104]) (br (eqI a0 3) (K 128 24 15 [113]) False)))) (br (eqI a0 3) (br (eqI a0 0) (K 128 24 16383 [115]) (br (eqI a0 1) (K 128 24 16383 [100]) (br (eqI a0 2) (K 128 24 16383 [104]) (br (eqI a0 3) (K 128 24 16383 [113]) False)))) False)))) (br (eqI a0 1) (br (eqI a0 0) (br (eqI a0 0) (K 128 53 127 [115]) (br (eqI a0 1) (K 128 53 127 [100]) (br (eqI a0 2) (K 128 53 127 [104]) (br (eqI a0 3) (K 128 53 127 [113]) False)))) (br (eqI a0 1) (br (eqI a0 0) (K 128 53 1023 [115]) (br (eqI a0 1) (K 128 53 1023 [100]) (br (eqI a0 2) (K 128 53 1023 [104]) (br (eqI a0 3) (K 128 53 1023 [113]) False)))) (br (eqI a0 2) (br (eqI a0 0) (K 128 53 15 [115]) (br (eqI a0 1) (K 128 53 15 [100]) (br (eqI a0 2) (K 128 53 15 [104]) (br (eqI a0 3) (K 128 53 15 [113]) False)))) (br (eqI a0 3) (br (eqI a0 0) (K 128 53 16383 [115]) (br (eqI a0 1) (K 128 53 16383 [100]) (br (eqI a0 2) (K 128 53 16383 [104]) (br (eqI a0 3) (K 128 53 16383 [113]) False)))) False)))) (br (eqI a0 2) (br (eqI a0 0) (br (eqI a0 0) (K 128 11 127 [115]) (br (eqI a0 1) (K 128 11 127 [100]) (br (eqI a0 2) (K 128 11 127 [104]) (br (eqI a0 3) (K 128 11 127 [113]) False)))) (br (eqI a0 1) (br (eqI a0 0) (K 128 11 1023 [115]) (br (eqI a0 1) (K 128 11 1023 [100]) (br (eqI a0 2) (K 128 11 1023 [104]) (br (eqI a0 3) (K 128 11 1023 [113]) False)))) (br (eqI a0 2) (br (eqI a0 0) (K 128 11 15 [115]) (br (eqI a0 1) (K 128 11 15 [100]) (br (eqI a0 2) (K 128 11 15 [104]) (br (eqI a0 3) (K 128 11 15 [113]) False)))) (br (eqI a0 3) (br (eqI a0 0) (K 128 11 16383 [115]) (br (eqI a0 1) (K 128 11 16383 [100]) (br (eqI a0 2) (K 128 11 16383 [104]) (br (eqI a0 3) (K 128 11 16383 [113]) False)))) False)))) (br (eqI a0 3) (br (eqI a0 0) (br (eqI a0 0) (K 128 113 127 [115]) (br (eqI a0 1) (K 128 113 127 [100]) (br (eqI a0 2) (K 128 113 127 [104]) (br (eqI a0 3) (K 128 113 127 [113]) False)))) (br (eqI a0 1) (br (eqI a0 0) (K 128 113 1023 [115]) (br (eqI a0 1) (K 128 113 1023 [100]) (br (eqI a0 2) (K 128 113 1023 [104]) (br (eqI a0 3) (K 128 113 1023 [113]) False)))) (br (eqI a0 2) (br (eqI a0 0) (K 128 113 15 [115]) (br (eqI a0 1) (K 128 113 15 [100]) (br (eqI a0 2) (K 128 113 15 [104]) (br (eqI a0 3) (K 128 113 15 [113]) False)))) (br (eqI a0 3) (br (eqI a0 0) (K 128 113 16383 [115]) (br (eqI a0 1) (K 128 113 16383 [100]) (br (eqI a0 2) (K 128 113 16383 [104]) (br (eqI a0 3) (K 128 113 16383 [113]) False)))) False)))) False)))) False))))
noncomputable def zdz := shut zdz.d
theorem zdz.is : zdz = zdz.d := shut_is _
def zdp.d (a0 : Int) (K : Int → Prop) : Prop :=
  zdz a0 fun y0 y1 y2 y3 => K y2
noncomputable def zdp := shut zdp.d
theorem zdp.is : zdp = zdp.d := shut_is _
def zdq.d (a0 : Int) (K : Int → Prop) : Prop :=
  zdn a0 fun y0 => br (!eqI y0 0) (K 0) (zdp a0 fun y0 => K (yan .i64 1 y0))
noncomputable def zdq := shut zdq.d
theorem zdq.is : zdq = zdq.d := shut_is _
def zdv.d (a0 : Int) (K : Int → Prop) : Prop :=
  zdz a0 fun y0 y1 y2 y3 => K y0
noncomputable def zdv := shut zdv.d
theorem zdv.is : zdv = zdv.d := shut_is _
def zdr.d (a0 : Int) (a1_0 : Int) (a1_1 : Int) (K : Bool → Prop) : Prop :=
  br (eqI a0 3) (K true) (br (eqI a0 1) (K (eqI a1_0 0)) (br (eqI a0 0) (br (eqI a0 0) (br (eqI a1_0 0) (zdv a0 fun y0 => gd (!ltI (cvI .u64 y0) 0) (K (eqI (yaP .u64 a1_1 (cvI .u64 y0)) 0))) (K false)) (K false)) (br (eqI a0 2) (br (eqI a1_0 0) (zdv a0 fun y0 => gd (!ltI (cvI .u64 y0) 0) (K (eqI (yaP .u64 a1_1 (cvI .u64 y0)) 0))) (K false)) (K false))))
noncomputable def zdr := shut zdr.d
theorem zdr.is : zdr = zdr.d := shut_is _
def zdu.d (a0 : Int) (K : Int → Prop) : Prop :=
  zdz a0 fun y0 y1 y2 y3 => K y1
noncomputable def zdu := shut zdu.d
theorem zdu.is : zdu = zdu.d := shut_is _
def zdx.d (a0 : Int) (a1 : Int) (K : Int → Int → Prop) : Prop :=
  br (leI 64 a1) (gd (!ltI (cvI .u64 (yan .i64 a1 64)) 0) (K (ybD .u64 a0 (cvI .u64 (yan .i64 a1 64))) 0)) (gd (!ltI (cvI .u64 a1) 0) (br (ltI 0 a1) (gd (!ltI (cvI .u64 (yan .i64 64 a1)) 0) (K (yaP .u64 a0 (cvI .u64 (yan .i64 64 a1))) (ybD .u64 a0 (cvI .u64 a1)))) (K 0 (ybD .u64 a0 (cvI .u64 a1)))))
noncomputable def zdx := shut zdx.d
theorem zdx.is : zdx = zdx.d := shut_is _
def zdy.d (a0 : Int) (a1 : Int) (K : Int → Int → Prop) : Prop :=
  zdu a0 fun y0 => zdx (cvI .u64 a1) (yan .i64 y0 1) fun y0 y1 => K y0 y1
noncomputable def zdy := shut zdy.d
theorem zdy.is : zdy = zdy.d := shut_is _
def zea.d (a0 : Int) (a1_0 : Int) (a1_1 : Int) (a2 : Bool) (K : Int → Int → Prop) : Prop :=
  zdn a0 fun y0 => br (!eqI y0 0) (K 0 0) (br a2 (zdv a0 fun y0 => zdx 1 (yan .i64 y0 1) fun y0 y1 => K (orI .u64 a1_0 y0) (orI .u64 a1_1 y1)) (K a1_0 a1_1))
noncomputable def zea := shut zea.d
theorem zea.is : zea = zea.d := shut_is _
def zdt.d (a0 : Int) (a1 : Bool) (K : Int → Int → Prop) : Prop :=
  zdn a0 fun y0 => br (!eqI y0 0) (K 0 0) (zdp a0 fun y0 => zdy a0 (yaj .i64 (ybY .i64 2 y0) 1) fun y0 y1 => zea a0 y0 y1 a1 fun y0 y1 => K y0 y1)
noncomputable def zdt := shut zdt.d
theorem zdt.is : zdt = zdt.d := shut_is _
def zds.d (a0 : Int) (a1 : Bool) (K : Int → Int → Prop) : Prop :=
  zdt a0 false fun y0 y1 => br (eqI y0 0 && eqI y1 0) (K y0 y1) (br (eqI y1 0) (zdn a0 fun y0_1 => br (eqI y0_1 0) (zdv a0 fun y0_2 => br (ltI y0_2 128) (zea a0 0 (yan .u64 y1 1) a1 fun y0 y1 => K y0 y1) (zea a0 (yan .u64 y0 1) (yan .u64 y1 1) a1 fun y0 y1 => K y0 y1)) (zea a0 (yan .u64 y0 1) (yan .u64 y1 1) a1 fun y0 y1 => K y0 y1)) (zdn a0 fun y0_1 => br (eqI y0_1 0) (zdv a0 fun y0_2 => br (ltI y0_2 128) (zea a0 0 (yan .u64 y1 1) a1 fun y0 y1 => K y0 y1) (zea a0 y0 (yan .u64 y1 1) a1 fun y0 y1 => K y0 y1)) (zea a0 y0 (yan .u64 y1 1) a1 fun y0 y1 => K y0 y1)))
noncomputable def zds := shut zds.d
theorem zds.is : zds = zds.d := shut_is _
def zdw.d (a0 : Int) (a1 : Bool) (K : Int → Int → Prop) : Prop :=
  zea a0 0 0 a1 fun y0 y1 => K y0 y1
noncomputable def zdw := shut zdw.d
theorem zdw.is : zdw = zdw.d := shut_is _
end Go.Ev.S

/- The functions as the evaluator has them: what each comes to. -/
set_option maxRecDepth 100000
set_option linter.unusedVariables false
set_option linter.unusedSimpArgs false
namespace Go.Ev.S
open Go Go.Ev
end Go.Ev.S

/- The functions as the evaluator has them: what each comes to. -/
set_option maxRecDepth 100000
set_option linter.unusedVariables false
set_option linter.unusedSimpArgs false
namespace Go.Ev.S
open Go Go.Ev
end Go.Ev.S

/- The functions as the evaluator has them: what each comes to. -/
set_option maxRecDepth 100000
set_option linter.unusedVariables false
set_option linter.unusedSimpArgs false
namespace Go.Ev.S
open Go Go.Ev
def zba.d (a0 : Int) (a1_0 : Int) (a1_1 : Int) (K : Bool → Int → (Nat → Int) → Prop) : Prop :=
  zei a1_0 a1_1 fun y0 => zdu a0 fun y0_1 => zdv a0 fun y0_2 => zeg (yan .i64 y0_1 1) fun y0_3 => zeb y0 y0_3 fun y0_4 => zek y0 (yan .i64 y0_1 1) fun y0_5 y1 => zec y0 (yan .i64 y0_2 1) fun y0 => gd (!ltI (cvI .u64 (yan .i64 y0_2 y0_1)) 0) (K y0 (ycp .i64 (cvI .i64 (y0_5 0)) (yan .i64 (ybD .i64 1 (cvI .u64 (yan .i64 y0_2 y0_1))) 1)) y0_4)
noncomputable def zba := shut zba.d
theorem zba.is : zba = zba.d := shut_is _
def zaz.d (a0 : Int) (a1_0 : Int) (a1_1 : Int) (K : Int → Prop) : Prop :=
  zba a0 a1_0 a1_1 fun y0 y1 y2 => zdp a0 fun y0_1 => br (eqI y1 (yaj .i64 (ybY .i64 2 y0_1) 1)) (br (!eqN 6 y2 fun x => 0) (zdu a0 fun y0 => zec y2 (yan .i64 y0 2) fun y0 => br y0 (K 9) (K 8)) (br (!eqI y1 0) (br (eqN 6 y2 fun x => 0) (zdp a0 fun y0_2 => br (eqI y1 (yaj .i64 (ybY .i64 2 y0_2) 1)) (br y0 (K 0) (K 7)) (br (!eqI y1 0) (br y0 (K 1) (K 6)) (br (!eqN 6 y2 fun x => 0) (br y0 (K 2) (K 5)) (br y0 (K 3) (K 4))))) (br (!eqI y1 0) (br y0 (K 1) (K 6)) (br (!eqN 6 y2 fun x => 0) (br y0 (K 2) (K 5)) (br y0 (K 3) (K 4))))) (br (!eqI y1 0) (br y0 (K 1) (K 6)) (br (!eqN 6 y2 fun x => 0) (br y0 (K 2) (K 5)) (br y0 (K 3) (K 4)))))) (br (!eqI y1 0) (br (eqN 6 y2 fun x => 0) (zdp a0 fun y0_2 => br (eqI y1 (yaj .i64 (ybY .i64 2 y0_2) 1)) (br y0 (K 0) (K 7)) (br (!eqI y1 0) (br y0 (K 1) (K 6)) (br (!eqN 6 y2 fun x => 0) (br y0 (K 2) (K 5)) (br y0 (K 3) (K 4))))) (br (!eqI y1 0) (br y0 (K 1) (K 6)) (br (!eqN 6 y2 fun x => 0) (br y0 (K 2) (K 5)) (br y0 (K 3) (K 4))))) (br (!eqI y1 0) (br y0 (K 1) (K 6)) (br (!eqN 6 y2 fun x => 0) (br y0 (K 2) (K 5)) (br y0 (K 3) (K 4)))))
noncomputable def zaz := shut zaz.d
theorem zaz.is : zaz = zaz.d := shut_is _
def zat.d (a0 : Int) (a1_0 : Int) (a1_1 : Int) (K : Int → Int → Prop) : Prop :=
  zdr a0 a1_0 a1_1 fun y0 => br (!y0) (K 0 2) (zaz a0 a1_0 a1_1 fun y0 => K y0 0)
noncomputable def zat := shut zat.d
theorem zat.is : zat = zat.d := shut_is _
def zay.d (a0 : Int) (a1 : Bool) (a2 : Int) (a3 : Nat → Int) (K : Int → Int → Prop) : Prop :=
  zeh (cvI .u64 a2) fun y0 => zdu a0 fun y0_1 => zed y0 (yan .i64 y0_1 1) fun y0 y1 => zej y0 a3 fun y0 => br a1 (zdv a0 fun y0_2 => gd (leI 0 (yaG .i64 (yan .i64 y0_2 1) 64) && ltI (yaG .i64 (yan .i64 y0_2 1) 64) 6) (gd (!ltI (cvI .u64 (ycg .i64 (yan .i64 y0_2 1) 64)) 0) (gd (leI 0 (yaG .i64 (yan .i64 y0_2 1) 64) && ltI (yaG .i64 (yan .i64 y0_2 1) 64) 6) (zel (upd y0 (Int.toNat (yaG .i64 (yan .i64 y0_2 1) 64)) (orI .u64 (y0 (Int.toNat (yaG .i64 (yan .i64 y0_2 1) 64))) (ybD .u64 1 (cvI .u64 (ycg .i64 (yan .i64 y0_2 1) 64))))) fun y0 y1 y2 => K y0 y1)))) (zel y0 fun y0 y1 y2 => K y0 y1)
noncomputable def zay := shut zay.d
theorem zay.is : zay = zay.d := shut_is _
def zau.d (a0 : Int) (a1_0 : Bool) (a1_1 : List UInt8) (a1_2 : List UInt8) (a1_3 : Int) (K : Int → Int → Bool → Int → Prop) : Prop :=
  zdn a0 fun y0 => br (!eqI y0 0) (K 0 0 false 2) (zae a1_0 a1_1 a1_2 a1_3 fun y0 => br (!eqI y0 0) (K 0 0 false 2) (br (eqS a1_1 []) (K 0 0 true 0) (zdu a0 fun y0 => zal a1_0 a1_1 a1_2 a1_3 fun y0_1 y1 => zdq a0 fun y0_2 => br (!eqS a1_2 [1]) (K 0 0 false 0) (zdp a0 fun y0_3 => br (ltI y0_3 y0_1) (K 0 0 false 0) (br (ltI a1_3 (yaj .i64 (yan .i64 (yia y0_1 y0_2) y0) 1)) (K 0 0 false 0) (zag a1_0 a1_1 a1_2 a1_3 (yaj .i64 (yan .i64 (yia y0_1 y0_2) y0) 1) fun y0_4 y1 y2 => zbs y0_4 fun y0_5 y1 => zec y0_5 (yan .i64 y0 1) fun y0_6 => br y0_6 (zdq a0 fun y0_7 => zeg (yan .i64 y0 1) fun y0_8 => zeb y0_5 y0_8 fun y0_9 => zay a0 a1_0 (yaj .i64 (yan .i64 (yaj .i64 (yan .i64 (yia y0_1 y0_2) y0) 1) y0_7) y0) y0_9 fun y0 y1 => K y0 y1 true 0) (zeg (yan .i64 y0 1) fun y0 => zeb y0_5 y0 fun y0 => zay a0 a1_0 0 y0 fun y0 y1 => K y0 y1 true 0)))))))
noncomputable def zau := shut zau.d
theorem zau.is : zau = zau.d := shut_is _
def zaw.d (a0 : Int) (a1_0 : Int) (a1_1 : Int) (K : Int → (Nat → Int) → Int → (Nat → Int) → Int → Prop) : Prop :=
  zdr a0 a1_0 a1_1 fun y0 => br (!y0) (K 0 (fun x => 0) 0 (fun x => 0) 2) (zdu a0 fun y0 => zba a0 a1_0 a1_1 fun y0_1 y1 y2 => zaz a0 a1_0 a1_1 fun y0_2 => br (eqI y0_2 8) (br (eqI y0_2 8) (K y0_2 (fun x => 0) 0 y2 0) (br (eqI y0_2 1) (br (eqI y0_2 1) (gd (leI 0 (yaG .i64 (yan .i64 y0 1) 64) && ltI (yaG .i64 (yan .i64 y0 1) 64) 6) (gd (!ltI (cvI .u64 (ycg .i64 (yan .i64 y0 1) 64)) 0) (gd (leI 0 (yaG .i64 (yan .i64 y0 1) 64) && ltI (yaG .i64 (yan .i64 y0 1) 64) 6) (zdq a0 fun y0_3 => K y0_2 (upd y2 (Int.toNat (yaG .i64 (yan .i64 y0 1) 64)) (orI .u64 (y2 (Int.toNat (yaG .i64 (yan .i64 y0 1) 64))) (ybD .u64 1 (cvI .u64 (ycg .i64 (yan .i64 y0 1) 64))))) (yaj .i64 (yan .i64 (yaj .i64 (yan .i64 y1 1) y0_3) y0) 1) (fun x => 0) 0)))) (br (eqI y0_2 2) (br (eqI y0_2 2) (zdq a0 fun y0_3 => K y0_2 y2 (yaj .i64 (yan .i64 (yaj .i64 y1 y0_3) y0) 1) (fun x => 0) 0) (K y0_2 (fun x => 0) 0 (fun x => 0) 0)) (br (eqI y0_2 5) (zdq a0 fun y0_3 => K y0_2 y2 (yaj .i64 (yan .i64 (yaj .i64 y1 y0_3) y0) 1) (fun x => 0) 0) (K y0_2 (fun x => 0) 0 (fun x => 0) 0)))) (br (eqI y0_2 6) (gd (leI 0 (yaG .i64 (yan .i64 y0 1) 64) && ltI (yaG .i64 (yan .i64 y0 1) 64) 6) (gd (!ltI (cvI .u64 (ycg .i64 (yan .i64 y0 1) 64)) 0) (gd (leI 0 (yaG .i64 (yan .i64 y0 1) 64) && ltI (yaG .i64 (yan .i64 y0 1) 64) 6) (zdq a0 fun y0_3 => K y0_2 (upd y2 (Int.toNat (yaG .i64 (yan .i64 y0 1) 64)) (orI .u64 (y2 (Int.toNat (yaG .i64 (yan .i64 y0 1) 64))) (ybD .u64 1 (cvI .u64 (ycg .i64 (yan .i64 y0 1) 64))))) (yaj .i64 (yan .i64 (yaj .i64 (yan .i64 y1 1) y0_3) y0) 1) (fun x => 0) 0)))) (br (eqI y0_2 2) (br (eqI y0_2 2) (zdq a0 fun y0_3 => K y0_2 y2 (yaj .i64 (yan .i64 (yaj .i64 y1 y0_3) y0) 1) (fun x => 0) 0) (K y0_2 (fun x => 0) 0 (fun x => 0) 0)) (br (eqI y0_2 5) (zdq a0 fun y0_3 => K y0_2 y2 (yaj .i64 (yan .i64 (yaj .i64 y1 y0_3) y0) 1) (fun x => 0) 0) (K y0_2 (fun x => 0) 0 (fun x => 0) 0)))))) (br (eqI y0_2 9) (K y0_2 (fun x => 0) 0 y2 0) (br (eqI y0_2 1) (br (eqI y0_2 1) (gd (leI 0 (yaG .i64 (yan .i64 y0 1) 64) && ltI (yaG .i64 (yan .i64 y0 1) 64) 6) (gd (!ltI (cvI .u64 (ycg .i64 (yan .i64 y0 1) 64)) 0) (gd (leI 0 (yaG .i64 (yan .i64 y0 1) 64) && ltI (yaG .i64 (yan .i64 y0 1) 64) 6) (zdq a0 fun y0_3 => K y0_2 (upd y2 (Int.toNat (yaG .i64 (yan .i64 y0 1) 64)) (orI .u64 (y2 (Int.toNat (yaG .i64 (yan .i64 y0 1) 64))) (ybD .u64 1 (cvI .u64 (ycg .i64 (yan .i64 y0 1) 64))))) (yaj .i64 (yan .i64 (yaj .i64 (yan .i64 y1 1) y0_3) y0) 1) (fun x => 0) 0)))) (br (eqI y0_2 2) (br (eqI y0_2 2) (zdq a0 fun y0_3 => K y0_2 y2 (yaj .i64 (yan .i64 (yaj .i64 y1 y0_3) y0) 1) (fun x => 0) 0) (K y0_2 (fun x => 0) 0 (fun x => 0) 0)) (br (eqI y0_2 5) (zdq a0 fun y0_3 => K y0_2 y2 (yaj .i64 (yan .i64 (yaj .i64 y1 y0_3) y0) 1) (fun x => 0) 0) (K y0_2 (fun x => 0) 0 (fun x => 0) 0)))) (br (eqI y0_2 6) (gd (leI 0 (yaG .i64 (yan .i64 y0 1) 64) && ltI (yaG .i64 (yan .i64 y0 1) 64) 6) (gd (!ltI (cvI .u64 (ycg .i64 (yan .i64 y0 1) 64)) 0) (gd (leI 0 (yaG .i64 (yan .i64 y0 1) 64) && ltI (yaG .i64 (yan .i64 y0 1) 64) 6) (zdq a0 fun y0_3 => K y0_2 (upd y2 (Int.toNat (yaG .i64 (yan .i64 y0 1) 64)) (orI .u64 (y2 (Int.toNat (yaG .i64 (yan .i64 y0 1) 64))) (ybD .u64 1 (cvI .u64 (ycg .i64 (yan .i64 y0 1) 64))))) (yaj .i64 (yan .i64 (yaj .i64 (yan .i64 y1 1) y0_3) y0) 1) (fun x => 0) 0)))) (br (eqI y0_2 2) (br (eqI y0_2 2) (zdq a0 fun y0_3 => K y0_2 y2 (yaj .i64 (yan .i64 (yaj .i64 y1 y0_3) y0) 1) (fun x => 0) 0) (K y0_2 (fun x => 0) 0 (fun x => 0) 0)) (br (eqI y0_2 5) (zdq a0 fun y0_3 => K y0_2 y2 (yaj .i64 (yan .i64 (yaj .i64 y1 y0_3) y0) 1) (fun x => 0) 0) (K y0_2 (fun x => 0) 0 (fun x => 0) 0)))))))
noncomputable def zaw := shut zaw.d
theorem zaw.is : zaw = zaw.d := shut_is _
def zav.d (a0 : Int) (a1_0 : Int) (a1_1 : Int) (K : Bool → Prop) : Prop :=
  zdr a0 a1_0 a1_1 fun y0 => br y0 (zei a1_0 a1_1 fun y0 => zdv a0 fun y0_1 => zec y0 (yan .i64 y0_1 1) fun y0 => K y0) (K false)
noncomputable def zav := shut zav.d
theorem zav.is : zav = zav.d := shut_is _
def zax.d (a0 : Int) (a1_0 : Int) (a1_1 : Int) (K : Bool → List UInt8 → List UInt8 → Int → Int → Prop) : Prop :=
  zaw a0 a1_0 a1_1 fun y0 y1 y2 y3 y4 => br (!eqI y4 0) (K false [] [] 0 y4) (br (eqI y0 0) (K false [] [] 0 80) (br (leI 7 y0) (K false [] [] 0 80) (zbo y1 fun y0_1 => zah (ltI y0 4) y0_1 [1] y2 fun y0 y1 y2 y3 y4 => K y0 y1 y2 y3 y4)))
noncomputable def zax := shut zax.d
theorem zax.is : zax = zax.d := shut_is _
end Go.Ev.S

/- The functions as the evaluator has them: what each comes to. -/
set_option maxRecDepth 100000
set_option linter.unusedVariables false
set_option linter.unusedSimpArgs false
namespace Go.Ev.S
open Go Go.Ev
def zcj.d (a0 : Int) (a1 : Int) (K : Bool → Prop) : Prop :=
  br (leI 0 a1) (br (ltI a1 64) (gd (!ltI (cvI .u64 a1) 0) (K (eqI (ycp .u64 (yaP .u64 a0 (cvI .u64 a1)) 1) 1))) (K false)) (K false)
noncomputable def zcj := shut zcj.d
theorem zcj.is : zcj = zcj.d := shut_is _
def r01_Add.l3.step (again : Int → Int → Bool → Int → Int → Prop) (k0 : Bool → Int → Prop) (x0 : Int) (x1 : Int) (x2 : Bool) (x3 : Int) (x4 : Int) : Prop :=
  br (ltI x4 64) (zcj x0 x4 fun y0 => zcj x1 x4 fun y0_1 => br (!ybf (!ybf y0 y0_1) x2) (gd (!ltI (cvI .u64 x4) 0) (br y0 (br y0_1 (again x0 x1 true (orI .u64 x3 (ybD .u64 1 (cvI .u64 x4))) (yaj .i64 x4 1)) (br y0 (br x2 (again x0 x1 true (orI .u64 x3 (ybD .u64 1 (cvI .u64 x4))) (yaj .i64 x4 1)) (br y0_1 (again x0 x1 x2 (orI .u64 x3 (ybD .u64 1 (cvI .u64 x4))) (yaj .i64 x4 1)) (again x0 x1 false (orI .u64 x3 (ybD .u64 1 (cvI .u64 x4))) (yaj .i64 x4 1)))) (br y0_1 (again x0 x1 x2 (orI .u64 x3 (ybD .u64 1 (cvI .u64 x4))) (yaj .i64 x4 1)) (again x0 x1 false (orI .u64 x3 (ybD .u64 1 (cvI .u64 x4))) (yaj .i64 x4 1))))) (br y0 (br x2 (again x0 x1 true (orI .u64 x3 (ybD .u64 1 (cvI .u64 x4))) (yaj .i64 x4 1)) (br y0_1 (again x0 x1 x2 (orI .u64 x3 (ybD .u64 1 (cvI .u64 x4))) (yaj .i64 x4 1)) (again x0 x1 false (orI .u64 x3 (ybD .u64 1 (cvI .u64 x4))) (yaj .i64 x4 1)))) (br y0_1 (again x0 x1 x2 (orI .u64 x3 (ybD .u64 1 (cvI .u64 x4))) (yaj .i64 x4 1)) (again x0 x1 false (orI .u64 x3 (ybD .u64 1 (cvI .u64 x4))) (yaj .i64 x4 1)))))) (br y0 (br y0_1 (again x0 x1 true x3 (yaj .i64 x4 1)) (br y0 (br x2 (again x0 x1 true x3 (yaj .i64 x4 1)) (br y0_1 (again x0 x1 x2 x3 (yaj .i64 x4 1)) (again x0 x1 false x3 (yaj .i64 x4 1)))) (br y0_1 (again x0 x1 x2 x3 (yaj .i64 x4 1)) (again x0 x1 false x3 (yaj .i64 x4 1))))) (br y0 (br x2 (again x0 x1 true x3 (yaj .i64 x4 1)) (br y0_1 (again x0 x1 x2 x3 (yaj .i64 x4 1)) (again x0 x1 false x3 (yaj .i64 x4 1)))) (br y0_1 (again x0 x1 x2 x3 (yaj .i64 x4 1)) (again x0 x1 false x3 (yaj .i64 x4 1)))))) (k0 x2 x3)
def r01_Add.l3 (k0 : Bool → Int → Prop) : Nat → Int → Int → Bool → Int → Int → Prop
  | 0 => fun _ _ _ _ _ => False
  | n + 1 => r01_Add.l3.step (r01_Add.l3 k0 n) k0
def r01_Add.l3.entry : yao := ⟨LV.mk 260 [(0, 260)] 192 0 false, 0, 50, fun vs H K => match vs, H with
  | [EV.int .u64 x0, EV.int .u64 x1, EV.bool x2, EV.int .u64 x3, EV.int .i64 x4], [] => ∃ n, r01_Add.l3 (fun y0 y1 => K (.exit 0) [EV.bool y0, EV.int .u64 y1] []) n x0 x1 x2 x3 x4
  | _, _ => False⟩
def r01_Add.d (a0 : Int) (a1 : Int) (a2 : Bool) (K : Int → Bool → Prop) : Prop :=
  ∃ n, r01_Add.l3 (fun y0 y1 => K y1 y0) n a0 a1 a2 0 0
noncomputable def r01_Add : Int → Int → Bool → (Int → Bool → Prop) → Prop := Classical.choose (⟨r01_Add.d, rfl⟩ : ∃ f, f = r01_Add.d)
def r01_count.d (a0 : Int) (K : Int → Prop) : Prop :=
  br (ltI a0 0) (K 0) (br (ltI 64 a0) (K 64) (K a0))
noncomputable def r01_count : Int → (Int → Prop) → Prop := Classical.choose (⟨r01_count.d, rfl⟩ : ∃ f, f = r01_count.d)
def r01_Left.l2.step (again : Int → Int → Prop) (k0 : Int → Prop) (x0 : Int) (x1 : Int) : Prop :=
  br (ltI 0 x1) (again (ybY .u64 x0 2) (yan .i64 x1 1)) (k0 x0)
def r01_Left.l2 (k0 : Int → Prop) : Nat → Int → Int → Prop
  | 0 => fun _ _ => False
  | n + 1 => r01_Left.l2.step (r01_Left.l2 k0 n) k0
def r01_Left.l2.entry : yao := ⟨LV.mk 1 [(0, 1)] 16 0 false, 0, 15, fun vs H K => match vs, H with
  | [EV.int .u64 x0, EV.int .i64 x1], [] => ∃ n, r01_Left.l2 (fun y0 => K (.exit 0) [EV.int .u64 y0] []) n x0 x1
  | _, _ => False⟩
def r01_Left.d (a0 : Int) (a1 : Int) (K : Int → Prop) : Prop :=
  r01_count a1 fun y0 => ∃ n, r01_Left.l2 (fun y0 => K y0) n a0 y0
noncomputable def r01_Left : Int → Int → (Int → Prop) → Prop := Classical.choose (⟨r01_Left.d, rfl⟩ : ∃ f, f = r01_Left.d)
def zck.l3.step (again : Int → Int → Int → Prop) (k0 : Int → Prop) (x0 : Int) (x1 : Int) (x2 : Int) : Prop :=
  br (ltI x2 64) (zcj x0 x2 fun y0 => br y0 (again x0 (yaj .i64 x2 1) (yaj .i64 x2 1)) (again x0 x1 (yaj .i64 x2 1))) (k0 x1)
def zck.l3 (k0 : Int → Prop) : Nat → Int → Int → Int → Prop
  | 0 => fun _ _ _ => False
  | n + 1 => zck.l3.step (zck.l3 k0 n) k0
def zck.l3.entry : yao := ⟨LV.mk 8 [(0, 8)] 4 0 false, 0, 15, fun vs H K => match vs, H with
  | [EV.int .u64 x0, EV.int .i64 x1, EV.int .i64 x2], [] => ∃ n, zck.l3 (fun y0 => K (.exit 0) [EV.int .i64 y0] []) n x0 x1 x2
  | _, _ => False⟩
def zck.d (a0 : Int) (K : Int → Prop) : Prop :=
  ∃ n, zck.l3 (fun y0 => K y0) n a0 0 0
noncomputable def zck := shut zck.d
theorem zck.is : zck = zck.d := shut_is _
def zcl.l2.step (again : Int → Int → Prop) (k0 : Int → Prop) (k1 : Prop) (x0 : Int) (x1 : Int) : Prop :=
  br (ltI x1 64) (zcj x0 x1 fun y0 => br y0 (k0 x1) (again x0 (yaj .i64 x1 1))) k1
def zcl.l2 (k0 : Int → Prop) (k1 : Prop) : Nat → Int → Int → Prop
  | 0 => fun _ _ => False
  | n + 1 => zcl.l2.step (zcl.l2 k0 k1 n) k0 k1
def zcl.l2.entry : yao := ⟨LV.mk 0 [(0, 0)] 4 0 false, 0, 12, fun vs H K => match vs, H with
  | [EV.int .u64 x0, EV.int .i64 x1], [] => ∃ n, zcl.l2 (fun y0 => K .ret [EV.int .i64 y0] []) (K (.exit 0) [] []) n x0 x1
  | _, _ => False⟩
def zcl.d (a0 : Int) (K : Int → Prop) : Prop :=
  ∃ n, zcl.l2 (fun y0 => K y0) (K 64) n a0 0
noncomputable def zcl := shut zcl.d
theorem zcl.is : zcl = zcl.d := shut_is _
end Go.Ev.S

/- The functions as the evaluator has them: what each comes to. -/
set_option maxRecDepth 100000
set_option linter.unusedVariables false
set_option linter.unusedSimpArgs false
namespace Go.Ev.S
open Go Go.Ev
end Go.Ev.S

/- The functions as the evaluator has them: what each comes to. -/
set_option maxRecDepth 100000
set_option linter.unusedVariables false
set_option linter.unusedSimpArgs false
namespace Go.Ev.S
open Go Go.Ev
def zct.d (a0 : List UInt8) (a1 : Int) (K : Int → Prop) : Prop :=
  br (leI (↑(List.length a0)) a1) (K 0) (gd (leI 0 (yan .i64 (yan .i64 (↑(List.length a0)) 1) a1) && ltI (yan .i64 (yan .i64 (↑(List.length a0)) 1) a1) ↑(List.length a0)) (K (cvI .i64 (ybj a0 (Int.toNat (yan .i64 (yan .i64 (↑(List.length a0)) 1) a1))))))
noncomputable def zct := shut zct.d
theorem zct.is : zct = zct.d := shut_is _
def zcw.l2.step (again : Nat → (Nat → Int) → Int → Prop) (k0 : Nat → (Nat → Int) → Int → Prop) (x0 : Nat) (x1 : Nat → Int) (x2 : Int) : Prop :=
  br (ltI 0 x2) (gd (leI 0 (yan .i64 x2 1) && ltI (yan .i64 x2 1) ↑x0) (br (eqI (x1 (Int.toNat (yan .i64 x2 1))) 0) (again x0 x1 (yan .i64 x2 1)) (k0 x0 x1 x2))) (k0 x0 x1 x2)
def zcw.l2 (k0 : Nat → (Nat → Int) → Int → Prop) : Nat → Nat → (Nat → Int) → Int → Prop
  | 0 => fun _ _ _ => False
  | n + 1 => zcw.l2.step (zcw.l2 k0 n) k0
def zcw.l2.entry : yao := ⟨LV.mk 9 [(0, 9)] 4 0 false, 0, 39, fun vs H K => match vs, H with
  | [EV.rsI .u8 x0 x1, EV.int .i64 x2], [] => ∃ n, zcw.l2 (fun y0 y1 y2 => K (.exit 0) [EV.rsI .u8 y0 y1, EV.int .i64 y2] []) n x0 x1 x2
  | _, _ => False⟩
def zcw.l6.step (again : Nat → (Nat → Int) → Int → Nat → Nat → Int → Nat → (Nat → Int) → Prop) (k0 : Nat → Nat → Nat → (Nat → Int) → Prop) (x0 : Nat) (x1 : Nat → Int) (x2 : Int) (x3 : Nat) (x4 : Nat) (x5 : Int) (x6 : Nat) (x7 : Nat → Int) : Prop :=
  br (ltI x5 x2) (gd (leI 0 x5 && ltI x5 ↑x0) (gd (leI 0 (yan .i64 (yan .i64 x2 1) x5) && ltI (yan .i64 (yan .i64 x2 1) x5) ↑x3) (again x0 x1 x2 x3 x4 (yaj .i64 x5 1) x6 (upd x7 (Int.toNat (yan .i64 (yan .i64 x2 1) x5)) (x1 (Int.toNat x5)))))) (k0 x3 x4 x6 x7)
def zcw.l6 (k0 : Nat → Nat → Nat → (Nat → Int) → Prop) : Nat → Nat → (Nat → Int) → Int → Nat → Nat → Int → Nat → (Nat → Int) → Prop
  | 0 => fun _ _ _ _ _ _ _ _ => False
  | n + 1 => zcw.l6.step (zcw.l6 k0 n) k0
def zcw.l6.entry : yao := ⟨LV.mk 16 [(2, 16)] 4 0 false, 0, 39, fun vs H K => match vs, H with
  | [EV.rsI .u8 x0 x1, EV.int .i64 x2, EV.slice 0 0 x3 (some x4) 1, EV.int .i64 x5], [some (EV.arr .u8 x6 x7)] => ∃ n, zcw.l6 (fun y0 y1 y2 y3 => K (.exit 2) [EV.slice 0 0 y0 (some y1) 1] [some (EV.arr .u8 y2 y3)]) n x0 x1 x2 x3 x4 x5 x6 x7
  | _, _ => False⟩
def zcw.d (a0n : Nat) (a0 : Nat → Int) (K : List UInt8 → Prop) : Prop :=
  ∃ n, zcw.l2 (fun y0 y1 y2 => gd (leI 0 y2 && (leI y2 y2 && leI y2 1099511627776)) (∃ n, zcw.l6 (fun y0 y1 y2 y3 => K (ybA y0 y3)) n y0 y1 y2 (Int.toNat y2) (Int.toNat y2) 0 (Int.toNat y2) fun x => 0)) n a0n a0 ↑a0n
noncomputable def zcw := shut zcw.d
theorem zcw.is : zcw = zcw.d := shut_is _
def r05_add.l7.step (again : List UInt8 → List UInt8 → Int → Nat → Nat → Int → Int → Nat → (Nat → Int) → Prop) (k0 : Nat → Nat → Nat → (Nat → Int) → Prop) (x0 : List UInt8) (x1 : List UInt8) (x2 : Int) (x3 : Nat) (x4 : Nat) (x5 : Int) (x6 : Int) (x7 : Nat) (x8 : Nat → Int) : Prop :=
  br (leI x6 x2) (zct x0 x6 fun y0 => zct x1 x6 fun y0_1 => gd (leI 0 x6 && ltI x6 ↑x3) (again x0 x1 x2 x3 x4 (yaP .i64 (yaj .i64 (yaj .i64 x5 y0) y0_1) 8) (yaj .i64 x6 1) x7 (upd x8 (Int.toNat x6) (cvI .u8 (yaj .i64 (yaj .i64 x5 y0) y0_1))))) (k0 x3 x4 x7 x8)
def r05_add.l7 (k0 : Nat → Nat → Nat → (Nat → Int) → Prop) : Nat → List UInt8 → List UInt8 → Int → Nat → Nat → Int → Int → Nat → (Nat → Int) → Prop
  | 0 => fun _ _ _ _ _ _ _ _ _ => False
  | n + 1 => r05_add.l7.step (r05_add.l7 k0 n) k0
def r05_add.l7.entry : yao := ⟨LV.mk 64 [(0, 64)] 16 0 false, 0, 43, fun vs H K => match vs, H with
  | [EV.str x0, EV.str x1, EV.int .i64 x2, EV.slice 0 0 x3 (some x4) 1, EV.int .i64 x5, EV.int .i64 x6], [some (EV.arr .u8 x7 x8)] => ∃ n, r05_add.l7 (fun y0 y1 y2 y3 => K (.exit 0) [EV.slice 0 0 y0 (some y1) 1] [some (EV.arr .u8 y2 y3)]) n x0 x1 x2 x3 x4 x5 x6 x7 x8
  | _, _ => False⟩
def r05_add.d (a0 : List UInt8) (a1 : List UInt8) (K : List UInt8 → Prop) : Prop :=
  br (ltI ↑(List.length a0) ↑(List.length a1)) (gd (leI 0 (yaj .i64 (↑(List.length a1)) 1) && (leI (yaj .i64 (↑(List.length a1)) 1) (yaj .i64 (↑(List.length a1)) 1) && leI (yaj .i64 (↑(List.length a1)) 1) 1099511627776)) (∃ n, r05_add.l7 (fun y0 y1 y2 y3 => zcw y0 y3 fun y0 => K y0) n a0 a1 (↑(List.length a1)) (Int.toNat (yaj .i64 (↑(List.length a1)) 1)) (Int.toNat (yaj .i64 (↑(List.length a1)) 1)) 0 0 (Int.toNat (yaj .i64 (↑(List.length a1)) 1)) fun x => 0)) (gd (leI 0 (yaj .i64 (↑(List.length a0)) 1) && (leI (yaj .i64 (↑(List.length a0)) 1) (yaj .i64 (↑(List.length a0)) 1) && leI (yaj .i64 (↑(List.length a0)) 1) 1099511627776)) (∃ n, r05_add.l7 (fun y0 y1 y2 y3 => zcw y0 y3 fun y0 => K y0) n a0 a1 (↑(List.length a0)) (Int.toNat (yaj .i64 (↑(List.length a0)) 1)) (Int.toNat (yaj .i64 (↑(List.length a0)) 1)) 0 0 (Int.toNat (yaj .i64 (↑(List.length a0)) 1)) fun x => 0))
noncomputable def r05_add : List UInt8 → List UInt8 → (List UInt8 → Prop) → Prop := Classical.choose (⟨r05_add.d, rfl⟩ : ∃ f, f = r05_add.d)
def zcm.d (a0 : List UInt8) (a1 : List UInt8) (K : Int → Prop) : Prop :=
  br (!eqI ↑(List.length a0) ↑(List.length a1)) (br (ltI ↑(List.length a0) ↑(List.length a1)) (K (-1)) (K 1)) (br (ltS a0 a1) (K (-1)) (br (!(ltS a0 a1 || eqS a0 a1)) (K 1) (K 0)))
noncomputable def zcm := shut zcm.d
theorem zcm.is : zcm = zcm.d := shut_is _
def zcr.d (a0 : List UInt8) (K : Bool → Prop) : Prop :=
  br (leI (↑(List.length a0)) 16384) (br (eqS a0 []) (K true) (gd (ltI 0 ↑(List.length a0)) (K !eqI (ybj a0 0) 0))) (K false)
noncomputable def zcr := shut zcr.d
theorem zcr.is : zcr = zcr.d := shut_is _
def zcp.d (a0 : List UInt8) (K : Int → Prop) : Prop :=
  zcr a0 fun y0 => br (!y0) (K 0) (br (eqS a0 []) (K 0) (gd (ltI 0 ↑(List.length a0)) (zck (cvI .u64 (ybj a0 0)) fun y0 => K (yaj .i64 (ybY .i64 8 (yan .i64 (↑(List.length a0)) 1)) y0))))
noncomputable def zcp := shut zcp.d
theorem zcp.is : zcp = zcp.d := shut_is _
def zcq.l4.step (again : List UInt8 → Int → Prop) (k0 : Int → Prop) (k1 : Prop) (x0 : List UInt8) (x1 : Int) : Prop :=
  br (ltI x1 ↑(List.length x0)) (zct x0 x1 fun y0 => br (!eqI y0 0) (zct x0 x1 fun y0 => zcl (cvI .u64 y0) fun y0 => k0 (yaj .i64 (ybY .i64 8 x1) y0)) (again x0 (yaj .i64 x1 1))) k1
def zcq.l4 (k0 : Int → Prop) (k1 : Prop) : Nat → List UInt8 → Int → Prop
  | 0 => fun _ _ => False
  | n + 1 => zcq.l4.step (zcq.l4 k0 k1 n) k0 k1
def zcq.l4.entry : yao := ⟨LV.mk 0 [(0, 0)] 4 0 false, 0, 25, fun vs H K => match vs, H with
  | [EV.str x0, EV.int .i64 x1], [] => ∃ n, zcq.l4 (fun y0 => K .ret [EV.int .i64 y0] []) (K (.exit 0) [] []) n x0 x1
  | _, _ => False⟩
def zcq.d (a0 : List UInt8) (K : Int → Prop) : Prop :=
  zcr a0 fun y0 => br (!y0) (K 0) (∃ n, zcq.l4 (fun y0 => K y0) (K 0) n a0 0)
noncomputable def zcq := shut zcq.d
theorem zcq.is : zcq = zcq.d := shut_is _
def zcs.l11.step (again : List UInt8 → Int → Bool → Int → Nat → Nat → Int → Nat → (Nat → Int) → Prop) (k0 : Bool → Nat → Nat → Nat → (Nat → Int) → Prop) (x0 : List UInt8) (x1 : Int) (x2 : Bool) (x3 : Int) (x4 : Nat) (x5 : Nat) (x6 : Int) (x7 : Nat) (x8 : Nat → Int) : Prop :=
  br (ltI x6 x3) (zct x0 (yaj .i64 x6 (yaG .i64 x1 8)) fun y0 => zct x0 (yaj .i64 (yaj .i64 x6 (yaG .i64 x1 8)) 1) fun y0_1 => gd (!ltI (cvI .u64 (ycg .i64 x1 8)) 0) (gd (leI 0 x6 && ltI x6 ↑x4) (again x0 x1 x2 x3 x4 x5 (yaj .i64 x6 1) x7 (upd x8 (Int.toNat x6) (cvI .u8 (yaP .i64 (orI .i64 y0 (ybD .i64 y0_1 8)) (cvI .u64 (ycg .i64 x1 8)))))))) (k0 x2 x4 x5 x7 x8)
def zcs.l11 (k0 : Bool → Nat → Nat → Nat → (Nat → Int) → Prop) : Nat → List UInt8 → Int → Bool → Int → Nat → Nat → Int → Nat → (Nat → Int) → Prop
  | 0 => fun _ _ _ _ _ _ _ _ _ => False
  | n + 1 => zcs.l11.step (zcs.l11 k0 n) k0
def zcs.l11.entry : yao := ⟨LV.mk 640 [(0, 640)] 112 0 false, 0, 65, fun vs H K => match vs, H with
  | [EV.str x0, EV.int .i64 x1, EV.bool x2, EV.int .i64 x3, EV.slice 0 0 x4 (some x5) 1, EV.int .i64 x6], [some (EV.arr .u8 x7 x8)] => ∃ n, zcs.l11 (fun y0 y1 y2 y3 y4 => K (.exit 0) [EV.bool y0, EV.slice 0 0 y1 (some y2) 1] [some (EV.arr .u8 y3 y4)]) n x0 x1 x2 x3 x4 x5 x6 x7 x8
  | _, _ => False⟩
def zcs.d (a0 : List UInt8) (a1 : Int) (K : List UInt8 → Bool → Int → Prop) : Prop :=
  br (ltI a1 0) (K [] false 2) (br (eqS a0 []) (K [] false 0) (zcq a0 fun y0 => br (leI (ybY .i64 8 ↑(List.length a0)) a1) (K [] (ltI y0 a1) 0) (gd (leI 0 (yan .i64 (↑(List.length a0)) (yaG .i64 a1 8)) && (leI (yan .i64 (↑(List.length a0)) (yaG .i64 a1 8)) (yan .i64 (↑(List.length a0)) (yaG .i64 a1 8)) && leI (yan .i64 (↑(List.length a0)) (yaG .i64 a1 8)) 1099511627776)) (∃ n, zcs.l11 (fun y0 y1 y2 y3 y4 => zcw y1 y4 fun y0_1 => K y0_1 y0 0) n a0 a1 (ltI y0 a1) (yan .i64 (↑(List.length a0)) (yaG .i64 a1 8)) (Int.toNat (yan .i64 (↑(List.length a0)) (yaG .i64 a1 8))) (Int.toNat (yan .i64 (↑(List.length a0)) (yaG .i64 a1 8))) 0 (Int.toNat (yan .i64 (↑(List.length a0)) (yaG .i64 a1 8))) fun x => 0))))
noncomputable def zcs := shut zcs.d
theorem zcs.is : zcs = zcs.d := shut_is _
def zcu.d (a0 : List UInt8) (a1 : Int) (K : Int → Prop) : Prop :=
  zct a0 (yaG .i64 a1 8) fun y0 => gd (!ltI (cvI .u64 (ycg .i64 a1 8)) 0) (K (ycp .i64 (yaP .i64 y0 (cvI .u64 (ycg .i64 a1 8))) 1))
noncomputable def zcu := shut zcu.d
theorem zcu.is : zcu = zcu.d := shut_is _
def zcv.l4.step (again : List UInt8 → Nat → Nat → Int → Int → Nat → (Nat → Int) → Prop) (k0 : Nat → Nat → Nat → (Nat → Int) → Prop) (x0 : List UInt8) (x1 : Nat) (x2 : Nat) (x3 : Int) (x4 : Int) (x5 : Nat) (x6 : Nat → Int) : Prop :=
  br (leI x4 ↑(List.length x0)) (zct x0 x4 fun y0 => gd (leI 0 x4 && ltI x4 ↑x1) (again x0 x1 x2 (yaP .i64 (yaj .i64 x3 (ybY .i64 2 y0)) 8) (yaj .i64 x4 1) x5 (upd x6 (Int.toNat x4) (cvI .u8 (yaj .i64 x3 (ybY .i64 2 y0)))))) (k0 x1 x2 x5 x6)
def zcv.l4 (k0 : Nat → Nat → Nat → (Nat → Int) → Prop) : Nat → List UInt8 → Nat → Nat → Int → Int → Nat → (Nat → Int) → Prop
  | 0 => fun _ _ _ _ _ _ _ => False
  | n + 1 => zcv.l4.step (zcv.l4 k0 n) k0
def zcv.l4.entry : yao := ⟨LV.mk 32 [(0, 32)] 16 0 false, 0, 34, fun vs H K => match vs, H with
  | [EV.str x0, EV.slice 0 0 x1 (some x2) 1, EV.int .i64 x3, EV.int .i64 x4], [some (EV.arr .u8 x5 x6)] => ∃ n, zcv.l4 (fun y0 y1 y2 y3 => K (.exit 0) [EV.slice 0 0 y0 (some y1) 1] [some (EV.arr .u8 y2 y3)]) n x0 x1 x2 x3 x4 x5 x6
  | _, _ => False⟩
def zcv.d (a0 : List UInt8) (a1 : Int) (K : List UInt8 → Prop) : Prop :=
  gd (leI 0 (yaj .i64 (↑(List.length a0)) 1) && (leI (yaj .i64 (↑(List.length a0)) 1) (yaj .i64 (↑(List.length a0)) 1) && leI (yaj .i64 (↑(List.length a0)) 1) 1099511627776)) (∃ n, zcv.l4 (fun y0 y1 y2 y3 => zcw y0 y3 fun y0 => K y0) n a0 (Int.toNat (yaj .i64 (↑(List.length a0)) 1)) (Int.toNat (yaj .i64 (↑(List.length a0)) 1)) a1 0 (Int.toNat (yaj .i64 (↑(List.length a0)) 1)) fun x => 0)
noncomputable def zcv := shut zcv.d
theorem zcv.is : zcv = zcv.d := shut_is _
def zcx.l4.step (again : List UInt8 → List UInt8 → Nat → Nat → Int → Int → Nat → (Nat → Int) → Prop) (k0 : Nat → Nat → Nat → (Nat → Int) → Prop) (x0 : List UInt8) (x1 : List UInt8) (x2 : Nat) (x3 : Nat) (x4 : Int) (x5 : Int) (x6 : Nat) (x7 : Nat → Int) : Prop :=
  br (ltI x5 ↑(List.length x0)) (zct x0 x5 fun y0 => zct x1 x5 fun y0_1 => gd (leI 0 x5 && ltI x5 ↑x2) (br (ltI (yan .i64 (yan .i64 y0 y0_1) x4) 0) (again x0 x1 x2 x3 1 (yaj .i64 x5 1) x6 (upd x7 (Int.toNat x5) (cvI .u8 (yan .i64 (yan .i64 y0 y0_1) x4)))) (again x0 x1 x2 x3 0 (yaj .i64 x5 1) x6 (upd x7 (Int.toNat x5) (cvI .u8 (yan .i64 (yan .i64 y0 y0_1) x4)))))) (k0 x2 x3 x6 x7)
def zcx.l4 (k0 : Nat → Nat → Nat → (Nat → Int) → Prop) : Nat → List UInt8 → List UInt8 → Nat → Nat → Int → Int → Nat → (Nat → Int) → Prop
  | 0 => fun _ _ _ _ _ _ _ _ => False
  | n + 1 => zcx.l4.step (zcx.l4 k0 n) k0
def zcx.l4.entry : yao := ⟨LV.mk 32 [(0, 32)] 16 0 false, 0, 35, fun vs H K => match vs, H with
  | [EV.str x0, EV.str x1, EV.slice 0 0 x2 (some x3) 1, EV.int .i64 x4, EV.int .i64 x5], [some (EV.arr .u8 x6 x7)] => ∃ n, zcx.l4 (fun y0 y1 y2 y3 => K (.exit 0) [EV.slice 0 0 y0 (some y1) 1] [some (EV.arr .u8 y2 y3)]) n x0 x1 x2 x3 x4 x5 x6 x7
  | _, _ => False⟩
def zcx.d (a0 : List UInt8) (a1 : List UInt8) (K : List UInt8 → Prop) : Prop :=
  gd (leI 0 ↑(List.length a0) && (leI ↑(List.length a0) ↑(List.length a0) && leI (↑(List.length a0)) 1099511627776)) (∃ n, zcx.l4 (fun y0 y1 y2 y3 => zcw y0 y3 fun y0 => K y0) n a0 a1 (Int.toNat ↑(List.length a0)) (Int.toNat ↑(List.length a0)) 0 0 (Int.toNat ↑(List.length a0)) fun x => 0)
noncomputable def zcx := shut zcx.d
theorem zcx.is : zcx = zcx.d := shut_is _
def zcn.l10.step (again : List UInt8 → List UInt8 → List UInt8 → Nat → Nat → Int → Nat → (Nat → Int) → Prop) (k0 : List UInt8 → Nat → Nat → Nat → (Nat → Int) → Prop) (x0 : List UInt8) (x1 : List UInt8) (x2 : List UInt8) (x3 : Nat) (x4 : Nat) (x5 : Int) (x6 : Nat) (x7 : Nat → Int) : Prop :=
  br (leI 0 x5) (zcu x0 x5 fun y0 => zcv x2 y0 fun y0 => zcm y0 x1 fun y0_1 => br (leI 0 y0_1) (zcx y0 x1 fun y0 => gd (leI 0 (yaG .i64 x5 8) && ltI (yaG .i64 x5 8) ↑x3) (gd (!ltI (cvI .u64 (ycg .i64 x5 8)) 0) (gd (leI 0 (yaG .i64 x5 8) && ltI (yaG .i64 x5 8) ↑x3) (again x0 x1 y0 x3 x4 (yan .i64 x5 1) x6 (upd x7 (Int.toNat (yaG .i64 x5 8)) (orI .u8 (x7 (Int.toNat (yaG .i64 x5 8))) (ybD .u8 1 (cvI .u64 (ycg .i64 x5 8))))))))) (again x0 x1 y0 x3 x4 (yan .i64 x5 1) x6 x7)) (k0 x2 x3 x4 x6 x7)
def zcn.l10 (k0 : List UInt8 → Nat → Nat → Nat → (Nat → Int) → Prop) : Nat → List UInt8 → List UInt8 → List UInt8 → Nat → Nat → Int → Nat → (Nat → Int) → Prop
  | 0 => fun _ _ _ _ _ _ _ _ => False
  | n + 1 => zcn.l10.step (zcn.l10 k0 n) k0
def zcn.l10.entry : yao := ⟨LV.mk 4608 [(0, 4608)] 112 0 false, 0, 76, fun vs H K => match vs, H with
  | [EV.str x0, EV.str x1, EV.str x2, EV.slice 0 0 x3 (some x4) 1, EV.int .i64 x5], [some (EV.arr .u8 x6 x7)] => ∃ n, zcn.l10 (fun y0 y1 y2 y3 y4 => K (.exit 0) [EV.str y0, EV.slice 0 0 y1 (some y2) 1] [some (EV.arr .u8 y3 y4)]) n x0 x1 x2 x3 x4 x5 x6 x7
  | _, _ => False⟩
def zcn.d (a0 : List UInt8) (a1 : List UInt8) (K : List UInt8 → List UInt8 → Int → Prop) : Prop :=
  br (eqS a1 []) (K [] [] 2) (zcm a0 a1 fun y0 => br (ltI y0 0) (K [] a0 0) (zcp a0 fun y0 => zcp a1 fun y0_1 => zcs a0 (yan .i64 y0 (yan .i64 y0_1 1)) fun y0_2 y1 y2 => gd (leI 0 (yaj .i64 (↑(List.length a0)) 1) && (leI (yaj .i64 (↑(List.length a0)) 1) (yaj .i64 (↑(List.length a0)) 1) && leI (yaj .i64 (↑(List.length a0)) 1) 1099511627776)) (∃ n, zcn.l10 (fun y0 y1 y2 y3 y4 => zcw y1 y4 fun y0_3 => K y0_3 y0 0) n a0 a1 y0_2 (Int.toNat (yaj .i64 (↑(List.length a0)) 1)) (Int.toNat (yaj .i64 (↑(List.length a0)) 1)) (yan .i64 (yan .i64 y0 (yan .i64 y0_1 1)) 1) (Int.toNat (yaj .i64 (↑(List.length a0)) 1)) fun x => 0)))
noncomputable def zcn := shut zcn.d
theorem zcn.is : zcn = zcn.d := shut_is _
def zco.l1.step (again : List UInt8 → List UInt8 → Prop) (k0 : List UInt8 → Prop) (x0 : List UInt8) (x1 : List UInt8) : Prop :=
  br (!eqS x1 []) (zcn x0 x1 fun y0 y1 y2 => again x1 y1) (k0 x0)
def zco.l1 (k0 : List UInt8 → Prop) : Nat → List UInt8 → List UInt8 → Prop
  | 0 => fun _ _ => False
  | n + 1 => zco.l1.step (zco.l1 k0 n) k0
def zco.l1.entry : yao := ⟨LV.mk 1 [(0, 1)] 16 0 false, 0, 20, fun vs H K => match vs, H with
  | [EV.str x0, EV.str x1], [] => ∃ n, zco.l1 (fun y0 => K (.exit 0) [EV.str y0] []) n x0 x1
  | _, _ => False⟩
def zco.d (a0 : List UInt8) (a1 : List UInt8) (K : List UInt8 → Prop) : Prop :=
  ∃ n, zco.l1 (fun y0 => K y0) n a0 a1
noncomputable def zco := shut zco.d
theorem zco.is : zco = zco.d := shut_is _
end Go.Ev.S

/- The functions as the evaluator has them: what each comes to. -/
set_option maxRecDepth 100000
set_option linter.unusedVariables false
set_option linter.unusedSimpArgs false
namespace Go.Ev.S
open Go Go.Ev
def zcz.d (K : Bool → List UInt8 → List UInt8 → Int → Prop) : Prop :=
  K false [] [1] 0
noncomputable def zcz := shut zcz.d
theorem zcz.is : zcz = zcz.d := shut_is _
def zda.d (a0 : List UInt8) (K : Bool → Prop) : Prop :=
  br (!eqS a0 []) (gd (leI 0 (yan .i64 (↑(List.length a0)) 1) && ltI (yan .i64 (↑(List.length a0)) 1) ↑(List.length a0)) (K (eqI (ycp .u8 (ybj a0 (Int.toNat (yan .i64 (↑(List.length a0)) 1))) 1) 1))) (K false)
noncomputable def zda := shut zda.d
theorem zda.is : zda = zda.d := shut_is _
def zcy.d (a0_0 : Bool) (a0_1 : List UInt8) (a0_2 : List UInt8) (a0_3 : Int) (K : Bool → Prop) : Prop :=
  zcr a0_1 fun y0 => br (!y0) (K false) (zcr a0_2 fun y0 => br (!y0) (K false) (zda a0_2 fun y0 => br (!y0) (K false) (br (ltI a0_3 (-1048576)) (K false) (br (ltI 1048576 a0_3) (K false) (br (eqS a0_1 []) (zcz fun y0 y1 y2 y3 => K (ybf a0_0 y0 && (eqS a0_1 y1 && (eqS a0_2 y2 && eqI a0_3 y3)))) (zda a0_1 fun y0 => br y0 (zco a0_1 a0_2 fun y0 => K (eqS y0 [1])) (K false)))))))
noncomputable def zcy := shut zcy.d
theorem zcy.is : zcy = zcy.d := shut_is _
end Go.Ev.S

/- The functions as the evaluator has them: what each comes to. -/
set_option maxRecDepth 100000
set_option linter.unusedVariables false
set_option linter.unusedSimpArgs false
namespace Go.Ev.S
open Go Go.Ev
def zdb.d (a0 : Int) (K : Bool → Prop) : Prop :=
  K (leI a0 3)
noncomputable def zdb := shut zdb.d
theorem zdb.is : zdb = zdb.d := shut_is _
def zdc.d (a0 : Int) (K : Bool → Prop) : Prop :=
  K (leI a0 4)
noncomputable def zdc := shut zdc.d
theorem zdc.is : zdc = zdc.d := shut_is _
end Go.Ev.S

/- The functions as the evaluator has them: what each comes to. -/
set_option maxRecDepth 100000
set_option linter.unusedVariables false
set_option linter.unusedSimpArgs false
namespace Go.Ev.S
open Go Go.Ev
end Go.Ev.S

/- The functions as the evaluator has them: what each comes to. -/
set_option maxRecDepth 100000
set_option linter.unusedVariables false
set_option linter.unusedSimpArgs false
namespace Go.Ev.S
open Go Go.Ev
end Go.Ev.S

/- The functions as the evaluator has them: what each comes to. -/
set_option maxRecDepth 100000
set_option linter.unusedVariables false
set_option linter.unusedSimpArgs false
namespace Go.Ev.S
open Go Go.Ev
def zdf.d (a0 : Int) (a1 : Int) (a2_0 : Bool) (a2_1 : List UInt8) (a2_2 : List UInt8) (a2_3 : Int) (a3 : Bool) (K : Int → Prop) : Prop :=
  zdn a0 fun y0 => br (!eqI y0 0) (K 2) (zdo a1 fun y0 => br (!eqI y0 0) (K 2) (zae a2_0 a2_1 a2_2 a2_3 fun y0 => br (!eqI y0 0) (K 2) (br a3 (br a2_0 (K 2) (br (ltI 8192 ↑(List.length a2_1)) (K 4) (br (ltI 8192 ↑(List.length a2_2)) (K 4) (K 0)))) (br (ltI 8192 ↑(List.length a2_1)) (K 4) (br (ltI 8192 ↑(List.length a2_2)) (K 4) (K 0))))))
noncomputable def zdf := shut zdf.d
theorem zdf.is : zdf = zdf.d := shut_is _
def zdg.d (a0 : Int) (a1 : Int) (a2 : Bool) (K : Int → Int → Int → Int → Prop) : Prop :=
  zdt a0 a2 fun y0 y1 => br (eqI a1 1) (zds a0 a2 fun y0 y1 => K y0 y1 5 0) (br (eqI a1 2) (br (!a2) (zds a0 a2 fun y0 y1 => K y0 y1 5 0) (br (eqI a1 3) (br a2 (zds a0 a2 fun y0 y1 => K y0 y1 5 0) (K y0 y1 5 0)) (K y0 y1 5 0))) (br (eqI a1 3) (br a2 (zds a0 a2 fun y0 y1 => K y0 y1 5 0) (K y0 y1 5 0)) (K y0 y1 5 0)))
noncomputable def zdg := shut zdg.d
theorem zdg.is : zdg = zdg.d := shut_is _
def zdj.d (a0_0_0 : Bool) (a0_0_1 : List UInt8) (a0_0_2 : List UInt8) (a0_0_3 : Int) (a0_1 : Bool) (a1 : Int) (K : List UInt8 → Bool → Prop) : Prop :=
  br (!a0_1) (zag a0_0_0 a0_0_1 a0_0_2 a0_0_3 a1 fun y0 y1 y2 => K y0 y1) (zag a0_0_0 a0_0_1 a0_0_2 a0_0_3 (ybY .i64 2 a1) fun y0 y1 y2 => zbq y0 fun y0 y1_1 y2 => br y1 (K y0 (eqS y1_1 [])) (K y0 false))
noncomputable def zdj := shut zdj.d
theorem zdj.is : zdj = zdj.d := shut_is _
def zdk.d (a0_0_0 : Bool) (a0_0_1 : List UInt8) (a0_0_2 : List UInt8) (a0_0_3 : Int) (a0_1 : Bool) (a1 : Int) (a2 : Bool) (a3 : Int) (K : List UInt8 → Bool → Prop) : Prop :=
  zdj a0_0_0 a0_0_1 a0_0_2 a0_0_3 a0_1 a3 fun y0 y1 => br y1 (K y0 true) (zdj a0_0_0 a0_0_1 a0_0_2 a0_0_3 a0_1 (yan .i64 a3 1) fun y0_1 y1 => br (!eqS y0 []) (zbm y0 fun y0_2 => br (!eqS y0_1 []) (zbm y0_1 fun y0_3 => br (eqI a1 2) (br (eqI a1 2) (br (ybf a2 (eqI a1 2)) (zbf y0 [1] fun y0 y1 => K y0 false) (K y0 false)) (br (eqI a1 0) (br (eqI y0_3 0) (br (!y1) (zbf y0 [1] fun y0 y1 => K y0 false) (br (eqI y0_2 0) (zbf y0 [1] fun y0 y1 => K y0 false) (K y0 false))) (K y0 false)) (br (eqI a1 4) (br (eqI y0_3 0) (zbf y0 [1] fun y0 y1 => K y0 false) (K y0 false)) (K y0 false)))) (br (eqI a1 3) (br (ybf a2 (eqI a1 2)) (zbf y0 [1] fun y0 y1 => K y0 false) (K y0 false)) (br (eqI a1 0) (br (eqI y0_3 0) (br (!y1) (zbf y0 [1] fun y0 y1 => K y0 false) (br (eqI y0_2 0) (zbf y0 [1] fun y0 y1 => K y0 false) (K y0 false))) (K y0 false)) (br (eqI a1 4) (br (eqI y0_3 0) (zbf y0 [1] fun y0 y1 => K y0 false) (K y0 false)) (K y0 false))))) (br (eqI a1 2) (br (eqI a1 2) (br (ybf a2 (eqI a1 2)) (zbf y0 [1] fun y0 y1 => K y0 false) (K y0 false)) (br (eqI a1 0) (K y0 false) (br (eqI a1 4) (K y0 false) (K y0 false)))) (br (eqI a1 3) (br (ybf a2 (eqI a1 2)) (zbf y0 [1] fun y0 y1 => K y0 false) (K y0 false)) (br (eqI a1 0) (K y0 false) (br (eqI a1 4) (K y0 false) (K y0 false)))))) (br (!eqS y0_1 []) (zbm y0_1 fun y0_2 => br (eqI a1 2) (br (eqI a1 2) (br (ybf a2 (eqI a1 2)) (zbf y0 [1] fun y0 y1 => K y0 false) (K y0 false)) (br (eqI a1 0) (br (eqI y0_2 0) (br (!y1) (zbf y0 [1] fun y0 y1 => K y0 false) (K y0 false)) (K y0 false)) (br (eqI a1 4) (br (eqI y0_2 0) (zbf y0 [1] fun y0 y1 => K y0 false) (K y0 false)) (K y0 false)))) (br (eqI a1 3) (br (ybf a2 (eqI a1 2)) (zbf y0 [1] fun y0 y1 => K y0 false) (K y0 false)) (br (eqI a1 0) (br (eqI y0_2 0) (br (!y1) (zbf y0 [1] fun y0 y1 => K y0 false) (K y0 false)) (K y0 false)) (br (eqI a1 4) (br (eqI y0_2 0) (zbf y0 [1] fun y0 y1 => K y0 false) (K y0 false)) (K y0 false))))) (br (eqI a1 2) (br (eqI a1 2) (br (ybf a2 (eqI a1 2)) (zbf y0 [1] fun y0 y1 => K y0 false) (K y0 false)) (br (eqI a1 0) (K y0 false) (br (eqI a1 4) (K y0 false) (K y0 false)))) (br (eqI a1 3) (br (ybf a2 (eqI a1 2)) (zbf y0 [1] fun y0 y1 => K y0 false) (K y0 false)) (br (eqI a1 0) (K y0 false) (br (eqI a1 4) (K y0 false) (K y0 false)))))))
noncomputable def zdk := shut zdk.d
theorem zdk.is : zdk = zdk.d := shut_is _
def zdm.d (a0_0_0 : Bool) (a0_0_1 : List UInt8) (a0_0_2 : List UInt8) (a0_0_3 : Int) (a0_1 : Bool) (K : Int → Prop) : Prop :=
  zal a0_0_0 a0_0_1 a0_0_2 a0_0_3 fun y0 y1 => br a0_1 (K (yaP .i64 y0 1)) (K y0)
noncomputable def zdm := shut zdm.d
theorem zdm.is : zdm = zdm.d := shut_is _
def zdl.d (a0_0_0 : Bool) (a0_0_1 : List UInt8) (a0_0_2 : List UInt8) (a0_0_3 : Int) (a0_1 : Bool) (a1 : Int) (a2 : Int) (a3 : Bool) (K : Bool → Prop) : Prop :=
  zdm a0_0_0 a0_0_1 a0_0_2 a0_0_3 a0_1 fun y0 => zdu a1 fun y0_1 => zdq a1 fun y0_2 => br (!eqI y0 (yan .i64 y0_2 1)) (zdq a1 fun y0_3 => K (ltI y0 y0_3)) (zdk a0_0_0 a0_0_1 a0_0_2 a0_0_3 a0_1 a2 a3 (yaj .i64 (yan .i64 y0 y0_1) 1) fun y0 y1 => zbl y0 fun y0 => K (leI y0 y0_1))
noncomputable def zdl := shut zdl.d
theorem zdl.is : zdl = zdl.d := shut_is _
def zdi.d (a0_0_0 : Bool) (a0_0_1 : List UInt8) (a0_0_2 : List UInt8) (a0_0_3 : Int) (a0_1 : Bool) (a1 : Int) (a2 : Int) (a3 : Bool) (K : Int → Int → Int → Int → Prop) : Prop :=
  zdm a0_0_0 a0_0_1 a0_0_2 a0_0_3 a0_1 fun y0 => zdp a1 fun y0_1 => br (ltI y0_1 y0) (zdg a1 a2 a3 fun y0 y1 y2 y3 => K y0 y1 y2 y3) (zdq a1 fun y0_2 => zdu a1 fun y0_3 => zdk a0_0_0 a0_0_1 a0_0_2 a0_0_3 a0_1 a2 a3 (yaj .i64 (yan .i64 (yia y0 y0_2) y0_3) 1) fun y0_4 y1 => zbl y0_4 fun y0_5 => zdp a1 fun y0_6 => br (ltI y0_6 (yaj .i64 (yan .i64 y0_5 1) (yaj .i64 (yan .i64 (yia y0 y0_2) y0_3) 1))) (zdg a1 a2 a3 fun y0 y1 y2 y3 => K y0 y1 y2 y3) (zah a3 y0_4 [1] (yaj .i64 (yan .i64 (yia y0 y0_2) y0_3) 1) fun y0 y1_1 y2 y3 y4 => zau a1 y0 y1_1 y2 y3 fun y0 y1_2 y2 y3 => br (eqS y0_4 []) (zdw a1 a3 fun y0 y1_3 => br y1 (K y0 y1_3 0 0) (zdl a0_0_0 a0_0_1 a0_0_2 a0_0_3 a0_1 a1 a2 a3 fun y0_7 => br y0_7 (K y0 y1_3 3 0) (K y0 y1_3 1 0))) (br y1 (K y0 y1_2 0 0) (zdl a0_0_0 a0_0_1 a0_0_2 a0_0_3 a0_1 a1 a2 a3 fun y0_7 => br y0_7 (K y0 y1_2 3 0) (K y0 y1_2 1 0)))))
noncomputable def zdi := shut zdi.d
theorem zdi.is : zdi = zdi.d := shut_is _
def zde.d (a0 : Int) (a1 : Int) (a2_0 : Bool) (a2_1 : List UInt8) (a2_2 : List UInt8) (a2_3 : Int) (K : Int → Int → Int → Int → Prop) : Prop :=
  zdf a0 a1 a2_0 a2_1 a2_2 a2_3 false fun y0 => br (!eqI y0 0) (K 0 0 0 y0) (br (eqS a2_1 []) (K 0 0 0 y0) (zac a2_0 a2_1 a2_2 a2_3 fun y0 y1 y2 y3 => zdi y0 y1 y2 y3 false a0 a1 a2_0 fun y0 y1 y2 y3 => K y0 y1 y2 y3))
noncomputable def zde := shut zde.d
theorem zde.is : zde = zde.d := shut_is _
def zdh.d (a0 : Int) (a1_0 : Int) (a1_1 : Int) (K : Int → Int → Prop) : Prop :=
  zdw a0 true fun y0 y1 => br (eqI a1_0 y0 && eqI a1_1 y1) (K 0 0) (K a1_0 a1_1)
noncomputable def zdh := shut zdh.d
theorem zdh.is : zdh = zdh.d := shut_is _
def zdd.d (a0 : Int) (a1_0 : Bool) (a1_1 : List UInt8) (a1_2 : List UInt8) (a1_3 : Int) (K : Int → Int → Int → Int → Int → Prop) : Prop :=
  zde a0 2 a1_0 a1_1 a1_2 a1_3 fun y0 y1 y2 y3 => br (!eqI y3 0) (K 0 0 0 0 y3) (zde a0 3 a1_0 a1_1 a1_2 a1_3 fun y0_1 y1_1 y2 y3 => zdh a0 y0 y1 fun y0 y1 => zdh a0 y0_1 y1_1 fun y0_2 y1_2 => K y0 y1 y0_2 y1_2 0)
noncomputable def zdd := shut zdd.d
theorem zdd.is : zdd = zdd.d := shut_is _
end Go.Ev.S

/- The functions as the evaluator has them: what each comes to. -/
set_option maxRecDepth 100000
set_option linter.unusedVariables false
set_option linter.unusedSimpArgs false
namespace Go.Ev.S
open Go Go.Ev
def zbc.d (K : Bool → Prop) : Prop :=
  zde 2 0 false [1] [3] 0 fun y0 y1 y2 y3 => zde 2 3 false [1] [3] 0 fun y0_1 y1_1 y2_1 y3_1 => br (eqI y0 0 && eqI y1 13653) (br (eqI y2 1) (br (eqI y3 0) (br (eqI y0_1 0 && eqI y1_1 13654) (br (eqI y2_1 1) (K (eqI y3_1 0)) (K false)) (K false)) (K false)) (K false)) (K false)
noncomputable def zbc := shut zbc.d
theorem zbc.is : zbc = zbc.d := shut_is _
def zbe.d (a0 : Int) (a1_0 : Int) (a1_1 : Int) (K : Bool → List UInt8 → List UInt8 → Int → Bool → Prop) : Prop :=
  zax a0 a1_0 a1_1 fun y0 y1 y2 y3 y4 => K y0 y1 y2 y3 (eqI y4 0)
noncomputable def zbe := shut zbe.d
theorem zbe.is : zbe = zbe.d := shut_is _
def zbd.d (a0_0 : Bool) (a0_1 : List UInt8) (a0_2 : List UInt8) (a0_3 : Int) (K : Bool → Prop) : Prop :=
  br (leI (↑(List.length a0_1)) 60) (K (leI (↑(List.length a0_2)) 60)) (K false)
noncomputable def zbd := shut zbd.d
theorem zbd.is : zbd = zbd.d := shut_is _
def zbb.l29.step (again : Int → Int → Bool → List UInt8 → List UInt8 → Int → Int → Int → Int → Int → Bool → List UInt8 → List UInt8 → Int → Prop) (k0 : Bool → Prop) (k1 : Prop) (x0 : Int) (x1 : Int) (x2 : Bool) (x3 : List UInt8) (x4 : List UInt8) (x5 : Int) (x6 : Int) (x7 : Int) (x8 : Int) (x9 : Int) (x10 : Bool) (x11 : List UInt8) (x12 : List UInt8) (x13 : Int) : Prop :=
  br (ltI x1 2) (br (eqI x1 1) (zbe x0 x8 x9 fun y0 y1 y2 y3 y4 => br (!y4) (again x0 (yaj .i64 x1 1) x2 x3 x4 x5 x6 x7 x8 x9 x10 x11 x12 x13) (zak x2 x3 x4 x5 y0 y1 y2 y3 fun y0 y1 y2 y3 y4 => zac x10 x11 x12 x13 fun y0_1 y1_1 y2_1 y3_1 => zac y0 y1 y2 y3 fun y0 y1 y2 y3 => zaf y0_1 y1_1 y2_1 y3_1 y0 y1 y2 y3 fun y0 y1 => br (eqI y1 0) (br (ltI 0 y0) (k0 false) (again x0 (yaj .i64 x1 1) x2 x3 x4 x5 x6 x7 x8 x9 x10 x11 x12 x13)) (again x0 (yaj .i64 x1 1) x2 x3 x4 x5 x6 x7 x8 x9 x10 x11 x12 x13))) (zbe x0 x6 x7 fun y0 y1 y2 y3 y4 => br (!y4) (again x0 (yaj .i64 x1 1) x2 x3 x4 x5 x6 x7 x8 x9 x10 x11 x12 x13) (zak x2 x3 x4 x5 y0 y1 y2 y3 fun y0 y1 y2 y3 y4 => zac x10 x11 x12 x13 fun y0_1 y1_1 y2_1 y3_1 => zac y0 y1 y2 y3 fun y0 y1 y2 y3 => zaf y0_1 y1_1 y2_1 y3_1 y0 y1 y2 y3 fun y0 y1 => br (eqI y1 0) (br (ltI 0 y0) (k0 false) (again x0 (yaj .i64 x1 1) x2 x3 x4 x5 x6 x7 x8 x9 x10 x11 x12 x13)) (again x0 (yaj .i64 x1 1) x2 x3 x4 x5 x6 x7 x8 x9 x10 x11 x12 x13)))) k1
def zbb.l29 (k0 : Bool → Prop) (k1 : Prop) : Nat → Int → Int → Bool → List UInt8 → List UInt8 → Int → Int → Int → Int → Int → Bool → List UInt8 → List UInt8 → Int → Prop
  | 0 => fun _ _ _ _ _ _ _ _ _ _ _ _ _ _ => False
  | n + 1 => zbb.l29.step (zbb.l29 k0 k1 n) k0 k1
def zbb.l29.entry : yao := ⟨LV.mk 0 [(1, 0)] 64 0 false, 0, 220, fun vs H K => match vs, H with
  | [EV.int .u8 x0, EV.ptr 0 [], EV.ptr 1 [], EV.ptr 2 [], EV.ptr 3 [], EV.int .i64 x1], [some (EV.agg [EV.bool x2, EV.str x3, EV.str x4, EV.int .i64 x5]), some (EV.agg [EV.int .u64 x6, EV.int .u64 x7]), some (EV.agg [EV.int .u64 x8, EV.int .u64 x9]), some (EV.agg [EV.bool x10, EV.str x11, EV.str x12, EV.int .i64 x13])] => ∃ n, zbb.l29 (fun y0 => K .ret [EV.bool y0] []) (K (.exit 1) [] []) n x0 x1 x2 x3 x4 x5 x6 x7 x8 x9 x10 x11 x12 x13
  | _, _ => False⟩
def zbb.d (a0 : Int) (a1 : Int) (a2_0 : Bool) (a2_1 : List UInt8) (a2_2 : List UInt8) (a2_3 : Int) (K : Bool → Prop) : Prop :=
  zbd a2_0 a2_1 a2_2 a2_3 fun y0 => br (!y0) (zbc fun y0 => K y0) (zcy a2_0 a2_1 a2_2 a2_3 fun y0 => br (!y0) (zbc fun y0 => K y0) (zdb a0 fun y0 => br (!y0) (zbc fun y0 => K y0) (zdc a1 fun y0 => br (!y0) (zbc fun y0 => K y0) (zaj a2_0 a2_1 a2_2 a2_3 fun y0 => br (eqI y0 0) (zbc fun y0 => K y0) (zde a0 a1 a2_0 a2_1 a2_2 a2_3 fun y0 y1 y2 y3 => zdd a0 a2_0 a2_1 a2_2 a2_3 fun y0_1 y1_1 y2_1 y3_1 y4 => br (!eqI y3 0) (K false) (br (!eqI y4 0) (K false) (zat a0 y0 y1 fun y0_2 y1_2 => br (eqI y0_2 3) (zav a0 y0 y1 fun y0_3 => zaj a2_0 a2_1 a2_2 a2_3 fun y0_4 => br (!ybf y0_3 (ltI y0_4 0)) (K false) (br (!(eqI 0 y0_1 && eqI 0 y1_1)) (br (!(eqI 0 y2_1 && eqI 0 y3_1)) (K false) (br (!ybf (eqI y2 0) (eqI y0_1 y2_1 && eqI y1_1 y3_1)) (K false) (br (!eqI (ycp .u8 y2 6) 0) (br (eqI (ycp .u8 y2 1) 0) (K false) (br (eqI a1 2) (br (eqI 0 y0_1 && eqI 0 y1_1) (zbc fun y0 => K y0) (K false)) (br (eqI a1 3) (br (eqI 0 y2_1 && eqI 0 y3_1) (zbc fun y0 => K y0) (K false)) (br (eqI a1 1) (zaj a2_0 a2_1 a2_2 a2_3 fun y0 => br (ltI 0 y0) (br (ybf (eqI 0 y0_1 && eqI 0 y1_1) true) (zbc fun y0 => K y0) (K false)) (br (ybf (eqI 0 y0_1 && eqI 0 y1_1) (eqI y0_1 y2_1 && eqI y1_1 y3_1)) (zbc fun y0 => K y0) (K false))) (zbe a0 y0 y1 fun y0 y1 y2_2 y3 y4 => br (!y4) (br (!eqI (ycp .u8 y2 4) 0) (zbc fun y0 => K y0) (K false)) (br (ltI 17000 a2_3) (zbc fun y0 => K y0) (br (ltI a2_3 (-17000)) (zbc fun y0 => K y0) (zak a2_0 a2_1 a2_2 a2_3 y0 y1 y2_2 y3 fun y0 y1 y2 y3 y4 => ∃ n, zbb.l29 (fun y0 => K y0) (zbc fun y0 => K y0) n a0 0 a2_0 a2_1 a2_2 a2_3 y0_1 y1_1 y2_1 y3_1 y0 y1 y2 y3)))))))) (br (eqI a1 2) (br (eqI 0 y0_1 && eqI 0 y1_1) (zbc fun y0 => K y0) (K false)) (br (eqI a1 3) (br (eqI 0 y2_1 && eqI 0 y3_1) (zbc fun y0 => K y0) (K false)) (br (eqI a1 1) (zaj a2_0 a2_1 a2_2 a2_3 fun y0 => br (ltI 0 y0) (br (ybf (eqI 0 y0_1 && eqI 0 y1_1) true) (zbc fun y0 => K y0) (K false)) (br (ybf (eqI 0 y0_1 && eqI 0 y1_1) (eqI y0_1 y2_1 && eqI y1_1 y3_1)) (zbc fun y0 => K y0) (K false))) (zbe a0 y0 y1 fun y0 y1 y2_2 y3 y4 => br (!y4) (br (!eqI (ycp .u8 y2 4) 0) (zbc fun y0 => K y0) (K false)) (br (ltI 17000 a2_3) (zbc fun y0 => K y0) (br (ltI a2_3 (-17000)) (zbc fun y0 => K y0) (zak a2_0 a2_1 a2_2 a2_3 y0 y1 y2_2 y3 fun y0 y1 y2 y3 y4 => ∃ n, zbb.l29 (fun y0 => K y0) (zbc fun y0 => K y0) n a0 0 a2_0 a2_1 a2_2 a2_3 y0_1 y1_1 y2_1 y3_1 y0 y1 y2 y3)))))))))) (br (!ybf (eqI y2 0) (eqI y0_1 y2_1 && eqI y1_1 y3_1)) (K false) (br (!eqI (ycp .u8 y2 6) 0) (br (eqI (ycp .u8 y2 1) 0) (K false) (br (eqI a1 2) (br (eqI 0 y0_1 && eqI 0 y1_1) (zbc fun y0 => K y0) (K false)) (br (eqI a1 3) (br (eqI 0 y2_1 && eqI 0 y3_1) (zbc fun y0 => K y0) (K false)) (br (eqI a1 1) (zaj a2_0 a2_1 a2_2 a2_3 fun y0 => br (ltI 0 y0) (br (ybf (eqI 0 y0_1 && eqI 0 y1_1) true) (zbc fun y0 => K y0) (K false)) (br (ybf (eqI 0 y0_1 && eqI 0 y1_1) (eqI y0_1 y2_1 && eqI y1_1 y3_1)) (zbc fun y0 => K y0) (K false))) (zbe a0 y0 y1 fun y0 y1 y2_2 y3 y4 => br (!y4) (br (!eqI (ycp .u8 y2 4) 0) (zbc fun y0 => K y0) (K false)) (br (ltI 17000 a2_3) (zbc fun y0 => K y0) (br (ltI a2_3 (-17000)) (zbc fun y0 => K y0) (zak a2_0 a2_1 a2_2 a2_3 y0 y1 y2_2 y3 fun y0 y1 y2 y3 y4 => ∃ n, zbb.l29 (fun y0 => K y0) (zbc fun y0 => K y0) n a0 0 a2_0 a2_1 a2_2 a2_3 y0_1 y1_1 y2_1 y3_1 y0 y1 y2 y3)))))))) (br (eqI a1 2) (br (eqI 0 y0_1 && eqI 0 y1_1) (zbc fun y0 => K y0) (K false)) (br (eqI a1 3) (br (eqI 0 y2_1 && eqI 0 y3_1) (zbc fun y0 => K y0) (K false)) (br (eqI a1 1) (zaj a2_0 a2_1 a2_2 a2_3 fun y0 => br (ltI 0 y0) (br (ybf (eqI 0 y0_1 && eqI 0 y1_1) true) (zbc fun y0 => K y0) (K false)) (br (ybf (eqI 0 y0_1 && eqI 0 y1_1) (eqI y0_1 y2_1 && eqI y1_1 y3_1)) (zbc fun y0 => K y0) (K false))) (zbe a0 y0 y1 fun y0 y1 y2_2 y3 y4 => br (!y4) (br (!eqI (ycp .u8 y2 4) 0) (zbc fun y0 => K y0) (K false)) (br (ltI 17000 a2_3) (zbc fun y0 => K y0) (br (ltI a2_3 (-17000)) (zbc fun y0 => K y0) (zak a2_0 a2_1 a2_2 a2_3 y0 y1 y2_2 y3 fun y0 y1 y2 y3 y4 => ∃ n, zbb.l29 (fun y0 => K y0) (zbc fun y0 => K y0) n a0 0 a2_0 a2_1 a2_2 a2_3 y0_1 y1_1 y2_1 y3_1 y0 y1 y2 y3))))))))))) (br (eqI y0_2 4) (zav a0 y0 y1 fun y0_3 => zaj a2_0 a2_1 a2_2 a2_3 fun y0_4 => br (!ybf y0_3 (ltI y0_4 0)) (K false) (br (!(eqI 0 y0_1 && eqI 0 y1_1)) (br (!(eqI 0 y2_1 && eqI 0 y3_1)) (K false) (br (!ybf (eqI y2 0) (eqI y0_1 y2_1 && eqI y1_1 y3_1)) (K false) (br (!eqI (ycp .u8 y2 6) 0) (br (eqI (ycp .u8 y2 1) 0) (K false) (br (eqI a1 2) (br (eqI 0 y0_1 && eqI 0 y1_1) (zbc fun y0 => K y0) (K false)) (br (eqI a1 3) (br (eqI 0 y2_1 && eqI 0 y3_1) (zbc fun y0 => K y0) (K false)) (br (eqI a1 1) (zaj a2_0 a2_1 a2_2 a2_3 fun y0 => br (ltI 0 y0) (br (ybf (eqI 0 y0_1 && eqI 0 y1_1) true) (zbc fun y0 => K y0) (K false)) (br (ybf (eqI 0 y0_1 && eqI 0 y1_1) (eqI y0_1 y2_1 && eqI y1_1 y3_1)) (zbc fun y0 => K y0) (K false))) (zbe a0 y0 y1 fun y0 y1 y2_2 y3 y4 => br (!y4) (br (!eqI (ycp .u8 y2 4) 0) (zbc fun y0 => K y0) (K false)) (br (ltI 17000 a2_3) (zbc fun y0 => K y0) (br (ltI a2_3 (-17000)) (zbc fun y0 => K y0) (zak a2_0 a2_1 a2_2 a2_3 y0 y1 y2_2 y3 fun y0 y1 y2 y3 y4 => ∃ n, zbb.l29 (fun y0 => K y0) (zbc fun y0 => K y0) n a0 0 a2_0 a2_1 a2_2 a2_3 y0_1 y1_1 y2_1 y3_1 y0 y1 y2 y3)))))))) (br (eqI a1 2) (br (eqI 0 y0_1 && eqI 0 y1_1) (zbc fun y0 => K y0) (K false)) (br (eqI a1 3) (br (eqI 0 y2_1 && eqI 0 y3_1) (zbc fun y0 => K y0) (K false)) (br (eqI a1 1) (zaj a2_0 a2_1 a2_2 a2_3 fun y0 => br (ltI 0 y0) (br (ybf (eqI 0 y0_1 && eqI 0 y1_1) true) (zbc fun y0 => K y0) (K false)) (br (ybf (eqI 0 y0_1 && eqI 0 y1_1) (eqI y0_1 y2_1 && eqI y1_1 y3_1)) (zbc fun y0 => K y0) (K false))) (zbe a0 y0 y1 fun y0 y1 y2_2 y3 y4 => br (!y4) (br (!eqI (ycp .u8 y2 4) 0) (zbc fun y0 => K y0) (K false)) (br (ltI 17000 a2_3) (zbc fun y0 => K y0) (br (ltI a2_3 (-17000)) (zbc fun y0 => K y0) (zak a2_0 a2_1 a2_2 a2_3 y0 y1 y2_2 y3 fun y0 y1 y2 y3 y4 => ∃ n, zbb.l29 (fun y0 => K y0) (zbc fun y0 => K y0) n a0 0 a2_0 a2_1 a2_2 a2_3 y0_1 y1_1 y2_1 y3_1 y0 y1 y2 y3)))))))))) (br (!ybf (eqI y2 0) (eqI y0_1 y2_1 && eqI y1_1 y3_1)) (K false) (br (!eqI (ycp .u8 y2 6) 0) (br (eqI (ycp .u8 y2 1) 0) (K false) (br (eqI a1 2) (br (eqI 0 y0_1 && eqI 0 y1_1) (zbc fun y0 => K y0) (K false)) (br (eqI a1 3) (br (eqI 0 y2_1 && eqI 0 y3_1) (zbc fun y0 => K y0) (K false)) (br (eqI a1 1) (zaj a2_0 a2_1 a2_2 a2_3 fun y0 => br (ltI 0 y0) (br (ybf (eqI 0 y0_1 && eqI 0 y1_1) true) (zbc fun y0 => K y0) (K false)) (br (ybf (eqI 0 y0_1 && eqI 0 y1_1) (eqI y0_1 y2_1 && eqI y1_1 y3_1)) (zbc fun y0 => K y0) (K false))) (zbe a0 y0 y1 fun y0 y1 y2_2 y3 y4 => br (!y4) (br (!eqI (ycp .u8 y2 4) 0) (zbc fun y0 => K y0) (K false)) (br (ltI 17000 a2_3) (zbc fun y0 => K y0) (br (ltI a2_3 (-17000)) (zbc fun y0 => K y0) (zak a2_0 a2_1 a2_2 a2_3 y0 y1 y2_2 y3 fun y0 y1 y2 y3 y4 => ∃ n, zbb.l29 (fun y0 => K y0) (zbc fun y0 => K y0) n a0 0 a2_0 a2_1 a2_2 a2_3 y0_1 y1_1 y2_1 y3_1 y0 y1 y2 y3)))))))) (br (eqI a1 2) (br (eqI 0 y0_1 && eqI 0 y1_1) (zbc fun y0 => K y0) (K false)) (br (eqI a1 3) (br (eqI 0 y2_1 && eqI 0 y3_1) (zbc fun y0 => K y0) (K false)) (br (eqI a1 1) (zaj a2_0 a2_1 a2_2 a2_3 fun y0 => br (ltI 0 y0) (br (ybf (eqI 0 y0_1 && eqI 0 y1_1) true) (zbc fun y0 => K y0) (K false)) (br (ybf (eqI 0 y0_1 && eqI 0 y1_1) (eqI y0_1 y2_1 && eqI y1_1 y3_1)) (zbc fun y0 => K y0) (K false))) (zbe a0 y0 y1 fun y0 y1 y2_2 y3 y4 => br (!y4) (br (!eqI (ycp .u8 y2 4) 0) (zbc fun y0 => K y0) (K false)) (br (ltI 17000 a2_3) (zbc fun y0 => K y0) (br (ltI a2_3 (-17000)) (zbc fun y0 => K y0) (zak a2_0 a2_1 a2_2 a2_3 y0 y1 y2_2 y3 fun y0 y1 y2 y3 y4 => ∃ n, zbb.l29 (fun y0 => K y0) (zbc fun y0 => K y0) n a0 0 a2_0 a2_1 a2_2 a2_3 y0_1 y1_1 y2_1 y3_1 y0 y1 y2 y3))))))))))) (br (!(eqI y0 y0_1 && eqI y1 y1_1)) (br (!(eqI y0 y2_1 && eqI y1 y3_1)) (K false) (br (!ybf (eqI y2 0) (eqI y0_1 y2_1 && eqI y1_1 y3_1)) (K false) (br (!eqI (ycp .u8 y2 6) 0) (br (eqI (ycp .u8 y2 1) 0) (K false) (br (eqI a1 2) (br (eqI y0 y0_1 && eqI y1 y1_1) (zbc fun y0 => K y0) (K false)) (br (eqI a1 3) (br (eqI y0 y2_1 && eqI y1 y3_1) (zbc fun y0 => K y0) (K false)) (br (eqI a1 1) (zaj a2_0 a2_1 a2_2 a2_3 fun y0_3 => br (ltI 0 y0_3) (br (ybf (eqI y0 y0_1 && eqI y1 y1_1) true) (zbc fun y0 => K y0) (K false)) (br (ybf (eqI y0 y0_1 && eqI y1 y1_1) (eqI y0_1 y2_1 && eqI y1_1 y3_1)) (zbc fun y0 => K y0) (K false))) (zbe a0 y0 y1 fun y0 y1 y2_2 y3 y4 => br (!y4) (br (!eqI (ycp .u8 y2 4) 0) (zbc fun y0 => K y0) (K false)) (br (ltI 17000 a2_3) (zbc fun y0 => K y0) (br (ltI a2_3 (-17000)) (zbc fun y0 => K y0) (zak a2_0 a2_1 a2_2 a2_3 y0 y1 y2_2 y3 fun y0 y1 y2 y3 y4 => ∃ n, zbb.l29 (fun y0 => K y0) (zbc fun y0 => K y0) n a0 0 a2_0 a2_1 a2_2 a2_3 y0_1 y1_1 y2_1 y3_1 y0 y1 y2 y3)))))))) (br (eqI a1 2) (br (eqI y0 y0_1 && eqI y1 y1_1) (zbc fun y0 => K y0) (K false)) (br (eqI a1 3) (br (eqI y0 y2_1 && eqI y1 y3_1) (zbc fun y0 => K y0) (K false)) (br (eqI a1 1) (zaj a2_0 a2_1 a2_2 a2_3 fun y0_3 => br (ltI 0 y0_3) (br (ybf (eqI y0 y0_1 && eqI y1 y1_1) true) (zbc fun y0 => K y0) (K false)) (br (ybf (eqI y0 y0_1 && eqI y1 y1_1) (eqI y0_1 y2_1 && eqI y1_1 y3_1)) (zbc fun y0 => K y0) (K false))) (zbe a0 y0 y1 fun y0 y1 y2_2 y3 y4 => br (!y4) (br (!eqI (ycp .u8 y2 4) 0) (zbc fun y0 => K y0) (K false)) (br (ltI 17000 a2_3) (zbc fun y0 => K y0) (br (ltI a2_3 (-17000)) (zbc fun y0 => K y0) (zak a2_0 a2_1 a2_2 a2_3 y0 y1 y2_2 y3 fun y0 y1 y2 y3 y4 => ∃ n, zbb.l29 (fun y0 => K y0) (zbc fun y0 => K y0) n a0 0 a2_0 a2_1 a2_2 a2_3 y0_1 y1_1 y2_1 y3_1 y0 y1 y2 y3)))))))))) (br (!ybf (eqI y2 0) (eqI y0_1 y2_1 && eqI y1_1 y3_1)) (K false) (br (!eqI (ycp .u8 y2 6) 0) (br (eqI (ycp .u8 y2 1) 0) (K false) (br (eqI a1 2) (br (eqI y0 y0_1 && eqI y1 y1_1) (zbc fun y0 => K y0) (K false)) (br (eqI a1 3) (br (eqI y0 y2_1 && eqI y1 y3_1) (zbc fun y0 => K y0) (K false)) (br (eqI a1 1) (zaj a2_0 a2_1 a2_2 a2_3 fun y0_3 => br (ltI 0 y0_3) (br (ybf (eqI y0 y0_1 && eqI y1 y1_1) true) (zbc fun y0 => K y0) (K false)) (br (ybf (eqI y0 y0_1 && eqI y1 y1_1) (eqI y0_1 y2_1 && eqI y1_1 y3_1)) (zbc fun y0 => K y0) (K false))) (zbe a0 y0 y1 fun y0 y1 y2_2 y3 y4 => br (!y4) (br (!eqI (ycp .u8 y2 4) 0) (zbc fun y0 => K y0) (K false)) (br (ltI 17000 a2_3) (zbc fun y0 => K y0) (br (ltI a2_3 (-17000)) (zbc fun y0 => K y0) (zak a2_0 a2_1 a2_2 a2_3 y0 y1 y2_2 y3 fun y0 y1 y2 y3 y4 => ∃ n, zbb.l29 (fun y0 => K y0) (zbc fun y0 => K y0) n a0 0 a2_0 a2_1 a2_2 a2_3 y0_1 y1_1 y2_1 y3_1 y0 y1 y2 y3)))))))) (br (eqI a1 2) (br (eqI y0 y0_1 && eqI y1 y1_1) (zbc fun y0 => K y0) (K false)) (br (eqI a1 3) (br (eqI y0 y2_1 && eqI y1 y3_1) (zbc fun y0 => K y0) (K false)) (br (eqI a1 1) (zaj a2_0 a2_1 a2_2 a2_3 fun y0_3 => br (ltI 0 y0_3) (br (ybf (eqI y0 y0_1 && eqI y1 y1_1) true) (zbc fun y0 => K y0) (K false)) (br (ybf (eqI y0 y0_1 && eqI y1 y1_1) (eqI y0_1 y2_1 && eqI y1_1 y3_1)) (zbc fun y0 => K y0) (K false))) (zbe a0 y0 y1 fun y0 y1 y2_2 y3 y4 => br (!y4) (br (!eqI (ycp .u8 y2 4) 0) (zbc fun y0 => K y0) (K false)) (br (ltI 17000 a2_3) (zbc fun y0 => K y0) (br (ltI a2_3 (-17000)) (zbc fun y0 => K y0) (zak a2_0 a2_1 a2_2 a2_3 y0 y1 y2_2 y3 fun y0 y1 y2 y3 y4 => ∃ n, zbb.l29 (fun y0 => K y0) (zbc fun y0 => K y0) n a0 0 a2_0 a2_1 a2_2 a2_3 y0_1 y1_1 y2_1 y3_1 y0 y1 y2 y3))))))))))))))))))
noncomputable def zbb := shut zbb.d
theorem zbb.is : zbb = zbb.d := shut_is _
end Go.Ev.S

/- The functions as the evaluator has them: what each comes to. -/
set_option maxRecDepth 100000
set_option linter.unusedVariables false
set_option linter.unusedSimpArgs false
namespace Go.Ev.S
open Go Go.Ev
end Go.Ev.S

/- The functions as the evaluator has them: what each comes to. -/
set_option maxRecDepth 100000
set_option linter.unusedVariables false
set_option linter.unusedSimpArgs false
namespace Go.Ev.S
open Go Go.Ev
end Go.Ev.S

/- The functions as the evaluator has them: what each comes to. -/
set_option maxRecDepth 100000
set_option linter.unusedVariables false
set_option linter.unusedSimpArgs false
namespace Go.Ev.S
open Go Go.Ev
end Go.Ev.S

/- The functions as the evaluator has them: what each comes to. -/
set_option maxRecDepth 100000
set_option linter.unusedVariables false
set_option linter.unusedSimpArgs false
namespace Go.Ev.S
open Go Go.Ev
end Go.Ev.S

/- The functions as the evaluator has them: what each comes to. -/
set_option maxRecDepth 100000
set_option linter.unusedVariables false
set_option linter.unusedSimpArgs false
namespace Go.Ev.S
open Go Go.Ev
end Go.Ev.S

/- The functions as the evaluator has them: what each comes to. -/
set_option maxRecDepth 100000
set_option linter.unusedVariables false
set_option linter.unusedSimpArgs false
namespace Go.Ev.S
open Go Go.Ev
end Go.Ev.S

/- The functions as the evaluator has them: what each comes to. -/
set_option maxRecDepth 100000
set_option linter.unusedVariables false
set_option linter.unusedSimpArgs false
namespace Go.Ev.S
open Go Go.Ev
end Go.Ev.S

/- The functions as the evaluator has them: what each comes to. -/
set_option maxRecDepth 100000
set_option linter.unusedVariables false
set_option linter.unusedSimpArgs false
namespace Go.Ev.S
open Go Go.Ev
end Go.Ev.S

/- The functions as the evaluator has them: what each comes to. -/
set_option maxRecDepth 100000
set_option linter.unusedVariables false
set_option linter.unusedSimpArgs false
namespace Go.Ev.S
open Go Go.Ev
end Go.Ev.S

/- The functions as the evaluator has them: what each comes to. -/
set_option maxRecDepth 100000
set_option linter.unusedVariables false
set_option linter.unusedSimpArgs false
namespace Go.Ev.S
open Go Go.Ev
end Go.Ev.S

/- The functions as the evaluator has them: what each comes to. -/
set_option maxRecDepth 100000
set_option linter.unusedVariables false
set_option linter.unusedSimpArgs false
namespace Go.Ev.S
open Go Go.Ev
end Go.Ev.S

/- The functions as the evaluator has them: what each comes to. -/
set_option maxRecDepth 100000
set_option linter.unusedVariables false
set_option linter.unusedSimpArgs false
namespace Go.Ev.S
open Go Go.Ev
end Go.Ev.S

/- The functions as the evaluator has them: what each comes to. -/
set_option maxRecDepth 100000
set_option linter.unusedVariables false
set_option linter.unusedSimpArgs false
namespace Go.Ev.S
open Go Go.Ev
end Go.Ev.S

/- The functions as the evaluator has them: what each comes to. -/
set_option maxRecDepth 100000
set_option linter.unusedVariables false
set_option linter.unusedSimpArgs false
namespace Go.Ev.S
open Go Go.Ev
end Go.Ev.S
