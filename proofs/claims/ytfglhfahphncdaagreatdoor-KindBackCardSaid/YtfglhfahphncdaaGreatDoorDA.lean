/- The functions as the evaluator has them: what each comes to. -/
import Derived.Test.YtfglhfahphncdaaGreatDoorEvC
import Derived.Lib.ItoaNum
import Derived.Lib.AtoiAll
import Derived.Lib.Bytealg
set_option maxRecDepth 100000
set_option linter.unusedVariables false
set_option linter.unusedSimpArgs false
namespace Go.Ev.S
open Go Go.Ev
noncomputable def shut {α : Type} (d : α) : α := Classical.choose (⟨d, rfl⟩ : ∃ f, f = d)
theorem shut_is {α : Type} (d : α) : shut d = d := Classical.choose_spec (⟨d, rfl⟩ : ∃ f, f = d)
def zaa.d (a0 : Int) (K : Int → Prop) : Prop :=
  br (leI 4294967296 a0) (br (leI 65536 (yaQ .u64 a0 32)) (br (leI 256 (yaQ .u64 (yaQ .u64 a0 32) 16)) (gd (leI 0 (cvI .u8 (yaQ .u64 (yaQ .u64 (yaQ .u64 a0 32) 16) 8)) && ltI (cvI .u8 (yaQ .u64 (yaQ .u64 (yaQ .u64 a0 32) 16) 8)) 256) (K (yai .i64 56 (cvI .i64 (yaI [0, 1, 2, 2, 3, 3, 3, 3, 4, 4, 4, 4, 4, 4, 4, 4, 5, 5, 5, 5, 5, 5, 5, 5, 5, 5, 5, 5, 5, 5, 5, 5, 6, 6, 6, 6, 6, 6, 6, 6, 6, 6, 6, 6, 6, 6, 6, 6, 6, 6, 6, 6, 6, 6, 6, 6, 6, 6, 6, 6, 6, 6, 6, 6, 7, 7, 7, 7, 7, 7, 7, 7, 7, 7, 7, 7, 7, 7, 7, 7, 7, 7, 7, 7, 7, 7, 7, 7, 7, 7, 7, 7, 7, 7, 7, 7, 7, 7, 7, 7, 7, 7, 7, 7, 7, 7, 7, 7, 7, 7, 7, 7, 7, 7, 7, 7, 7, 7, 7, 7, 7, 7, 7, 7, 7, 7, 7, 7, 8, 8, 8, 8, 8, 8, 8, 8, 8, 8, 8, 8, 8, 8, 8, 8, 8, 8, 8, 8, 8, 8, 8, 8, 8, 8, 8, 8, 8, 8, 8, 8, 8, 8, 8, 8, 8, 8, 8, 8, 8, 8, 8, 8, 8, 8, 8, 8, 8, 8, 8, 8, 8, 8, 8, 8, 8, 8, 8, 8, 8, 8, 8, 8, 8, 8, 8, 8, 8, 8, 8, 8, 8, 8, 8, 8, 8, 8, 8, 8, 8, 8, 8, 8, 8, 8, 8, 8, 8, 8, 8, 8, 8, 8, 8, 8, 8, 8, 8, 8, 8, 8, 8, 8, 8, 8, 8, 8, 8, 8, 8, 8, 8, 8, 8, 8, 8, 8, 8, 8, 8, 8, 8, 8, 8, 8, 8, 8] (Int.toNat (cvI .u8 (yaQ .u64 (yaQ .u64 (yaQ .u64 a0 32) 16) 8)))))))) (gd (leI 0 (cvI .u8 (yaQ .u64 (yaQ .u64 a0 32) 16)) && ltI (cvI .u8 (yaQ .u64 (yaQ .u64 a0 32) 16)) 256) (K (yai .i64 48 (cvI .i64 (yaI [0, 1, 2, 2, 3, 3, 3, 3, 4, 4, 4, 4, 4, 4, 4, 4, 5, 5, 5, 5, 5, 5, 5, 5, 5, 5, 5, 5, 5, 5, 5, 5, 6, 6, 6, 6, 6, 6, 6, 6, 6, 6, 6, 6, 6, 6, 6, 6, 6, 6, 6, 6, 6, 6, 6, 6, 6, 6, 6, 6, 6, 6, 6, 6, 7, 7, 7, 7, 7, 7, 7, 7, 7, 7, 7, 7, 7, 7, 7, 7, 7, 7, 7, 7, 7, 7, 7, 7, 7, 7, 7, 7, 7, 7, 7, 7, 7, 7, 7, 7, 7, 7, 7, 7, 7, 7, 7, 7, 7, 7, 7, 7, 7, 7, 7, 7, 7, 7, 7, 7, 7, 7, 7, 7, 7, 7, 7, 7, 8, 8, 8, 8, 8, 8, 8, 8, 8, 8, 8, 8, 8, 8, 8, 8, 8, 8, 8, 8, 8, 8, 8, 8, 8, 8, 8, 8, 8, 8, 8, 8, 8, 8, 8, 8, 8, 8, 8, 8, 8, 8, 8, 8, 8, 8, 8, 8, 8, 8, 8, 8, 8, 8, 8, 8, 8, 8, 8, 8, 8, 8, 8, 8, 8, 8, 8, 8, 8, 8, 8, 8, 8, 8, 8, 8, 8, 8, 8, 8, 8, 8, 8, 8, 8, 8, 8, 8, 8, 8, 8, 8, 8, 8, 8, 8, 8, 8, 8, 8, 8, 8, 8, 8, 8, 8, 8, 8, 8, 8, 8, 8, 8, 8, 8, 8, 8, 8, 8, 8, 8, 8, 8, 8, 8, 8, 8, 8] (Int.toNat (cvI .u8 (yaQ .u64 (yaQ .u64 a0 32) 16))))))))) (br (leI 256 (yaQ .u64 a0 32)) (gd (leI 0 (cvI .u8 (yaQ .u64 (yaQ .u64 a0 32) 8)) && ltI (cvI .u8 (yaQ .u64 (yaQ .u64 a0 32) 8)) 256) (K (yai .i64 40 (cvI .i64 (yaI [0, 1, 2, 2, 3, 3, 3, 3, 4, 4, 4, 4, 4, 4, 4, 4, 5, 5, 5, 5, 5, 5, 5, 5, 5, 5, 5, 5, 5, 5, 5, 5, 6, 6, 6, 6, 6, 6, 6, 6, 6, 6, 6, 6, 6, 6, 6, 6, 6, 6, 6, 6, 6, 6, 6, 6, 6, 6, 6, 6, 6, 6, 6, 6, 7, 7, 7, 7, 7, 7, 7, 7, 7, 7, 7, 7, 7, 7, 7, 7, 7, 7, 7, 7, 7, 7, 7, 7, 7, 7, 7, 7, 7, 7, 7, 7, 7, 7, 7, 7, 7, 7, 7, 7, 7, 7, 7, 7, 7, 7, 7, 7, 7, 7, 7, 7, 7, 7, 7, 7, 7, 7, 7, 7, 7, 7, 7, 7, 8, 8, 8, 8, 8, 8, 8, 8, 8, 8, 8, 8, 8, 8, 8, 8, 8, 8, 8, 8, 8, 8, 8, 8, 8, 8, 8, 8, 8, 8, 8, 8, 8, 8, 8, 8, 8, 8, 8, 8, 8, 8, 8, 8, 8, 8, 8, 8, 8, 8, 8, 8, 8, 8, 8, 8, 8, 8, 8, 8, 8, 8, 8, 8, 8, 8, 8, 8, 8, 8, 8, 8, 8, 8, 8, 8, 8, 8, 8, 8, 8, 8, 8, 8, 8, 8, 8, 8, 8, 8, 8, 8, 8, 8, 8, 8, 8, 8, 8, 8, 8, 8, 8, 8, 8, 8, 8, 8, 8, 8, 8, 8, 8, 8, 8, 8, 8, 8, 8, 8, 8, 8, 8, 8, 8, 8, 8, 8] (Int.toNat (cvI .u8 (yaQ .u64 (yaQ .u64 a0 32) 8)))))))) (gd (leI 0 (cvI .u8 (yaQ .u64 a0 32)) && ltI (cvI .u8 (yaQ .u64 a0 32)) 256) (K (yai .i64 32 (cvI .i64 (yaI [0, 1, 2, 2, 3, 3, 3, 3, 4, 4, 4, 4, 4, 4, 4, 4, 5, 5, 5, 5, 5, 5, 5, 5, 5, 5, 5, 5, 5, 5, 5, 5, 6, 6, 6, 6, 6, 6, 6, 6, 6, 6, 6, 6, 6, 6, 6, 6, 6, 6, 6, 6, 6, 6, 6, 6, 6, 6, 6, 6, 6, 6, 6, 6, 7, 7, 7, 7, 7, 7, 7, 7, 7, 7, 7, 7, 7, 7, 7, 7, 7, 7, 7, 7, 7, 7, 7, 7, 7, 7, 7, 7, 7, 7, 7, 7, 7, 7, 7, 7, 7, 7, 7, 7, 7, 7, 7, 7, 7, 7, 7, 7, 7, 7, 7, 7, 7, 7, 7, 7, 7, 7, 7, 7, 7, 7, 7, 7, 8, 8, 8, 8, 8, 8, 8, 8, 8, 8, 8, 8, 8, 8, 8, 8, 8, 8, 8, 8, 8, 8, 8, 8, 8, 8, 8, 8, 8, 8, 8, 8, 8, 8, 8, 8, 8, 8, 8, 8, 8, 8, 8, 8, 8, 8, 8, 8, 8, 8, 8, 8, 8, 8, 8, 8, 8, 8, 8, 8, 8, 8, 8, 8, 8, 8, 8, 8, 8, 8, 8, 8, 8, 8, 8, 8, 8, 8, 8, 8, 8, 8, 8, 8, 8, 8, 8, 8, 8, 8, 8, 8, 8, 8, 8, 8, 8, 8, 8, 8, 8, 8, 8, 8, 8, 8, 8, 8, 8, 8, 8, 8, 8, 8, 8, 8, 8, 8, 8, 8, 8, 8, 8, 8, 8, 8, 8, 8] (Int.toNat (cvI .u8 (yaQ .u64 a0 32)))))))))) (br (leI 65536 a0) (br (leI 256 (yaQ .u64 a0 16)) (gd (leI 0 (cvI .u8 (yaQ .u64 (yaQ .u64 a0 16) 8)) && ltI (cvI .u8 (yaQ .u64 (yaQ .u64 a0 16) 8)) 256) (K (yai .i64 24 (cvI .i64 (yaI [0, 1, 2, 2, 3, 3, 3, 3, 4, 4, 4, 4, 4, 4, 4, 4, 5, 5, 5, 5, 5, 5, 5, 5, 5, 5, 5, 5, 5, 5, 5, 5, 6, 6, 6, 6, 6, 6, 6, 6, 6, 6, 6, 6, 6, 6, 6, 6, 6, 6, 6, 6, 6, 6, 6, 6, 6, 6, 6, 6, 6, 6, 6, 6, 7, 7, 7, 7, 7, 7, 7, 7, 7, 7, 7, 7, 7, 7, 7, 7, 7, 7, 7, 7, 7, 7, 7, 7, 7, 7, 7, 7, 7, 7, 7, 7, 7, 7, 7, 7, 7, 7, 7, 7, 7, 7, 7, 7, 7, 7, 7, 7, 7, 7, 7, 7, 7, 7, 7, 7, 7, 7, 7, 7, 7, 7, 7, 7, 8, 8, 8, 8, 8, 8, 8, 8, 8, 8, 8, 8, 8, 8, 8, 8, 8, 8, 8, 8, 8, 8, 8, 8, 8, 8, 8, 8, 8, 8, 8, 8, 8, 8, 8, 8, 8, 8, 8, 8, 8, 8, 8, 8, 8, 8, 8, 8, 8, 8, 8, 8, 8, 8, 8, 8, 8, 8, 8, 8, 8, 8, 8, 8, 8, 8, 8, 8, 8, 8, 8, 8, 8, 8, 8, 8, 8, 8, 8, 8, 8, 8, 8, 8, 8, 8, 8, 8, 8, 8, 8, 8, 8, 8, 8, 8, 8, 8, 8, 8, 8, 8, 8, 8, 8, 8, 8, 8, 8, 8, 8, 8, 8, 8, 8, 8, 8, 8, 8, 8, 8, 8, 8, 8, 8, 8, 8, 8] (Int.toNat (cvI .u8 (yaQ .u64 (yaQ .u64 a0 16) 8)))))))) (gd (leI 0 (cvI .u8 (yaQ .u64 a0 16)) && ltI (cvI .u8 (yaQ .u64 a0 16)) 256) (K (yai .i64 16 (cvI .i64 (yaI [0, 1, 2, 2, 3, 3, 3, 3, 4, 4, 4, 4, 4, 4, 4, 4, 5, 5, 5, 5, 5, 5, 5, 5, 5, 5, 5, 5, 5, 5, 5, 5, 6, 6, 6, 6, 6, 6, 6, 6, 6, 6, 6, 6, 6, 6, 6, 6, 6, 6, 6, 6, 6, 6, 6, 6, 6, 6, 6, 6, 6, 6, 6, 6, 7, 7, 7, 7, 7, 7, 7, 7, 7, 7, 7, 7, 7, 7, 7, 7, 7, 7, 7, 7, 7, 7, 7, 7, 7, 7, 7, 7, 7, 7, 7, 7, 7, 7, 7, 7, 7, 7, 7, 7, 7, 7, 7, 7, 7, 7, 7, 7, 7, 7, 7, 7, 7, 7, 7, 7, 7, 7, 7, 7, 7, 7, 7, 7, 8, 8, 8, 8, 8, 8, 8, 8, 8, 8, 8, 8, 8, 8, 8, 8, 8, 8, 8, 8, 8, 8, 8, 8, 8, 8, 8, 8, 8, 8, 8, 8, 8, 8, 8, 8, 8, 8, 8, 8, 8, 8, 8, 8, 8, 8, 8, 8, 8, 8, 8, 8, 8, 8, 8, 8, 8, 8, 8, 8, 8, 8, 8, 8, 8, 8, 8, 8, 8, 8, 8, 8, 8, 8, 8, 8, 8, 8, 8, 8, 8, 8, 8, 8, 8, 8, 8, 8, 8, 8, 8, 8, 8, 8, 8, 8, 8, 8, 8, 8, 8, 8, 8, 8, 8, 8, 8, 8, 8, 8, 8, 8, 8, 8, 8, 8, 8, 8, 8, 8, 8, 8, 8, 8, 8, 8, 8, 8] (Int.toNat (cvI .u8 (yaQ .u64 a0 16))))))))) (br (leI 256 a0) (gd (leI 0 (cvI .u8 (yaQ .u64 a0 8)) && ltI (cvI .u8 (yaQ .u64 a0 8)) 256) (K (yai .i64 8 (cvI .i64 (yaI [0, 1, 2, 2, 3, 3, 3, 3, 4, 4, 4, 4, 4, 4, 4, 4, 5, 5, 5, 5, 5, 5, 5, 5, 5, 5, 5, 5, 5, 5, 5, 5, 6, 6, 6, 6, 6, 6, 6, 6, 6, 6, 6, 6, 6, 6, 6, 6, 6, 6, 6, 6, 6, 6, 6, 6, 6, 6, 6, 6, 6, 6, 6, 6, 7, 7, 7, 7, 7, 7, 7, 7, 7, 7, 7, 7, 7, 7, 7, 7, 7, 7, 7, 7, 7, 7, 7, 7, 7, 7, 7, 7, 7, 7, 7, 7, 7, 7, 7, 7, 7, 7, 7, 7, 7, 7, 7, 7, 7, 7, 7, 7, 7, 7, 7, 7, 7, 7, 7, 7, 7, 7, 7, 7, 7, 7, 7, 7, 8, 8, 8, 8, 8, 8, 8, 8, 8, 8, 8, 8, 8, 8, 8, 8, 8, 8, 8, 8, 8, 8, 8, 8, 8, 8, 8, 8, 8, 8, 8, 8, 8, 8, 8, 8, 8, 8, 8, 8, 8, 8, 8, 8, 8, 8, 8, 8, 8, 8, 8, 8, 8, 8, 8, 8, 8, 8, 8, 8, 8, 8, 8, 8, 8, 8, 8, 8, 8, 8, 8, 8, 8, 8, 8, 8, 8, 8, 8, 8, 8, 8, 8, 8, 8, 8, 8, 8, 8, 8, 8, 8, 8, 8, 8, 8, 8, 8, 8, 8, 8, 8, 8, 8, 8, 8, 8, 8, 8, 8, 8, 8, 8, 8, 8, 8, 8, 8, 8, 8, 8, 8, 8, 8, 8, 8, 8, 8] (Int.toNat (cvI .u8 (yaQ .u64 a0 8)))))))) (gd (leI 0 (cvI .u8 a0) && ltI (cvI .u8 a0) 256) (K (yai .i64 0 (cvI .i64 (yaI [0, 1, 2, 2, 3, 3, 3, 3, 4, 4, 4, 4, 4, 4, 4, 4, 5, 5, 5, 5, 5, 5, 5, 5, 5, 5, 5, 5, 5, 5, 5, 5, 6, 6, 6, 6, 6, 6, 6, 6, 6, 6, 6, 6, 6, 6, 6, 6, 6, 6, 6, 6, 6, 6, 6, 6, 6, 6, 6, 6, 6, 6, 6, 6, 7, 7, 7, 7, 7, 7, 7, 7, 7, 7, 7, 7, 7, 7, 7, 7, 7, 7, 7, 7, 7, 7, 7, 7, 7, 7, 7, 7, 7, 7, 7, 7, 7, 7, 7, 7, 7, 7, 7, 7, 7, 7, 7, 7, 7, 7, 7, 7, 7, 7, 7, 7, 7, 7, 7, 7, 7, 7, 7, 7, 7, 7, 7, 7, 8, 8, 8, 8, 8, 8, 8, 8, 8, 8, 8, 8, 8, 8, 8, 8, 8, 8, 8, 8, 8, 8, 8, 8, 8, 8, 8, 8, 8, 8, 8, 8, 8, 8, 8, 8, 8, 8, 8, 8, 8, 8, 8, 8, 8, 8, 8, 8, 8, 8, 8, 8, 8, 8, 8, 8, 8, 8, 8, 8, 8, 8, 8, 8, 8, 8, 8, 8, 8, 8, 8, 8, 8, 8, 8, 8, 8, 8, 8, 8, 8, 8, 8, 8, 8, 8, 8, 8, 8, 8, 8, 8, 8, 8, 8, 8, 8, 8, 8, 8, 8, 8, 8, 8, 8, 8, 8, 8, 8, 8, 8, 8, 8, 8, 8, 8, 8, 8, 8, 8, 8, 8, 8, 8, 8, 8, 8, 8] (Int.toNat (cvI .u8 a0)))))))))
noncomputable def zaa := shut zaa.d
theorem zaa.is : zaa = zaa.d := shut_is _
def zab.d (a0 : Int) (K : Int → Prop) : Prop :=
  br (eqI a0 0) (K 64) ((leI 0 (yaQ .u64 (yaR .u64 (yhq .u64 a0 (yrT .u64 a0)) 285870213051353865) 58) && ltI (yaQ .u64 (yaR .u64 (yhq .u64 a0 (yrT .u64 a0)) 285870213051353865) 58) 64) = true ∧ K (cvI .i64 (ybc (Int.toNat (yaQ .u64 (yaR .u64 (yhq .u64 a0 (yrT .u64 a0)) 285870213051353865) 58)))))
noncomputable def zab := shut zab.d
theorem zab.is : zab = zab.d := shut_is _
end Go.Ev.S

/- The functions as the evaluator has them: what each comes to. -/
set_option maxRecDepth 100000
set_option linter.unusedVariables false
set_option linter.unusedSimpArgs false
namespace Go.Ev.S
open Go Go.Ev
def word_one.d (a0 : Bool) (K : Int → Prop) : Prop :=
  br a0 (K 1) (K 0)
noncomputable def word_one : Bool → (Int → Prop) → Prop := Classical.choose (⟨word_one.d, rfl⟩ : ∃ f, f = word_one.d)
def word_Add.d (a0 : Int) (a1 : Int) (a2 : Bool) (K : Int → Bool → Prop) : Prop :=
  word_one a2 fun y0 => br (ltI (yai .u64 a0 a1) a0) (K (yai .u64 (yai .u64 a0 a1) y0) true) (br a2 (K (yai .u64 (yai .u64 a0 a1) y0) (eqI (yai .u64 (yai .u64 a0 a1) y0) 0)) (K (yai .u64 (yai .u64 a0 a1) y0) false))
noncomputable def word_Add : Int → Int → Bool → (Int → Bool → Prop) → Prop := Classical.choose (⟨word_Add.d, rfl⟩ : ∃ f, f = word_Add.d)
def zdo.d (a0 : Int) (K : Int → Prop) : Prop :=
  zaa a0 fun y0 => K y0
noncomputable def zdo := shut zdo.d
theorem zdo.is : zdo = zdo.d := shut_is _
def zdp.d (a0 : Int) (K : Int → Prop) : Prop :=
  zab a0 fun y0 => K y0
noncomputable def zdp := shut zdp.d
theorem zdp.is : zdp = zdp.d := shut_is _
def zdr.d (a0 : Int) (K : Int → Prop) : Prop :=
  K (cvI .u64 (yog (yfE a0 0) 64))
noncomputable def zdr := shut zdr.d
theorem zdr.is : zdr = zdr.d := shut_is _
def zdq.d (a0 : Int) (K : Int → Prop) : Prop :=
  zdr a0 fun y0 => gd (!ltI y0 0) (K (yae .u64 (ybA .u64 1 y0) 1))
noncomputable def zdq := shut zdq.d
theorem zdq.is : zdq = zdq.d := shut_is _
end Go.Ev.S

/- The functions as the evaluator has them: what each comes to. -/
set_option maxRecDepth 100000
set_option linter.unusedVariables false
set_option linter.unusedSimpArgs false
namespace Go.Ev.S
open Go Go.Ev
def wide_Add.l2.step (again : Bool → Int → (Nat → Int) → (Nat → Int) → (Nat → Int) → Prop) (k0 : Bool → (Nat → Int) → Prop) (x0 : Bool) (x1 : Int) (x2 : Nat → Int) (x3 : Nat → Int) (x4 : Nat → Int) : Prop :=
  br (ltI x1 6) (gd (leI 0 x1 && ltI x1 6) (gd (leI 0 x1 && ltI x1 6) (word_Add (x2 (Int.toNat x1)) (x3 (Int.toNat x1)) x0 fun y0 y1 => gd (leI 0 x1 && ltI x1 6) (again y1 (yai .i64 x1 1) x2 x3 (upd x4 (Int.toNat x1) y0))))) (k0 x0 x4)
def wide_Add.l2 (k0 : Bool → (Nat → Int) → Prop) : Nat → Bool → Int → (Nat → Int) → (Nat → Int) → (Nat → Int) → Prop
  | 0 => fun _ _ _ _ _ => False
  | n + 1 => wide_Add.l2.step (wide_Add.l2 k0 n) k0
def wide_Add.l2.entry : yao := ⟨LV.mk 48 [(0, 48)] 48 0 false, 0, 26, fun vs H K => match vs, H with
  | [EV.ptr 0 [], EV.ptr 1 [], EV.ptr 2 [], EV.bool x0, EV.int .i64 x1], [some (EV.arr .u64 6 x2), some (EV.arr .u64 6 x3), some (EV.arr .u64 6 x4)] => ∃ n, wide_Add.l2 (fun y0 y1 => K (.exit 0) [EV.ptr 0 [], EV.bool y0] [some (EV.arr .u64 6 y1)]) n x0 x1 x2 x3 x4
  | _, _ => False⟩
def wide_Add.d (a0 : Nat → Int) (a1 : Nat → Int) (K : (Nat → Int) → Bool → Prop) : Prop :=
  ∃ n, wide_Add.l2 (fun y0 y1 => K y1 y0) n false 0 a0 a1 fun x => 0
noncomputable def wide_Add : (Nat → Int) → (Nat → Int) → ((Nat → Int) → Bool → Prop) → Prop := Classical.choose (⟨wide_Add.d, rfl⟩ : ∃ f, f = wide_Add.d)
def zda.l2.step (again : Int → (Nat → Int) → (Nat → Int) → (Nat → Int) → Prop) (k0 : (Nat → Int) → (Nat → Int) → Prop) (x0 : Int) (x1 : Nat → Int) (x2 : Nat → Int) (x3 : Nat → Int) : Prop :=
  br (ltI x0 6) (gd (leI 0 x0 && ltI x0 6) (gd (leI 0 x0 && ltI x0 6) (gd (leI 0 x0 && ltI x0 6) (again (yai .i64 x0 1) (upd x1 (Int.toNat x0) (yhq .u64 (x1 (Int.toNat x0)) (x2 (Int.toNat x0)))) x2 x3)))) (k0 x1 x3)
def zda.l2 (k0 : (Nat → Int) → (Nat → Int) → Prop) : Nat → Int → (Nat → Int) → (Nat → Int) → (Nat → Int) → Prop
  | 0 => fun _ _ _ _ => False
  | n + 1 => zda.l2.step (zda.l2 k0 n) k0
def zda.l2.entry : yao := ⟨LV.mk 20 [(0, 20)] 16 0 false, 0, 19, fun vs H K => match vs, H with
  | [EV.ptr 0 [], EV.ptr 1 [], EV.ptr 2 [], EV.int .i64 x0], [some (EV.arr .u64 6 x1), some (EV.arr .u64 6 x2), some (EV.arr .u64 6 x3)] => ∃ n, zda.l2 (fun y0 y1 => K (.exit 0) [EV.ptr 0 [], EV.ptr 1 []] [some (EV.arr .u64 6 y0), some (EV.arr .u64 6 y1)]) n x0 x1 x2 x3
  | _, _ => False⟩
def zda.d (a0 : Nat → Int) (a1 : Nat → Int) (K : (Nat → Int) → Prop) : Prop :=
  ∃ n, zda.l2 (fun y0 y1 => K y0) n 0 a0 a1 fun x => 0
noncomputable def zda := shut zda.d
theorem zda.is : zda = zda.d := shut_is _
def zdb.d (a0 : Nat → Int) (a1 : Int) (K : Bool → Prop) : Prop :=
  br (leI 0 a1) (br (ltI a1 384) (gd (leI 0 (yaH .i64 a1 64) && ltI (yaH .i64 a1 64) 6) (gd (!ltI (cvI .u64 (yb6 .i64 a1 64)) 0) (K (eqI (yhq .u64 (yaQ .u64 (a0 (Int.toNat (yaH .i64 a1 64))) (cvI .u64 (yb6 .i64 a1 64))) 1) 1)))) (K false)) (K false)
noncomputable def zdb := shut zdb.d
theorem zdb.is : zdb = zdb.d := shut_is _
def zdd.l2.step (again : Int → (Nat → Int) → Prop) (k0 : Int → Prop) (k1 : Prop) (x0 : Int) (x1 : Nat → Int) : Prop :=
  br (leI 0 x0) (gd (leI 0 x0 && ltI x0 6) (br (!eqI (x1 (Int.toNat x0)) 0) (gd (leI 0 x0 && ltI x0 6) (zdo (x1 (Int.toNat x0)) fun y0 => k0 (yai .i64 (yaR .i64 64 x0) y0))) (again (yae .i64 x0 1) x1))) k1
def zdd.l2 (k0 : Int → Prop) (k1 : Prop) : Nat → Int → (Nat → Int) → Prop
  | 0 => fun _ _ => False
  | n + 1 => zdd.l2.step (zdd.l2 k0 k1 n) k0 k1
def zdd.l2.entry : yao := ⟨LV.mk 0 [(0, 0)] 4 0 false, 0, 19, fun vs H K => match vs, H with
  | [EV.ptr 0 [], EV.int .i64 x0], [some (EV.arr .u64 6 x1)] => ∃ n, zdd.l2 (fun y0 => K .ret [EV.int .i64 y0] []) (K (.exit 0) [] []) n x0 x1
  | _, _ => False⟩
def zdd.d (a0 : Nat → Int) (K : Int → Prop) : Prop :=
  ∃ n, zdd.l2 (fun y0 => K y0) (K 0) n 5 a0
noncomputable def zdd := shut zdd.d
theorem zdd.is : zdd = zdd.d := shut_is _
def zdn.d (a0 : Int) (K : Int → Prop) : Prop :=
  K (yog (yfE a0 0) 384)
noncomputable def zdn := shut zdn.d
theorem zdn.is : zdn = zdn.d := shut_is _
def zdc.l5.step (again : Bool → Int → Int → Int → (Nat → Int) → (Nat → Int) → Prop) (k0 : Bool → (Nat → Int) → Prop) (x0 : Bool) (x1 : Int) (x2 : Int) (x3 : Int) (x4 : Nat → Int) (x5 : Nat → Int) : Prop :=
  br (leI x1 x3) (gd (leI 0 (yae .i64 x3 x1) && ltI (yae .i64 x3 x1) 6) (gd (!ltI x2 0) (gd (leI 0 x3 && ltI x3 6) (br (ltI x1 x3) (gd (leI 0 x3 && ltI x3 6) (gd (leI 0 (yae .i64 (yae .i64 x3 x1) 1) && ltI (yae .i64 (yae .i64 x3 x1) 1) 6) (gd (!ltI (yae .u64 64 x2) 0) (gd (leI 0 x3 && ltI x3 6) (again x0 x1 x2 (yae .i64 x3 1) x4 (upd (upd x5 (Int.toNat x3) (ybA .u64 (x4 (Int.toNat (yae .i64 x3 x1))) x2)) (Int.toNat x3) (orI .u64 (upd x5 (Int.toNat x3) (ybA .u64 (x4 (Int.toNat (yae .i64 x3 x1))) x2) (Int.toNat x3)) (yaQ .u64 (x4 (Int.toNat (yae .i64 (yae .i64 x3 x1) 1))) (yae .u64 64 x2))))))))) (again x0 x1 x2 (yae .i64 x3 1) x4 (upd x5 (Int.toNat x3) (ybA .u64 (x4 (Int.toNat (yae .i64 x3 x1))) x2))))))) (k0 x0 x5)
def zdc.l5 (k0 : Bool → (Nat → Int) → Prop) : Nat → Bool → Int → Int → Int → (Nat → Int) → (Nat → Int) → Prop
  | 0 => fun _ _ _ _ _ _ => False
  | n + 1 => zdc.l5.step (zdc.l5 k0 n) k0
def zdc.l5.entry : yao := ⟨LV.mk 48 [(0, 48)] 48 0 false, 0, 59, fun vs H K => match vs, H with
  | [EV.ptr 0 [], EV.ptr 1 [], EV.bool x0, EV.int .i64 x1, EV.int .u64 x2, EV.int .i64 x3], [some (EV.arr .u64 6 x4), some (EV.arr .u64 6 x5)] => ∃ n, zdc.l5 (fun y0 y1 => K (.exit 0) [EV.ptr 0 [], EV.bool y0] [some (EV.arr .u64 6 y1)]) n x0 x1 x2 x3 x4 x5
  | _, _ => False⟩
def zdc.d (a0 : Nat → Int) (a1 : Int) (K : (Nat → Int) → Bool → Prop) : Prop :=
  zdn a1 fun y0 => zdd a0 fun y0_1 => br (ltI 384 (yai .i64 y0_1 y0)) (∃ n, zdc.l5 (fun y0 y1 => K y1 y0) n (!eqN 6 a0 fun x => 0) (yaH .i64 y0 64) (cvI .u64 (yb6 .i64 y0 64)) 5 a0 fun x => 0) (∃ n, zdc.l5 (fun y0 y1 => K y1 y0) n false (yaH .i64 y0 64) (cvI .u64 (yb6 .i64 y0 64)) 5 a0 fun x => 0)
noncomputable def zdc := shut zdc.d
theorem zdc.is : zdc = zdc.d := shut_is _
def zde.l2.step (again : (Nat → Int) → Int → Prop) (k0 : Int → Prop) (k1 : Prop) (x0 : Nat → Int) (x1 : Int) : Prop :=
  br (ltI x1 6) (gd (leI 0 x1 && ltI x1 6) (br (!eqI (x0 (Int.toNat x1)) 0) (zdp (x0 (Int.toNat x1)) fun y0 => k0 (yai .i64 (yaR .i64 64 x1) y0)) (again x0 (yai .i64 x1 1)))) k1
def zde.l2 (k0 : Int → Prop) (k1 : Prop) : Nat → (Nat → Int) → Int → Prop
  | 0 => fun _ _ => False
  | n + 1 => zde.l2.step (zde.l2 k0 k1 n) k0 k1
def zde.l2.entry : yao := ⟨LV.mk 0 [(0, 0)] 4 0 false, 0, 18, fun vs H K => match vs, H with
  | [EV.arr .u64 6 x0, EV.int .i64 x1], [] => ∃ n, zde.l2 (fun y0 => K .ret [EV.int .i64 y0] []) (K (.exit 0) [] []) n x0 x1
  | _, _ => False⟩
def zde.d (a0 : Nat → Int) (K : Int → Prop) : Prop :=
  ∃ n, zde.l2 (fun y0 => K y0) (K 384) n a0 0
noncomputable def zde := shut zde.d
theorem zde.is : zde = zde.d := shut_is _
def zdf.l4.step (again : Int → Int → (Nat → Int) → (Nat → Int) → Prop) (k0 : (Nat → Int) → (Nat → Int) → Prop) (x0 : Int) (x1 : Int) (x2 : Nat → Int) (x3 : Nat → Int) : Prop :=
  br (ltI x1 6) (zdq (yae .i64 x0 (yaR .i64 64 x1)) fun y0 => gd (leI 0 x1 && ltI x1 6) (again x0 (yai .i64 x1 1) x2 (upd x3 (Int.toNat x1) y0))) (k0 x2 x3)
def zdf.l4 (k0 : (Nat → Int) → (Nat → Int) → Prop) : Nat → Int → Int → (Nat → Int) → (Nat → Int) → Prop
  | 0 => fun _ _ _ _ => False
  | n + 1 => zdf.l4.step (zdf.l4 k0 n) k0
def zdf.l4.entry : yao := ⟨LV.mk 12 [(0, 12)] 4 0 false, 0, 19, fun vs H K => match vs, H with
  | [EV.int .i64 x0, EV.ptr 0 [], EV.ptr 1 [], EV.int .i64 x1], [some (EV.arr .u64 6 x2), some (EV.arr .u64 6 x3)] => ∃ n, zdf.l4 (fun y0 y1 => K (.exit 0) [EV.ptr 0 [], EV.ptr 1 []] [some (EV.arr .u64 6 y0), some (EV.arr .u64 6 y1)]) n x0 x1 x2 x3
  | _, _ => False⟩
def zdf.d (a0 : Int) (K : (Nat → Int) → Prop) : Prop :=
  zdn a0 fun y0 => ∃ n, zdf.l4 (fun y0 y1 => K y1) n y0 0 (fun x => 0) fun x => 0
noncomputable def zdf := shut zdf.d
theorem zdf.is : zdf = zdf.d := shut_is _
def zdg.d (a0 : Int) (K : (Nat → Int) → Prop) : Prop :=
  K (upd (fun x => 0) 0 a0)
noncomputable def zdg := shut zdg.d
theorem zdg.is : zdg = zdg.d := shut_is _
def zdh.d (a0_0 : Int) (a0_1 : Int) (K : (Nat → Int) → Prop) : Prop :=
  K (upd (upd (fun x => 0) 0 a0_1) 1 a0_0)
noncomputable def zdh := shut zdh.d
theorem zdh.is : zdh = zdh.d := shut_is _
def zdi.l2.step (again : Int → (Nat → Int) → (Nat → Int) → (Nat → Int) → Prop) (k0 : (Nat → Int) → (Nat → Int) → Prop) (x0 : Int) (x1 : Nat → Int) (x2 : Nat → Int) (x3 : Nat → Int) : Prop :=
  br (ltI x0 6) (gd (leI 0 x0 && ltI x0 6) (gd (leI 0 x0 && ltI x0 6) (gd (leI 0 x0 && ltI x0 6) (again (yai .i64 x0 1) (upd x1 (Int.toNat x0) (orI .u64 (x1 (Int.toNat x0)) (x2 (Int.toNat x0)))) x2 x3)))) (k0 x1 x3)
def zdi.l2 (k0 : (Nat → Int) → (Nat → Int) → Prop) : Nat → Int → (Nat → Int) → (Nat → Int) → (Nat → Int) → Prop
  | 0 => fun _ _ _ _ => False
  | n + 1 => zdi.l2.step (zdi.l2 k0 n) k0
def zdi.l2.entry : yao := ⟨LV.mk 20 [(0, 20)] 16 0 false, 0, 19, fun vs H K => match vs, H with
  | [EV.ptr 0 [], EV.ptr 1 [], EV.ptr 2 [], EV.int .i64 x0], [some (EV.arr .u64 6 x1), some (EV.arr .u64 6 x2), some (EV.arr .u64 6 x3)] => ∃ n, zdi.l2 (fun y0 y1 => K (.exit 0) [EV.ptr 0 [], EV.ptr 1 []] [some (EV.arr .u64 6 y0), some (EV.arr .u64 6 y1)]) n x0 x1 x2 x3
  | _, _ => False⟩
def zdi.d (a0 : Nat → Int) (a1 : Nat → Int) (K : (Nat → Int) → Prop) : Prop :=
  ∃ n, zdi.l2 (fun y0 y1 => K y0) n 0 a0 a1 fun x => 0
noncomputable def zdi := shut zdi.d
theorem zdi.is : zdi = zdi.d := shut_is _
def zdj.l5.step (again : List UInt8 → Int → (Nat → Int) → (Nat → Int) → Prop) (k0 : Int → (Nat → Int) → Prop) (k1 : (Nat → Int) → (Nat → Int) → Prop) (x0 : List UInt8) (x1 : Int) (x2 : Nat → Int) (x3 : Nat → Int) : Prop :=
  br (ltI x1 ↑(List.length x0)) (gd (leI 0 x1 && ltI x1 ↑(List.length x0)) (br (leI 48 (yaI x0 (Int.toNat x1))) (br (leI (yaI x0 (Int.toNat x1)) 57) (gd (leI 0 (yaH .i64 (yae .i64 (yae .i64 (↑(List.length x0)) 1) x1) 16) && ltI (yaH .i64 (yae .i64 (yae .i64 (↑(List.length x0)) 1) x1) 16) 6) (gd (!ltI (cvI .u64 (yaR .i64 4 (yb6 .i64 (yae .i64 (yae .i64 (↑(List.length x0)) 1) x1) 16))) 0) (gd (leI 0 (yaH .i64 (yae .i64 (yae .i64 (↑(List.length x0)) 1) x1) 16) && ltI (yaH .i64 (yae .i64 (yae .i64 (↑(List.length x0)) 1) x1) 16) 6) (again x0 (yai .i64 x1 1) x2 (upd x3 (Int.toNat (yaH .i64 (yae .i64 (yae .i64 (↑(List.length x0)) 1) x1) 16)) (orI .u64 (x3 (Int.toNat (yaH .i64 (yae .i64 (yae .i64 (↑(List.length x0)) 1) x1) 16))) (ybA .u64 (cvI .u64 (yae .u8 (yaI x0 (Int.toNat x1)) 48)) (cvI .u64 (yaR .i64 4 (yb6 .i64 (yae .i64 (yae .i64 (↑(List.length x0)) 1) x1) 16)))))))))) (br (leI 97 (yaI x0 (Int.toNat x1))) (br (leI (yaI x0 (Int.toNat x1)) 102) (gd (leI 0 (yaH .i64 (yae .i64 (yae .i64 (↑(List.length x0)) 1) x1) 16) && ltI (yaH .i64 (yae .i64 (yae .i64 (↑(List.length x0)) 1) x1) 16) 6) (gd (!ltI (cvI .u64 (yaR .i64 4 (yb6 .i64 (yae .i64 (yae .i64 (↑(List.length x0)) 1) x1) 16))) 0) (gd (leI 0 (yaH .i64 (yae .i64 (yae .i64 (↑(List.length x0)) 1) x1) 16) && ltI (yaH .i64 (yae .i64 (yae .i64 (↑(List.length x0)) 1) x1) 16) 6) (again x0 (yai .i64 x1 1) x2 (upd x3 (Int.toNat (yaH .i64 (yae .i64 (yae .i64 (↑(List.length x0)) 1) x1) 16)) (orI .u64 (x3 (Int.toNat (yaH .i64 (yae .i64 (yae .i64 (↑(List.length x0)) 1) x1) 16))) (ybA .u64 (yai .u64 (cvI .u64 (yae .u8 (yaI x0 (Int.toNat x1)) 97)) 10) (cvI .u64 (yaR .i64 4 (yb6 .i64 (yae .i64 (yae .i64 (↑(List.length x0)) 1) x1) 16)))))))))) (k0 20 fun x => 0)) (k0 20 fun x => 0))) (br (leI 97 (yaI x0 (Int.toNat x1))) (br (leI (yaI x0 (Int.toNat x1)) 102) (gd (leI 0 (yaH .i64 (yae .i64 (yae .i64 (↑(List.length x0)) 1) x1) 16) && ltI (yaH .i64 (yae .i64 (yae .i64 (↑(List.length x0)) 1) x1) 16) 6) (gd (!ltI (cvI .u64 (yaR .i64 4 (yb6 .i64 (yae .i64 (yae .i64 (↑(List.length x0)) 1) x1) 16))) 0) (gd (leI 0 (yaH .i64 (yae .i64 (yae .i64 (↑(List.length x0)) 1) x1) 16) && ltI (yaH .i64 (yae .i64 (yae .i64 (↑(List.length x0)) 1) x1) 16) 6) (again x0 (yai .i64 x1 1) x2 (upd x3 (Int.toNat (yaH .i64 (yae .i64 (yae .i64 (↑(List.length x0)) 1) x1) 16)) (orI .u64 (x3 (Int.toNat (yaH .i64 (yae .i64 (yae .i64 (↑(List.length x0)) 1) x1) 16))) (ybA .u64 (yai .u64 (cvI .u64 (yae .u8 (yaI x0 (Int.toNat x1)) 97)) 10) (cvI .u64 (yaR .i64 4 (yb6 .i64 (yae .i64 (yae .i64 (↑(List.length x0)) 1) x1) 16)))))))))) (k0 20 fun x => 0)) (k0 20 fun x => 0)))) (k1 x2 x3)
def zdj.l5 (k0 : Int → (Nat → Int) → Prop) (k1 : (Nat → Int) → (Nat → Int) → Prop) : Nat → List UInt8 → Int → (Nat → Int) → (Nat → Int) → Prop
  | 0 => fun _ _ _ _ => False
  | n + 1 => zdj.l5.step (zdj.l5 k0 k1 n) k0 k1
def zdj.l5.entry : yao := ⟨LV.mk 20 [(0, 20)] 12 0 false, 0, 77, fun vs H K => match vs, H with
  | [EV.str x0, EV.ptr 0 [], EV.ptr 1 [], EV.int .i64 x1], [some (EV.arr .u64 6 x2), some (EV.arr .u64 6 x3)] => ∃ n, zdj.l5 (fun y0 y1 => K .ret [EV.ptr 0 [], EV.int .i64 y0] [some (EV.arr .u64 6 y1)]) (fun y0 y1 => K (.exit 0) [EV.ptr 0 [], EV.ptr 1 []] [some (EV.arr .u64 6 y0), some (EV.arr .u64 6 y1)]) n x0 x1 x2 x3
  | _, _ => False⟩
def zdj.d (a0 : List UInt8) (K : (Nat → Int) → Int → Prop) : Prop :=
  br (ltI (↑(List.length a0)) 1) (K (fun x => 0) 20) (br (ltI 96 ↑(List.length a0)) (K (fun x => 0) 20) (br (ltI 1 ↑(List.length a0)) (gd (ltI 0 ↑(List.length a0)) (br (eqI (yaI a0 0) 48) (K (fun x => 0) 20) (∃ n, zdj.l5 (fun y0 y1 => K y1 y0) (fun y0 y1 => K y1 0) n a0 0 (fun x => 0) fun x => 0))) (∃ n, zdj.l5 (fun y0 y1 => K y1 y0) (fun y0 y1 => K y1 0) n a0 0 (fun x => 0) fun x => 0)))
noncomputable def zdj := shut zdj.d
theorem zdj.is : zdj = zdj.d := shut_is _
def zdk.l5.step (again : Bool → Int → Int → Int → (Nat → Int) → (Nat → Int) → Prop) (k0 : Bool → (Nat → Int) → Prop) (x0 : Bool) (x1 : Int) (x2 : Int) (x3 : Int) (x4 : Nat → Int) (x5 : Nat → Int) : Prop :=
  br (ltI (yai .i64 x3 x1) 6) (gd (leI 0 (yai .i64 x3 x1) && ltI (yai .i64 x3 x1) 6) (gd (!ltI x2 0) (gd (leI 0 x3 && ltI x3 6) (br (ltI (yai .i64 x3 x1) 5) (gd (leI 0 x3 && ltI x3 6) (gd (leI 0 (yai .i64 (yai .i64 x3 x1) 1) && ltI (yai .i64 (yai .i64 x3 x1) 1) 6) (gd (!ltI (yae .u64 64 x2) 0) (gd (leI 0 x3 && ltI x3 6) (again x0 x1 x2 (yai .i64 x3 1) x4 (upd (upd x5 (Int.toNat x3) (yaQ .u64 (x4 (Int.toNat (yai .i64 x3 x1))) x2)) (Int.toNat x3) (orI .u64 (upd x5 (Int.toNat x3) (yaQ .u64 (x4 (Int.toNat (yai .i64 x3 x1))) x2) (Int.toNat x3)) (ybA .u64 (x4 (Int.toNat (yai .i64 (yai .i64 x3 x1) 1))) (yae .u64 64 x2))))))))) (again x0 x1 x2 (yai .i64 x3 1) x4 (upd x5 (Int.toNat x3) (yaQ .u64 (x4 (Int.toNat (yai .i64 x3 x1))) x2))))))) (k0 x0 x5)
def zdk.l5 (k0 : Bool → (Nat → Int) → Prop) : Nat → Bool → Int → Int → Int → (Nat → Int) → (Nat → Int) → Prop
  | 0 => fun _ _ _ _ _ _ => False
  | n + 1 => zdk.l5.step (zdk.l5 k0 n) k0
def zdk.l5.entry : yao := ⟨LV.mk 48 [(0, 48)] 48 0 false, 0, 60, fun vs H K => match vs, H with
  | [EV.ptr 0 [], EV.ptr 1 [], EV.bool x0, EV.int .i64 x1, EV.int .u64 x2, EV.int .i64 x3], [some (EV.arr .u64 6 x4), some (EV.arr .u64 6 x5)] => ∃ n, zdk.l5 (fun y0 y1 => K (.exit 0) [EV.ptr 0 [], EV.bool y0] [some (EV.arr .u64 6 y1)]) n x0 x1 x2 x3 x4 x5
  | _, _ => False⟩
def zdk.d (a0 : Nat → Int) (a1 : Int) (K : (Nat → Int) → Bool → Prop) : Prop :=
  zdn a1 fun y0 => br (!eqN 6 a0 fun x => 0) (zde a0 fun y0_1 => ∃ n, zdk.l5 (fun y0 y1 => K y1 y0) n (ltI y0_1 y0) (yaH .i64 y0 64) (cvI .u64 (yb6 .i64 y0 64)) 0 a0 fun x => 0) (∃ n, zdk.l5 (fun y0 y1 => K y1 y0) n false (yaH .i64 y0 64) (cvI .u64 (yb6 .i64 y0 64)) 0 a0 fun x => 0)
noncomputable def zdk := shut zdk.d
theorem zdk.is : zdk = zdk.d := shut_is _
def zdl.l4.step (again : Int → Nat → Nat → Int → Int → (Nat → Int) → Nat → (Nat → Int) → Prop) (k0 : Nat → Nat → Nat → (Nat → Int) → Prop) (x0 : Int) (x1 : Nat) (x2 : Nat) (x3 : Int) (x4 : Int) (x5 : Nat → Int) (x6 : Nat) (x7 : Nat → Int) : Prop :=
  br (ltI x4 x3) (gd (leI 0 (yaH .i64 (yae .i64 (yae .i64 x0 1) x4) 16) && ltI (yaH .i64 (yae .i64 (yae .i64 x0 1) x4) 16) 6) (gd (!ltI (cvI .u64 (yaR .i64 4 (yb6 .i64 (yae .i64 (yae .i64 x0 1) x4) 16))) 0) (gd (leI 0 (yhq .u64 (yaQ .u64 (x5 (Int.toNat (yaH .i64 (yae .i64 (yae .i64 x0 1) x4) 16))) (cvI .u64 (yaR .i64 4 (yb6 .i64 (yae .i64 (yae .i64 x0 1) x4) 16)))) 15) && ltI (yhq .u64 (yaQ .u64 (x5 (Int.toNat (yaH .i64 (yae .i64 (yae .i64 x0 1) x4) 16))) (cvI .u64 (yaR .i64 4 (yb6 .i64 (yae .i64 (yae .i64 x0 1) x4) 16)))) 15) 16) (gd (leI 0 x4 && ltI x4 ↑x1) (again x0 x1 x2 x3 (yai .i64 x4 1) x5 x6 (upd x7 (Int.toNat x4) (yaI [48, 49, 50, 51, 52, 53, 54, 55, 56, 57, 97, 98, 99, 100, 101, 102] (Int.toNat (yhq .u64 (yaQ .u64 (x5 (Int.toNat (yaH .i64 (yae .i64 (yae .i64 x0 1) x4) 16))) (cvI .u64 (yaR .i64 4 (yb6 .i64 (yae .i64 (yae .i64 x0 1) x4) 16)))) 15))))))))) (k0 x1 x2 x6 x7)
def zdl.l4 (k0 : Nat → Nat → Nat → (Nat → Int) → Prop) : Nat → Int → Nat → Nat → Int → Int → (Nat → Int) → Nat → (Nat → Int) → Prop
  | 0 => fun _ _ _ _ _ _ _ _ => False
  | n + 1 => zdl.l4.step (zdl.l4 k0 n) k0
def zdl.l4.entry : yao := ⟨LV.mk 16 [(0, 16)] 4 0 false, 0, 40, fun vs H K => match vs, H with
  | [EV.ptr 0 [], EV.int .i64 x0, EV.slice 1 0 x1 (some x2) 1, EV.int .i64 x3, EV.int .i64 x4], [some (EV.arr .u64 6 x5), some (EV.arr .u8 x6 x7)] => ∃ n, zdl.l4 (fun y0 y1 y2 y3 => K (.exit 0) [EV.slice 0 0 y0 (some y1) 1] [some (EV.arr .u8 y2 y3)]) n x0 x1 x2 x3 x4 x5 x6 x7
  | _, _ => False⟩
def zdl.d (a0 : Nat → Int) (K : List UInt8 → Prop) : Prop :=
  zdd a0 fun y0 => gd (leI 0 (yfE 1 (yaH .i64 (yai .i64 y0 3) 4)) && (leI (yfE 1 (yaH .i64 (yai .i64 y0 3) 4)) (yfE 1 (yaH .i64 (yai .i64 y0 3) 4)) && leI (yfE 1 (yaH .i64 (yai .i64 y0 3) 4)) 1099511627776)) (∃ n, zdl.l4 (fun y0 y1 y2 y3 => K (ya1 y0 y3)) n (yfE 1 (yaH .i64 (yai .i64 y0 3) 4)) (Int.toNat (yfE 1 (yaH .i64 (yai .i64 y0 3) 4))) (Int.toNat (yfE 1 (yaH .i64 (yai .i64 y0 3) 4))) (↑(Int.toNat (yfE 1 (yaH .i64 (yai .i64 y0 3) 4)))) 0 a0 (Int.toNat (yfE 1 (yaH .i64 (yai .i64 y0 3) 4))) fun x => 0)
noncomputable def zdl := shut zdl.d
theorem zdl.is : zdl = zdl.d := shut_is _
def zdm.d (a0 : Nat → Int) (K : Int → Int → Bool → Prop) : Prop :=
  br (!eqI (orI .u64 (orI .u64 (orI .u64 (a0 2) (a0 3)) (a0 4)) (a0 5)) 0) (K 0 0 false) (K (a0 1) (a0 0) true)
noncomputable def zdm := shut zdm.d
theorem zdm.is : zdm = zdm.d := shut_is _
end Go.Ev.S

/- The functions as the evaluator has them: what each comes to. -/
set_option maxRecDepth 100000
set_option linter.unusedVariables false
set_option linter.unusedSimpArgs false
namespace Go.Ev.S
open Go Go.Ev
def zbi.d (a0 : List UInt8) (K : Int → Prop) : Prop :=
  br (ltI 16384 ↑(List.length a0)) (K 2) (br (!eqS a0 []) (gd (ltI 0 ↑(List.length a0)) (br (eqI (yaI a0 0) 0) (K 2) (K 0))) (K 0))
noncomputable def zbi := shut zbi.d
theorem zbi.is : zbi = zbi.d := shut_is _
def zbz.d (a0 : List UInt8) (a1 : List UInt8) (K : Bool → Prop) : Prop :=
  zbi a0 fun y0 => br (eqI y0 0) (zbi a1 fun y0 => K (eqI y0 0)) (K false)
noncomputable def zbz := shut zbz.d
theorem zbz.is : zbz = zbz.d := shut_is _
def zbu.l1.step (again : Nat → Nat → Nat → (Nat → Int) → Prop) (k0 : Nat → Nat → Nat → (Nat → Int) → Prop) (x0 : Nat) (x1 : Nat) (x2 : Nat) (x3 : Nat → Int) : Prop :=
  br (ltI 0 ↑x0) (gd (leI 0 (yae .i64 (↑x0) 1) && ltI (yae .i64 (↑x0) 1) ↑x0) (br (eqI (x3 (Int.toNat (yae .i64 (↑x0) 1))) 0) (gd (leI 0 (yae .i64 (↑x0) 1) && leI (yae .i64 (↑x0) 1) ↑x1) (again (Int.toNat (yae .i64 (↑x0) 1) - 0) (x1 - 0) x2 x3)) (k0 x0 x1 x2 x3))) (k0 x0 x1 x2 x3)
def zbu.l1 (k0 : Nat → Nat → Nat → (Nat → Int) → Prop) : Nat → Nat → Nat → Nat → (Nat → Int) → Prop
  | 0 => fun _ _ _ _ => False
  | n + 1 => zbu.l1.step (zbu.l1 k0 n) k0
def zbu.l1.entry : yao := ⟨LV.mk 1 [(0, 1)] 4 1 false, 1, 21, fun vs H K => match vs, H with
  | [EV.slice 0 0 x0 (some x1) 1], [some (EV.arr .u32 x2 x3)] => ∃ n, zbu.l1 (fun y0 y1 y2 y3 => K (.exit 0) [EV.slice 0 0 y0 (some y1) 1] [some (EV.arr .u32 y2 y3)]) n x0 x1 x2 x3
  | _, _ => False⟩
def zbu.d (a0l : Nat) (a0c : Nat) (a0n : Nat) (a0 : Nat → Int) (K : Nat → Nat → Nat → (Nat → Int) → Prop) : Prop :=
  ∃ n, zbu.l1 (fun y0 y1 y2 y3 => K y0 y1 y2 y3) n a0l a0c a0n a0
noncomputable def zbu := shut zbu.d
theorem zbu.is : zbu = zbu.d := shut_is _
def nat_sum.l7.step (again : Nat → (Nat → Int) → Nat → Nat → Int → Int → Nat → (Nat → Int) → Prop) (k0 : Nat → Nat → Nat → (Nat → Int) → Prop) (x0 : Nat) (x1 : Nat → Int) (x2 : Nat) (x3 : Nat) (x4 : Int) (x5 : Int) (x6 : Nat) (x7 : Nat → Int) : Prop :=
  br (ltI x5 ↑x0) (gd (leI 0 x5 && ltI x5 ↑x2) (br (ltI x5 ↑x0) (gd (leI 0 x5 && ltI x5 ↑x0) (gd (leI 0 x5 && ltI x5 ↑x2) (again x0 x1 x2 x3 (yaQ .u64 (yai .u64 (yai .u64 x4 (cvI .u64 (x7 (Int.toNat x5)))) (cvI .u64 (x1 (Int.toNat x5)))) 32) (yai .i64 x5 1) x6 (upd x7 (Int.toNat x5) (cvI .u32 (yai .u64 (yai .u64 x4 (cvI .u64 (x7 (Int.toNat x5)))) (cvI .u64 (x1 (Int.toNat x5))))))))) (gd (leI 0 x5 && ltI x5 ↑x2) (again x0 x1 x2 x3 (yaQ .u64 (yai .u64 x4 (cvI .u64 (x7 (Int.toNat x5)))) 32) (yai .i64 x5 1) x6 (upd x7 (Int.toNat x5) (cvI .u32 (yai .u64 x4 (cvI .u64 (x7 (Int.toNat x5)))))))))) (br (ltI 0 x4) (gd (leI 0 x5 && ltI x5 ↑x2) (br (ltI x5 ↑x0) (gd (leI 0 x5 && ltI x5 ↑x0) (gd (leI 0 x5 && ltI x5 ↑x2) (again x0 x1 x2 x3 (yaQ .u64 (yai .u64 (yai .u64 x4 (cvI .u64 (x7 (Int.toNat x5)))) (cvI .u64 (x1 (Int.toNat x5)))) 32) (yai .i64 x5 1) x6 (upd x7 (Int.toNat x5) (cvI .u32 (yai .u64 (yai .u64 x4 (cvI .u64 (x7 (Int.toNat x5)))) (cvI .u64 (x1 (Int.toNat x5))))))))) (gd (leI 0 x5 && ltI x5 ↑x2) (again x0 x1 x2 x3 (yaQ .u64 (yai .u64 x4 (cvI .u64 (x7 (Int.toNat x5)))) 32) (yai .i64 x5 1) x6 (upd x7 (Int.toNat x5) (cvI .u32 (yai .u64 x4 (cvI .u64 (x7 (Int.toNat x5)))))))))) (k0 x2 x3 x6 x7))
def nat_sum.l7 (k0 : Nat → Nat → Nat → (Nat → Int) → Prop) : Nat → Nat → (Nat → Int) → Nat → Nat → Int → Int → Nat → (Nat → Int) → Prop
  | 0 => fun _ _ _ _ _ _ _ _ => False
  | n + 1 => nat_sum.l7.step (nat_sum.l7 k0 n) k0
def nat_sum.l7.entry : yao := ⟨LV.mk 32 [(0, 32)] 16 0 false, 0, 59, fun vs H K => match vs, H with
  | [EV.rsI .u32 x0 x1, EV.slice 0 0 x2 (some x3) 1, EV.int .u64 x4, EV.int .i64 x5], [some (EV.arr .u32 x6 x7)] => ∃ n, nat_sum.l7 (fun y0 y1 y2 y3 => K (.exit 0) [EV.slice 0 0 y0 (some y1) 1] [some (EV.arr .u32 y2 y3)]) n x0 x1 x2 x3 x4 x5 x6 x7
  | _, _ => False⟩
def nat_sum.d (a0n : Nat) (a0 : Nat → Int) (a1n : Nat) (a1 : Nat → Int) (K : Nat → (Nat → Int) → Prop) : Prop :=
  br (ltI ↑a0n ↑a1n) (gd (leI 0 (yai .i64 (↑a1n) 1) && (leI (yai .i64 (↑a1n) 1) (yai .i64 (↑a1n) 1) && leI (yai .i64 (↑a1n) 1) 1099511627776)) (∃ n, nat_sum.l7 (fun y0 y1 y2 y3 => zbu y0 y1 y2 y3 fun y0 y1 y2 y3 => K y0 y3) n a0n a0 (Int.toNat (yai .i64 (↑a1n) 1)) (Int.toNat (yai .i64 (↑a1n) 1)) 0 0 (Int.toNat (yai .i64 (↑a1n) 1)) (ovl 0 (yhd a1n (Int.toNat (yai .i64 (↑a1n) 1))) a1 fun x => 0))) (gd (leI 0 (yai .i64 (↑a0n) 1) && (leI (yai .i64 (↑a0n) 1) (yai .i64 (↑a0n) 1) && leI (yai .i64 (↑a0n) 1) 1099511627776)) (∃ n, nat_sum.l7 (fun y0 y1 y2 y3 => zbu y0 y1 y2 y3 fun y0 y1 y2 y3 => K y0 y3) n a1n a1 (Int.toNat (yai .i64 (↑a0n) 1)) (Int.toNat (yai .i64 (↑a0n) 1)) 0 0 (Int.toNat (yai .i64 (↑a0n) 1)) (ovl 0 (yhd a0n (Int.toNat (yai .i64 (↑a0n) 1))) a0 fun x => 0)))
noncomputable def nat_sum : Nat → (Nat → Int) → Nat → (Nat → Int) → (Nat → (Nat → Int) → Prop) → Prop := Classical.choose (⟨nat_sum.d, rfl⟩ : ∃ f, f = nat_sum.d)
def zbv.l1.step (again : Nat → (Nat → Int) → Prop) (k0 : Nat → (Nat → Int) → Prop) (x0 : Nat) (x1 : Nat → Int) : Prop :=
  br (ltI 0 ↑x0) (gd (leI 0 (yae .i64 (↑x0) 1) && ltI (yae .i64 (↑x0) 1) ↑x0) (br (eqI (x1 (Int.toNat (yae .i64 (↑x0) 1))) 0) (gd (leI 0 (yae .i64 (↑x0) 1) && leI (yae .i64 (↑x0) 1) ↑x0) (again (Int.toNat (yae .i64 (↑x0) 1) - 0) x1)) (k0 x0 x1))) (k0 x0 x1)
def zbv.l1 (k0 : Nat → (Nat → Int) → Prop) : Nat → Nat → (Nat → Int) → Prop
  | 0 => fun _ _ => False
  | n + 1 => zbv.l1.step (zbv.l1 k0 n) k0
def zbv.l1.entry : yao := ⟨LV.mk 1 [(0, 1)] 4 0 false, 0, 21, fun vs H K => match vs, H with
  | [EV.rsI .u32 x0 x1], [] => ∃ n, zbv.l1 (fun y0 y1 => K (.exit 0) [EV.rsI .u32 y0 y1] []) n x0 x1
  | _, _ => False⟩
def zbv.d (a0n : Nat) (a0 : Nat → Int) (K : Nat → (Nat → Int) → Prop) : Prop :=
  ∃ n, zbv.l1 (fun y0 y1 => K y0 y1) n a0n a0
noncomputable def zbv := shut zbv.d
theorem zbv.is : zbv = zbv.d := shut_is _
def zbx.l4.step (again : Nat → (Nat → Int) → Nat → Nat → Int → Int → Nat → (Nat → Int) → Prop) (k0 : Nat → Nat → Nat → (Nat → Int) → Prop) (x0 : Nat) (x1 : Nat → Int) (x2 : Nat) (x3 : Nat) (x4 : Int) (x5 : Int) (x6 : Nat) (x7 : Nat → Int) : Prop :=
  br (ltI x5 x4) (gd (leI 0 (yaH .i64 x5 4) && ltI (yaH .i64 x5 4) ↑x0) (gd (!ltI (cvI .u64 (yaR .i64 8 (yb6 .i64 x5 4))) 0) (gd (leI 0 (yae .i64 (yae .i64 (↑x2) 1) x5) && ltI (yae .i64 (yae .i64 (↑x2) 1) x5) ↑x2) (again x0 x1 x2 x3 x4 (yai .i64 x5 1) x6 (upd x7 (Int.toNat (yae .i64 (yae .i64 (↑x2) 1) x5)) (cvI .u8 (yaQ .u32 (x1 (Int.toNat (yaH .i64 x5 4))) (cvI .u64 (yaR .i64 8 (yb6 .i64 x5 4)))))))))) (k0 x2 x3 x6 x7)
def zbx.l4 (k0 : Nat → Nat → Nat → (Nat → Int) → Prop) : Nat → Nat → (Nat → Int) → Nat → Nat → Int → Int → Nat → (Nat → Int) → Prop
  | 0 => fun _ _ _ _ _ _ _ _ => False
  | n + 1 => zbx.l4.step (zbx.l4 k0 n) k0
def zbx.l4.entry : yao := ⟨LV.mk 8 [(0, 8)] 4 0 false, 0, 48, fun vs H K => match vs, H with
  | [EV.rsI .u32 x0 x1, EV.slice 0 0 x2 (some x3) 1, EV.int .i64 x4, EV.int .i64 x5], [some (EV.arr .u8 x6 x7)] => ∃ n, zbx.l4 (fun y0 y1 y2 y3 => K (.exit 0) [EV.slice 0 0 y0 (some y1) 1] [some (EV.arr .u8 y2 y3)]) n x0 x1 x2 x3 x4 x5 x6 x7
  | _, _ => False⟩
def zbx.l8.step (again : Nat → Nat → Nat → Nat → (Nat → Int) → Prop) (k0 : Nat → Nat → Nat → Nat → (Nat → Int) → Prop) (x0 : Nat) (x1 : Nat) (x2 : Nat) (x3 : Nat) (x4 : Nat → Int) : Prop :=
  br (ltI 0 ↑x1) (gd (ltI 0 ↑x1) (br (eqI (x4 (ygU x0 0)) 0) (gd (leI 1 ↑x1 && leI ↑x1 ↑x2) (again (ygU x0 1) (Int.toNat ↑x1 - 1) (x2 - 1) x3 x4)) (k0 x0 x1 x2 x3 x4))) (k0 x0 x1 x2 x3 x4)
def zbx.l8 (k0 : Nat → Nat → Nat → Nat → (Nat → Int) → Prop) : Nat → Nat → Nat → Nat → Nat → (Nat → Int) → Prop
  | 0 => fun _ _ _ _ _ => False
  | n + 1 => zbx.l8.step (zbx.l8 k0 n) k0
def zbx.l8.entry : yao := ⟨LV.mk 8 [(2, 8)] 4 0 false, 0, 48, fun vs H K => match vs, H with
  | [EV.slice 0 x0 x1 (some x2) 1], [some (EV.arr .u8 x3 x4)] => ∃ n, zbx.l8 (fun y0 y1 y2 y3 y4 => K (.exit 2) [EV.slice 0 y0 y1 (some y2) 1] [some (EV.arr .u8 y3 y4)]) n x0 x1 x2 x3 x4
  | _, _ => False⟩
def zbx.d (a0n : Nat) (a0 : Nat → Int) (K : List UInt8 → Prop) : Prop :=
  zbv a0n a0 fun y0 y1 => gd (leI 0 (yaR .i64 4 ↑y0) && (leI (yaR .i64 4 ↑y0) (yaR .i64 4 ↑y0) && leI (yaR .i64 4 ↑y0) 1099511627776)) (∃ n, zbx.l4 (fun y0 y1 y2 y3 => ∃ n, zbx.l8 (fun y0 y1 y2 y3 y4 => K (ya1 y1 (shift y0 y4))) n 0 y0 y1 y2 y3) n y0 y1 (Int.toNat (yaR .i64 4 ↑y0)) (Int.toNat (yaR .i64 4 ↑y0)) (↑(Int.toNat (yaR .i64 4 ↑y0))) 0 (Int.toNat (yaR .i64 4 ↑y0)) fun x => 0)
noncomputable def zbx := shut zbx.d
theorem zbx.is : zbx = zbx.d := shut_is _
def zca.d (a0n : Nat) (a0 : Nat → Int) (K : List UInt8 → Int → Prop) : Prop :=
  zbx a0n a0 fun y0 => br (ltI 16384 ↑(List.length y0)) (K [] 4) (K y0 0)
noncomputable def zca := shut zca.d
theorem zca.is : zca = zca.d := shut_is _
def zcc.l3.step (again : List UInt8 → Nat → Nat → Int → Int → Nat → (Nat → Int) → Prop) (k0 : Nat → Nat → Nat → (Nat → Int) → Prop) (x0 : List UInt8) (x1 : Nat) (x2 : Nat) (x3 : Int) (x4 : Int) (x5 : Nat) (x6 : Nat → Int) : Prop :=
  br (ltI x4 x3) (gd (leI 0 (yaH .i64 x4 4) && ltI (yaH .i64 x4 4) ↑x1) (gd (leI 0 (yae .i64 (yae .i64 (↑(List.length x0)) 1) x4) && ltI (yae .i64 (yae .i64 (↑(List.length x0)) 1) x4) ↑(List.length x0)) (gd (!ltI (cvI .u64 (yaR .i64 8 (yb6 .i64 x4 4))) 0) (gd (leI 0 (yaH .i64 x4 4) && ltI (yaH .i64 x4 4) ↑x1) (again x0 x1 x2 x3 (yai .i64 x4 1) x5 (upd x6 (Int.toNat (yaH .i64 x4 4)) (orI .u32 (x6 (Int.toNat (yaH .i64 x4 4))) (ybA .u32 (cvI .u32 (yaI x0 (Int.toNat (yae .i64 (yae .i64 (↑(List.length x0)) 1) x4)))) (cvI .u64 (yaR .i64 8 (yb6 .i64 x4 4))))))))))) (k0 x1 x2 x5 x6)
def zcc.l3 (k0 : Nat → Nat → Nat → (Nat → Int) → Prop) : Nat → List UInt8 → Nat → Nat → Int → Int → Nat → (Nat → Int) → Prop
  | 0 => fun _ _ _ _ _ _ _ => False
  | n + 1 => zcc.l3.step (zcc.l3 k0 n) k0
def zcc.l3.entry : yao := ⟨LV.mk 8 [(0, 8)] 4 0 false, 0, 37, fun vs H K => match vs, H with
  | [EV.str x0, EV.slice 0 0 x1 (some x2) 1, EV.int .i64 x3, EV.int .i64 x4], [some (EV.arr .u32 x5 x6)] => ∃ n, zcc.l3 (fun y0 y1 y2 y3 => K (.exit 0) [EV.slice 0 0 y0 (some y1) 1] [some (EV.arr .u32 y2 y3)]) n x0 x1 x2 x3 x4 x5 x6
  | _, _ => False⟩
def zcc.d (a0 : List UInt8) (K : Nat → (Nat → Int) → Prop) : Prop :=
  gd (leI 0 (yaH .i64 (yai .i64 (↑(List.length a0)) 3) 4) && (leI (yaH .i64 (yai .i64 (↑(List.length a0)) 3) 4) (yaH .i64 (yai .i64 (↑(List.length a0)) 3) 4) && leI (yaH .i64 (yai .i64 (↑(List.length a0)) 3) 4) 1099511627776)) (∃ n, zcc.l3 (fun y0 y1 y2 y3 => K y0 y3) n a0 (Int.toNat (yaH .i64 (yai .i64 (↑(List.length a0)) 3) 4)) (Int.toNat (yaH .i64 (yai .i64 (↑(List.length a0)) 3) 4)) (↑(List.length a0)) 0 (Int.toNat (yaH .i64 (yai .i64 (↑(List.length a0)) 3) 4)) fun x => 0)
noncomputable def zcc := shut zcc.d
theorem zcc.is : zcc = zcc.d := shut_is _
def zbs.l6.step (again : Nat → (Nat → Int) → Nat → (Nat → Int) → Int → Prop) (k0 : Int → Prop) (k1 : Prop) (x0 : Nat) (x1 : Nat → Int) (x2 : Nat) (x3 : Nat → Int) (x4 : Int) : Prop :=
  br (leI 0 x4) (gd (leI 0 x4 && ltI x4 ↑x0) (gd (leI 0 x4 && ltI x4 ↑x2) (br (ltI (x1 (Int.toNat x4)) (x3 (Int.toNat x4))) (k0 (-1)) (gd (leI 0 x4 && ltI x4 ↑x0) (gd (leI 0 x4 && ltI x4 ↑x2) (br (ltI (x3 (Int.toNat x4)) (x1 (Int.toNat x4))) (k0 1) (again x0 x1 x2 x3 (yae .i64 x4 1)))))))) k1
def zbs.l6 (k0 : Int → Prop) (k1 : Prop) : Nat → Nat → (Nat → Int) → Nat → (Nat → Int) → Int → Prop
  | 0 => fun _ _ _ _ _ => False
  | n + 1 => zbs.l6.step (zbs.l6 k0 k1 n) k0 k1
def zbs.l6.entry : yao := ⟨LV.mk 0 [(1, 0)] 16 0 false, 0, 45, fun vs H K => match vs, H with
  | [EV.rsI .u32 x0 x1, EV.rsI .u32 x2 x3, EV.int .i64 x4], [] => ∃ n, zbs.l6 (fun y0 => K .ret [EV.int .i64 y0] []) (K (.exit 1) [] []) n x0 x1 x2 x3 x4
  | _, _ => False⟩
def zbs.d (a0n : Nat) (a0 : Nat → Int) (a1n : Nat) (a1 : Nat → Int) (K : Int → Prop) : Prop :=
  br (ltI ↑a0n ↑a1n) (K (-1)) (br (ltI ↑a1n ↑a0n) (K 1) (∃ n, zbs.l6 (fun y0 => K y0) (K 0) n a0n a0 a1n a1 (yae .i64 (↑a0n) 1)))
noncomputable def zbs := shut zbs.d
theorem zbs.is : zbs = zbs.d := shut_is _
def zbj.d (a0 : List UInt8) (a1 : List UInt8) (K : Int → Int → Prop) : Prop :=
  zbz a0 a1 fun y0 => br (!y0) (K 0 2) (zcc a0 fun y0 y1 => zcc a1 fun y0_1 y1_1 => zbs y0 y1 y0_1 y1_1 fun y0 => K y0 0)
noncomputable def zbj := shut zbj.d
theorem zbj.is : zbj = zbj.d := shut_is _
def zbt.l1.step (again : Nat → Nat → (Nat → Int) → Prop) (k0 : Nat → Nat → (Nat → Int) → Prop) (x0 : Nat) (x1 : Nat) (x2 : Nat → Int) : Prop :=
  br (ltI 0 ↑x0) (gd (leI 0 (yae .i64 (↑x0) 1) && ltI (yae .i64 (↑x0) 1) ↑x0) (br (eqI (x2 (Int.toNat (yae .i64 (↑x0) 1))) 0) (gd (leI 0 (yae .i64 (↑x0) 1) && leI (yae .i64 (↑x0) 1) ↑x0) (again (Int.toNat (yae .i64 (↑x0) 1) - 0) x1 x2)) (k0 x0 x1 x2))) (k0 x0 x1 x2)
def zbt.l1 (k0 : Nat → Nat → (Nat → Int) → Prop) : Nat → Nat → Nat → (Nat → Int) → Prop
  | 0 => fun _ _ _ => False
  | n + 1 => zbt.l1.step (zbt.l1 k0 n) k0
def zbt.l1.entry : yao := ⟨LV.mk 1 [(0, 1)] 4 1 false, 1, 21, fun vs H K => match vs, H with
  | [EV.slice 0 0 x0 none 1], [some (EV.arr .u32 x1 x2)] => ∃ n, zbt.l1 (fun y0 y1 y2 => K (.exit 0) [EV.slice 0 0 y0 none 1] [some (EV.arr .u32 y1 y2)]) n x0 x1 x2
  | _, _ => False⟩
def zbt.d (a0l : Nat) (a0n : Nat) (a0 : Nat → Int) (K : Nat → Nat → (Nat → Int) → Prop) : Prop :=
  ∃ n, zbt.l1 (fun y0 y1 y2 => K y0 y1 y2) n a0l a0n a0
noncomputable def zbt := shut zbt.d
theorem zbt.is : zbt = zbt.d := shut_is _
def zbw.l5.step (again : Nat → (Nat → Int) → Int → Nat → Nat → Int → Int → Nat → (Nat → Int) → Prop) (k0 : Nat → Nat → Nat → (Nat → Int) → Prop) (x0 : Nat) (x1 : Nat → Int) (x2 : Int) (x3 : Nat) (x4 : Nat) (x5 : Int) (x6 : Int) (x7 : Nat) (x8 : Nat → Int) : Prop :=
  br (ltI x6 x5) (gd (leI 0 (yai .i64 x6 (yaH .i64 x2 32)) && ltI (yai .i64 x6 (yaH .i64 x2 32)) ↑x0) (br (ltI (yai .i64 (yai .i64 x6 (yaH .i64 x2 32)) 1) ↑x0) (gd (leI 0 (yai .i64 (yai .i64 x6 (yaH .i64 x2 32)) 1) && ltI (yai .i64 (yai .i64 x6 (yaH .i64 x2 32)) 1) ↑x0) (gd (!ltI (cvI .u64 (yb6 .i64 x2 32)) 0) (gd (leI 0 x6 && ltI x6 ↑x3) (again x0 x1 x2 x3 x4 x5 (yai .i64 x6 1) x7 (upd x8 (Int.toNat x6) (cvI .u32 (yaQ .u64 (orI .u64 (cvI .u64 (x1 (Int.toNat (yai .i64 x6 (yaH .i64 x2 32))))) (ybA .u64 (cvI .u64 (x1 (Int.toNat (yai .i64 (yai .i64 x6 (yaH .i64 x2 32)) 1)))) 32)) (cvI .u64 (yb6 .i64 x2 32))))))))) (gd (!ltI (cvI .u64 (yb6 .i64 x2 32)) 0) (gd (leI 0 x6 && ltI x6 ↑x3) (again x0 x1 x2 x3 x4 x5 (yai .i64 x6 1) x7 (upd x8 (Int.toNat x6) (cvI .u32 (yaQ .u64 (cvI .u64 (x1 (Int.toNat (yai .i64 x6 (yaH .i64 x2 32))))) (cvI .u64 (yb6 .i64 x2 32)))))))))) (k0 x3 x4 x7 x8)
def zbw.l5 (k0 : Nat → Nat → Nat → (Nat → Int) → Prop) : Nat → Nat → (Nat → Int) → Int → Nat → Nat → Int → Int → Nat → (Nat → Int) → Prop
  | 0 => fun _ _ _ _ _ _ _ _ _ => False
  | n + 1 => zbw.l5.step (zbw.l5 k0 n) k0
def zbw.l5.entry : yao := ⟨LV.mk 32 [(0, 32)] 16 0 false, 0, 64, fun vs H K => match vs, H with
  | [EV.rsI .u32 x0 x1, EV.int .i64 x2, EV.slice 0 0 x3 (some x4) 1, EV.int .i64 x5, EV.int .i64 x6], [some (EV.arr .u32 x7 x8)] => ∃ n, zbw.l5 (fun y0 y1 y2 y3 => K (.exit 0) [EV.slice 0 0 y0 (some y1) 1] [some (EV.arr .u32 y2 y3)]) n x0 x1 x2 x3 x4 x5 x6 x7 x8
  | _, _ => False⟩
def zbw.d (a0n : Nat) (a0 : Nat → Int) (a1 : Int) (K : Nat → (Nat → Int) → Prop) : Prop :=
  br (leI (↑a0n) (yaH .i64 a1 32)) (K 0 fun x => 0) (gd (leI 0 (yae .i64 (↑a0n) (yaH .i64 a1 32)) && (leI (yae .i64 (↑a0n) (yaH .i64 a1 32)) (yae .i64 (↑a0n) (yaH .i64 a1 32)) && leI (yae .i64 (↑a0n) (yaH .i64 a1 32)) 1099511627776)) (∃ n, zbw.l5 (fun y0 y1 y2 y3 => zbu y0 y1 y2 y3 fun y0 y1 y2 y3 => K y0 y3) n a0n a0 a1 (Int.toNat (yae .i64 (↑a0n) (yaH .i64 a1 32))) (Int.toNat (yae .i64 (↑a0n) (yaH .i64 a1 32))) (↑(Int.toNat (yae .i64 (↑a0n) (yaH .i64 a1 32)))) 0 (Int.toNat (yae .i64 (↑a0n) (yaH .i64 a1 32))) fun x => 0))
noncomputable def zbw := shut zbw.d
theorem zbw.is : zbw = zbw.d := shut_is _
def zcb.l5.step (again : Int → Nat → Nat → Nat → (Nat → Int) → Int → Int → Nat → (Nat → Int) → Prop) (k0 : Nat → Nat → Nat → (Nat → Int) → Prop) (x0 : Int) (x1 : Nat) (x2 : Nat) (x3 : Nat) (x4 : Nat → Int) (x5 : Int) (x6 : Int) (x7 : Nat) (x8 : Nat → Int) : Prop :=
  br (ltI x6 x5) (gd (leI 0 x6 && ltI x6 ↑x3) (gd (!ltI (cvI .u64 (yb6 .i64 x0 32)) 0) (gd (leI 0 (yai .i64 x6 (yaH .i64 x0 32)) && ltI (yai .i64 x6 (yaH .i64 x0 32)) ↑x1) (gd (leI 0 (yai .i64 x6 (yaH .i64 x0 32)) && ltI (yai .i64 x6 (yaH .i64 x0 32)) ↑x1) (gd (leI 0 (yai .i64 (yai .i64 x6 (yaH .i64 x0 32)) 1) && ltI (yai .i64 (yai .i64 x6 (yaH .i64 x0 32)) 1) ↑x1) (gd (leI 0 (yai .i64 (yai .i64 x6 (yaH .i64 x0 32)) 1) && ltI (yai .i64 (yai .i64 x6 (yaH .i64 x0 32)) 1) ↑x1) (again x0 x1 x2 x3 x4 x5 (yai .i64 x6 1) x7 (upd (upd x8 (Int.toNat (yai .i64 x6 (yaH .i64 x0 32))) (orI .u32 (x8 (Int.toNat (yai .i64 x6 (yaH .i64 x0 32)))) (cvI .u32 (ybA .u64 (cvI .u64 (x4 (Int.toNat x6))) (cvI .u64 (yb6 .i64 x0 32)))))) (Int.toNat (yai .i64 (yai .i64 x6 (yaH .i64 x0 32)) 1)) (orI .u32 (upd x8 (Int.toNat (yai .i64 x6 (yaH .i64 x0 32))) (orI .u32 (x8 (Int.toNat (yai .i64 x6 (yaH .i64 x0 32)))) (cvI .u32 (ybA .u64 (cvI .u64 (x4 (Int.toNat x6))) (cvI .u64 (yb6 .i64 x0 32))))) (Int.toNat (yai .i64 (yai .i64 x6 (yaH .i64 x0 32)) 1))) (cvI .u32 (yaQ .u64 (ybA .u64 (cvI .u64 (x4 (Int.toNat x6))) (cvI .u64 (yb6 .i64 x0 32))) 32))))))))))) (k0 x1 x2 x7 x8)
def zcb.l5 (k0 : Nat → Nat → Nat → (Nat → Int) → Prop) : Nat → Int → Nat → Nat → Nat → (Nat → Int) → Int → Int → Nat → (Nat → Int) → Prop
  | 0 => fun _ _ _ _ _ _ _ _ _ => False
  | n + 1 => zcb.l5.step (zcb.l5 k0 n) k0
def zcb.l5.entry : yao := ⟨LV.mk 32 [(0, 32)] 16 0 false, 0, 59, fun vs H K => match vs, H with
  | [EV.int .i64 x0, EV.slice 0 0 x1 (some x2) 1, EV.rsI .u32 x3 x4, EV.int .i64 x5, EV.int .i64 x6], [some (EV.arr .u32 x7 x8)] => ∃ n, zcb.l5 (fun y0 y1 y2 y3 => K (.exit 0) [EV.slice 0 0 y0 (some y1) 1] [some (EV.arr .u32 y2 y3)]) n x0 x1 x2 x3 x4 x5 x6 x7 x8
  | _, _ => False⟩
def zcb.d (a0n : Nat) (a0 : Nat → Int) (a1 : Int) (K0 : Prop) (K1 : Nat → Nat → Nat → (Nat → Int) → Prop) : Prop :=
  br (eqI (↑a0n) 0) K0 (gd (leI 0 (yai .i64 (yai .i64 (↑a0n) (yaH .i64 a1 32)) 1) && (leI (yai .i64 (yai .i64 (↑a0n) (yaH .i64 a1 32)) 1) (yai .i64 (yai .i64 (↑a0n) (yaH .i64 a1 32)) 1) && leI (yai .i64 (yai .i64 (↑a0n) (yaH .i64 a1 32)) 1) 1099511627776)) (∃ n, zcb.l5 (fun y0 y1 y2 y3 => zbu y0 y1 y2 y3 fun y0 y1 y2 y3 => K1 y0 y1 y2 y3) n a1 (Int.toNat (yai .i64 (yai .i64 (↑a0n) (yaH .i64 a1 32)) 1)) (Int.toNat (yai .i64 (yai .i64 (↑a0n) (yaH .i64 a1 32)) 1)) a0n a0 (↑a0n) 0 (Int.toNat (yai .i64 (yai .i64 (↑a0n) (yaH .i64 a1 32)) 1)) fun x => 0))
noncomputable def zcb := shut zcb.d
theorem zcb.is : zcb = zcb.d := shut_is _
def zby.l7.step (again : Nat → (Nat → Int) → Nat → (Nat → Int) → Nat → Int → Int → Nat → (Nat → Int) → Prop) (k0 : Nat → Int → Nat → (Nat → Int) → Prop) (x0 : Nat) (x1 : Nat → Int) (x2 : Nat) (x3 : Nat → Int) (x4 : Nat) (x5 : Int) (x6 : Int) (x7 : Nat) (x8 : Nat → Int) : Prop :=
  br (leI 0 x6) (gd (leI 0 x6 && ltI x6 ↑x0) (gd (ltI 0 ↑x2) (gd (!eqI (cvI .u64 (x3 0)) 0) (gd (leI 0 x6 && ltI x6 ↑x4) (gd (ltI 0 ↑x2) (gd (!eqI (cvI .u64 (x3 0)) 0) (again x0 x1 x2 x3 x4 (yb6 .u64 (orI .u64 (ybA .u64 x5 32) (cvI .u64 (x1 (Int.toNat x6)))) (cvI .u64 (x3 0))) (yae .i64 x6 1) x7 (upd x8 (Int.toNat x6) (cvI .u32 (yaH .u64 (orI .u64 (ybA .u64 x5 32) (cvI .u64 (x1 (Int.toNat x6)))) (cvI .u64 (x3 0)))))))))))) (k0 x4 x5 x7 x8)
def zby.l7 (k0 : Nat → Int → Nat → (Nat → Int) → Prop) : Nat → Nat → (Nat → Int) → Nat → (Nat → Int) → Nat → Int → Int → Nat → (Nat → Int) → Prop
  | 0 => fun _ _ _ _ _ _ _ _ _ => False
  | n + 1 => zby.l7.step (zby.l7 k0 n) k0
def zby.l7.entry : yao := ⟨LV.mk 80 [(0, 80)] 48 0 true, 0, 285, fun vs H K => match vs, H with
  | [EV.rsI .u32 x0 x1, EV.rsI .u32 x2 x3, EV.slice 0 0 x4 none 1, EV.int .u64 x5, EV.int .i64 x6], [some (EV.arr .u32 x7 x8)] => ∃ n, zby.l7 (fun y0 y1 y2 y3 => K (.exit 0) [EV.slice 0 0 y0 none 1, EV.int .u64 y1] [some (EV.arr .u32 y2 y3)]) n x0 x1 x2 x3 x4 x5 x6 x7 x8
  | _, _ => False⟩
def zby.l16.step (again : Nat → (Nat → Int) → Nat → Int → Nat → Nat → Nat → (Nat → Int) → Nat → (Nat → Int) → Nat → (Nat → Int) → Prop) (k0 : Nat → Int → Nat → Nat → Nat → (Nat → Int) → Nat → (Nat → Int) → Nat → (Nat → Int) → Prop) (x0 : Nat) (x1 : Nat → Int) (x2 : Nat) (x3 : Int) (x4 : Nat) (x5 : Nat) (x6 : Nat) (x7 : Nat → Int) (x8 : Nat) (x9 : Nat → Int) (x10 : Nat) (x11 : Nat → Int) : Prop :=
  br (ltI (↑x5) (yai .i64 (↑x0) 1)) (gd (leN (x5 + 1) 1099511627776) (again x0 x1 x2 x3 x4 (x5 + 1) x6 x7 x8 x9 (x5 + 1) (app x5 x11 (upd (fun x => 0) 0 0)))) (k0 x2 x3 x4 x5 x6 x7 x8 x9 x10 x11)
def zby.l16 (k0 : Nat → Int → Nat → Nat → Nat → (Nat → Int) → Nat → (Nat → Int) → Nat → (Nat → Int) → Prop) : Nat → Nat → (Nat → Int) → Nat → Int → Nat → Nat → Nat → (Nat → Int) → Nat → (Nat → Int) → Nat → (Nat → Int) → Prop
  | 0 => fun _ _ _ _ _ _ _ _ _ _ _ _ => False
  | n + 1 => zby.l16.step (zby.l16 k0 n) k0
def zby.l16.entry : yao := ⟨LV.mk 1808 [(2, 1808)] 48 0 true, 0, 285, fun vs H K => match vs, H with
  | [EV.rsI .u32 x0 x1, EV.slice 0 0 x2 none 1, EV.int .i64 x3, EV.slice 1 0 x4 none 1, EV.slice 2 0 x5 none 1], [some (EV.arr .u32 x6 x7), some (EV.arr .u32 x8 x9), some (EV.arr .u32 x10 x11)] => ∃ n, zby.l16 (fun y0 y1 y2 y3 y4 y5 y6 y7 y8 y9 => K (.exit 2) [EV.slice 0 0 y0 none 1, EV.int .i64 y1, EV.slice 1 0 y2 none 1, EV.slice 2 0 y3 none 1] [some (EV.arr .u32 y4 y5), some (EV.arr .u32 y6 y7), some (EV.arr .u32 y8 y9)]) n x0 x1 x2 x3 x4 x5 x6 x7 x8 x9 x10 x11
  | _, _ => False⟩
def zby.l24.step (again : Nat → Int → Nat → Nat → Int → Int → Int → Int → Nat → (Nat → Int) → Nat → (Nat → Int) → Nat → (Nat → Int) → Prop) (k0 : Nat → Int → Nat → Nat → Int → Int → Int → Nat → (Nat → Int) → Nat → (Nat → Int) → Nat → (Nat → Int) → Prop) (x0 : Nat) (x1 : Int) (x2 : Nat) (x3 : Nat) (x4 : Int) (x5 : Int) (x6 : Int) (x7 : Int) (x8 : Nat) (x9 : Nat → Int) (x10 : Nat) (x11 : Nat → Int) (x12 : Nat) (x13 : Nat → Int) : Prop :=
  br (leI 4294967296 x6) (gd (leI 0 (yae .i64 x4 1) && ltI (yae .i64 x4 1) ↑x2) (br (leI 4294967296 (yai .u64 x7 (cvI .u64 (x11 (Int.toNat (yae .i64 x4 1)))))) (k0 x0 x1 x2 x3 x4 x5 (yae .u64 x6 1) x8 x9 x10 x11 x12 x13) (again x0 x1 x2 x3 x4 x5 (yae .u64 x6 1) (yai .u64 x7 (cvI .u64 (x11 (Int.toNat (yae .i64 x4 1))))) x8 x9 x10 x11 x12 x13))) (gd (leI 0 (yae .i64 x4 2) && ltI (yae .i64 x4 2) ↑x2) (gd (leI 0 (yae .i64 (yai .i64 x5 x4) 2) && ltI (yae .i64 (yai .i64 x5 x4) 2) ↑x3) (br (ltI (orI .u64 (ybA .u64 x7 32) (cvI .u64 (x13 (Int.toNat (yae .i64 (yai .i64 x5 x4) 2))))) (yaR .u64 x6 (cvI .u64 (x11 (Int.toNat (yae .i64 x4 2)))))) (gd (leI 0 (yae .i64 x4 1) && ltI (yae .i64 x4 1) ↑x2) (br (leI 4294967296 (yai .u64 x7 (cvI .u64 (x11 (Int.toNat (yae .i64 x4 1)))))) (k0 x0 x1 x2 x3 x4 x5 (yae .u64 x6 1) x8 x9 x10 x11 x12 x13) (again x0 x1 x2 x3 x4 x5 (yae .u64 x6 1) (yai .u64 x7 (cvI .u64 (x11 (Int.toNat (yae .i64 x4 1))))) x8 x9 x10 x11 x12 x13))) (k0 x0 x1 x2 x3 x4 x5 x6 x8 x9 x10 x11 x12 x13))))
def zby.l24 (k0 : Nat → Int → Nat → Nat → Int → Int → Int → Nat → (Nat → Int) → Nat → (Nat → Int) → Nat → (Nat → Int) → Prop) : Nat → Nat → Int → Nat → Nat → Int → Int → Int → Int → Nat → (Nat → Int) → Nat → (Nat → Int) → Nat → (Nat → Int) → Prop
  | 0 => fun _ _ _ _ _ _ _ _ _ _ _ _ _ _ => False
  | n + 1 => zby.l24.step (zby.l24 k0 n) k0
def zby.l24.entry : yao := ⟨LV.mk 24336 [(6, 24336), (5, 7952), (4, 1296)] 48 0 true, 0, 285, fun vs H K => match vs, H with
  | [EV.slice 0 0 x0 none 1, EV.int .i64 x1, EV.slice 1 0 x2 none 1, EV.slice 2 0 x3 none 1, EV.int .i64 x4, EV.int .i64 x5, EV.int .u64 x6, EV.int .u64 x7], [some (EV.arr .u32 x8 x9), some (EV.arr .u32 x10 x11), some (EV.arr .u32 x12 x13)] => ∃ n, zby.l24 (fun y0 y1 y2 y3 y4 y5 y6 y7 y8 y9 y10 y11 y12 => K (.exit 6) [EV.slice 0 0 y0 none 1, EV.int .i64 y1, EV.slice 1 0 y2 none 1, EV.slice 2 0 y3 none 1, EV.int .i64 y4, EV.int .i64 y5, EV.int .u64 y6] [some (EV.arr .u32 y7 y8), some (EV.arr .u32 y9 y10), some (EV.arr .u32 y11 y12)]) n x0 x1 x2 x3 x4 x5 x6 x7 x8 x9 x10 x11 x12 x13
  | _, _ => False⟩
def zby.l31.step (again : Nat → Int → Nat → Nat → Int → Int → Int → Int → Int → Int → Int → Nat → (Nat → Int) → Nat → (Nat → Int) → Nat → (Nat → Int) → Prop) (k0 : Nat → Int → Nat → Nat → Int → Int → Int → Int → Int → Nat → (Nat → Int) → Nat → (Nat → Int) → Nat → (Nat → Int) → Prop) (x0 : Nat) (x1 : Int) (x2 : Nat) (x3 : Nat) (x4 : Int) (x5 : Int) (x6 : Int) (x7 : Int) (x8 : Int) (x9 : Int) (x10 : Int) (x11 : Nat) (x12 : Nat → Int) (x13 : Nat) (x14 : Nat → Int) (x15 : Nat) (x16 : Nat → Int) : Prop :=
  br (ltI x10 x9) (gd (leI 0 x10 && ltI x10 ↑x2) (gd (leI 0 (yai .i64 x5 x10) && ltI (yai .i64 x5 x10) ↑x3) (gd (leI 0 (yai .i64 x5 x10) && ltI (yai .i64 x5 x10) ↑x3) (again x0 x1 x2 x3 x4 x5 x6 (yaQ .u64 (yai .u64 x7 (yaR .u64 x6 (cvI .u64 (x14 (Int.toNat x10))))) 32) (yaQ .i64 (yai .i64 x8 (yae .i64 (cvI .i64 (x16 (Int.toNat (yai .i64 x5 x10)))) (cvI .i64 (cvI .u32 (yai .u64 x7 (yaR .u64 x6 (cvI .u64 (x14 (Int.toNat x10))))))))) 32) x9 (yai .i64 x10 1) x11 x12 x13 x14 x15 (upd x16 (Int.toNat (yai .i64 x5 x10)) (cvI .u32 (yai .i64 x8 (yae .i64 (cvI .i64 (x16 (Int.toNat (yai .i64 x5 x10)))) (cvI .i64 (cvI .u32 (yai .u64 x7 (yaR .u64 x6 (cvI .u64 (x14 (Int.toNat x10))))))))))))))) (k0 x0 x1 x2 x3 x4 x5 x6 x7 x8 x11 x12 x13 x14 x15 x16)
def zby.l31 (k0 : Nat → Int → Nat → Nat → Int → Int → Int → Int → Int → Nat → (Nat → Int) → Nat → (Nat → Int) → Nat → (Nat → Int) → Prop) : Nat → Nat → Int → Nat → Nat → Int → Int → Int → Int → Int → Int → Int → Nat → (Nat → Int) → Nat → (Nat → Int) → Nat → (Nat → Int) → Prop
  | 0 => fun _ _ _ _ _ _ _ _ _ _ _ _ _ _ _ _ _ => False
  | n + 1 => zby.l31.step (zby.l31 k0 n) k0
def zby.l31.entry : yao := ⟨LV.mk 220944 [(8, 220944), (5, 7952), (4, 1296)] 48 0 true, 0, 285, fun vs H K => match vs, H with
  | [EV.slice 0 0 x0 none 1, EV.int .i64 x1, EV.slice 1 0 x2 none 1, EV.slice 2 0 x3 none 1, EV.int .i64 x4, EV.int .i64 x5, EV.int .u64 x6, EV.int .u64 x7, EV.int .i64 x8, EV.int .i64 x9, EV.int .i64 x10], [some (EV.arr .u32 x11 x12), some (EV.arr .u32 x13 x14), some (EV.arr .u32 x15 x16)] => ∃ n, zby.l31 (fun y0 y1 y2 y3 y4 y5 y6 y7 y8 y9 y10 y11 y12 y13 y14 => K (.exit 8) [EV.slice 0 0 y0 none 1, EV.int .i64 y1, EV.slice 1 0 y2 none 1, EV.slice 2 0 y3 none 1, EV.int .i64 y4, EV.int .i64 y5, EV.int .u64 y6, EV.int .u64 y7, EV.int .i64 y8] [some (EV.arr .u32 y9 y10), some (EV.arr .u32 y11 y12), some (EV.arr .u32 y13 y14)]) n x0 x1 x2 x3 x4 x5 x6 x7 x8 x9 x10 x11 x12 x13 x14 x15 x16
  | _, _ => False⟩
def zby.l45.step (again : Nat → Int → Nat → Nat → Int → Int → Int → Int → Int → Int → Nat → (Nat → Int) → Nat → (Nat → Int) → Nat → (Nat → Int) → Prop) (k0 : Nat → Int → Nat → Nat → Int → Int → Int → Int → Nat → (Nat → Int) → Nat → (Nat → Int) → Nat → (Nat → Int) → Prop) (x0 : Nat) (x1 : Int) (x2 : Nat) (x3 : Nat) (x4 : Int) (x5 : Int) (x6 : Int) (x7 : Int) (x8 : Int) (x9 : Int) (x10 : Nat) (x11 : Nat → Int) (x12 : Nat) (x13 : Nat → Int) (x14 : Nat) (x15 : Nat → Int) : Prop :=
  br (ltI x9 x8) (gd (leI 0 (yai .i64 x5 x9) && ltI (yai .i64 x5 x9) ↑x3) (gd (leI 0 x9 && ltI x9 ↑x2) (gd (leI 0 (yai .i64 x5 x9) && ltI (yai .i64 x5 x9) ↑x3) (again x0 x1 x2 x3 x4 x5 x6 (yaQ .u64 (yai .u64 x7 (yai .u64 (cvI .u64 (x15 (Int.toNat (yai .i64 x5 x9)))) (cvI .u64 (x13 (Int.toNat x9))))) 32) x8 (yai .i64 x9 1) x10 x11 x12 x13 x14 (upd x15 (Int.toNat (yai .i64 x5 x9)) (cvI .u32 (yai .u64 x7 (yai .u64 (cvI .u64 (x15 (Int.toNat (yai .i64 x5 x9)))) (cvI .u64 (x13 (Int.toNat x9))))))))))) (k0 x0 x1 x2 x3 x4 x5 x6 x7 x10 x11 x12 x13 x14 x15)
def zby.l45 (k0 : Nat → Int → Nat → Nat → Int → Int → Int → Int → Nat → (Nat → Int) → Nat → (Nat → Int) → Nat → (Nat → Int) → Prop) : Nat → Nat → Int → Nat → Nat → Int → Int → Int → Int → Int → Int → Nat → (Nat → Int) → Nat → (Nat → Int) → Nat → (Nat → Int) → Prop
  | 0 => fun _ _ _ _ _ _ _ _ _ _ _ _ _ _ _ _ => False
  | n + 1 => zby.l45.step (zby.l45 k0 n) k0
def zby.l45.entry : yao := ⟨LV.mk 89872 [(10, 89872), (5, 7952), (4, 1296)] 48 0 true, 0, 285, fun vs H K => match vs, H with
  | [EV.slice 0 0 x0 none 1, EV.int .i64 x1, EV.slice 1 0 x2 none 1, EV.slice 2 0 x3 none 1, EV.int .i64 x4, EV.int .i64 x5, EV.int .u64 x6, EV.int .u64 x7, EV.int .i64 x8, EV.int .i64 x9], [some (EV.arr .u32 x10 x11), some (EV.arr .u32 x12 x13), some (EV.arr .u32 x14 x15)] => ∃ n, zby.l45 (fun y0 y1 y2 y3 y4 y5 y6 y7 y8 y9 y10 y11 y12 y13 => K (.exit 10) [EV.slice 0 0 y0 none 1, EV.int .i64 y1, EV.slice 1 0 y2 none 1, EV.slice 2 0 y3 none 1, EV.int .i64 y4, EV.int .i64 y5, EV.int .u64 y6, EV.int .u64 y7] [some (EV.arr .u32 y8 y9), some (EV.arr .u32 y10 y11), some (EV.arr .u32 y12 y13)]) n x0 x1 x2 x3 x4 x5 x6 x7 x8 x9 x10 x11 x12 x13 x14 x15
  | _, _ => False⟩
def zby.l20.step (again : Nat → Int → Nat → Nat → Int → Int → Nat → (Nat → Int) → Nat → (Nat → Int) → Nat → (Nat → Int) → Prop) (k0 : Nat → Int → Nat → Nat → (Nat → Int) → Nat → (Nat → Int) → Prop) (x0 : Nat) (x1 : Int) (x2 : Nat) (x3 : Nat) (x4 : Int) (x5 : Int) (x6 : Nat) (x7 : Nat → Int) (x8 : Nat) (x9 : Nat → Int) (x10 : Nat) (x11 : Nat → Int) : Prop :=
  br (leI 0 x5) (gd (leI 0 (yai .i64 x5 x4) && ltI (yai .i64 x5 x4) ↑x3) (gd (leI 0 (yae .i64 (yai .i64 x5 x4) 1) && ltI (yae .i64 (yai .i64 x5 x4) 1) ↑x3) (gd (leI 0 (yae .i64 x4 1) && ltI (yae .i64 x4 1) ↑x2) (gd (!eqI (cvI .u64 (x9 (Int.toNat (yae .i64 x4 1)))) 0) (gd (leI 0 (yae .i64 x4 1) && ltI (yae .i64 x4 1) ↑x2) (gd (!eqI (cvI .u64 (x9 (Int.toNat (yae .i64 x4 1)))) 0) (∃ n, zby.l24 (fun y0 y1 y2 y3 y4 y5 y6 y7 y8 y9 y10 y11 y12 => ∃ n, zby.l31 (fun y0 y1 y2 y3 y4 y5 y6 y7 y8 y9 y10 y11 y12 y13 y14 => gd (leI 0 (yai .i64 y5 y4) && ltI (yai .i64 y5 y4) ↑y3) (gd (leI 0 (yai .i64 y5 y4) && ltI (yai .i64 y5 y4) ↑y3) (br (ltI (yai .i64 y8 (yae .i64 (cvI .i64 (y14 (Int.toNat (yai .i64 y5 y4)))) (cvI .i64 y7))) 0) (∃ n, zby.l45 (fun y0 y1 y2 y3 y4 y5 y6 y7 y8 y9 y10 y11 y12 y13 => gd (leI 0 (yai .i64 y5 y4) && ltI (yai .i64 y5 y4) ↑y3) (gd (leI 0 (yai .i64 y5 y4) && ltI (yai .i64 y5 y4) ↑y3) (gd (leI 0 y5 && ltI y5 ↑y0) (again y0 y1 y2 y3 y4 (yae .i64 y5 1) y8 (upd y9 (Int.toNat y5) (cvI .u32 y6)) y10 y11 y12 (upd y13 (Int.toNat (yai .i64 y5 y4)) (yai .u32 (y13 (Int.toNat (yai .i64 y5 y4))) (cvI .u32 y7))))))) n y0 y1 y2 y3 y4 y5 (yae .u64 y6 1) 0 y4 0 y9 y10 y11 y12 y13 (upd y14 (Int.toNat (yai .i64 y5 y4)) (cvI .u32 (yai .i64 y8 (yae .i64 (cvI .i64 (y14 (Int.toNat (yai .i64 y5 y4)))) (cvI .i64 y7)))))) (gd (leI 0 y5 && ltI y5 ↑y0) (again y0 y1 y2 y3 y4 (yae .i64 y5 1) y9 (upd y10 (Int.toNat y5) (cvI .u32 y6)) y11 y12 y13 (upd y14 (Int.toNat (yai .i64 y5 y4)) (cvI .u32 (yai .i64 y8 (yae .i64 (cvI .i64 (y14 (Int.toNat (yai .i64 y5 y4)))) (cvI .i64 y7)))))))))) n y0 y1 y2 y3 y4 y5 y6 0 0 y4 0 y7 y8 y9 y10 y11 y12) n x0 x1 x2 x3 x4 x5 (yaH .u64 (orI .u64 (ybA .u64 (cvI .u64 (x11 (Int.toNat (yai .i64 x5 x4)))) 32) (cvI .u64 (x11 (Int.toNat (yae .i64 (yai .i64 x5 x4) 1))))) (cvI .u64 (x9 (Int.toNat (yae .i64 x4 1))))) (yb6 .u64 (orI .u64 (ybA .u64 (cvI .u64 (x11 (Int.toNat (yai .i64 x5 x4)))) 32) (cvI .u64 (x11 (Int.toNat (yae .i64 (yai .i64 x5 x4) 1))))) (cvI .u64 (x9 (Int.toNat (yae .i64 x4 1))))) x6 x7 x8 x9 x10 x11))))))) (k0 x0 x1 x3 x6 x7 x10 x11)
def zby.l20 (k0 : Nat → Int → Nat → Nat → (Nat → Int) → Nat → (Nat → Int) → Prop) : Nat → Nat → Int → Nat → Nat → Int → Int → Nat → (Nat → Int) → Nat → (Nat → Int) → Nat → (Nat → Int) → Prop
  | 0 => fun _ _ _ _ _ _ _ _ _ _ _ _ => False
  | n + 1 => zby.l20.step (zby.l20 k0 n) k0
def zby.l20.entry : yao := ⟨LV.mk 1296 [(4, 1296)] 48 0 true, 0, 285, fun vs H K => match vs, H with
  | [EV.slice 0 0 x0 none 1, EV.int .i64 x1, EV.slice 1 0 x2 none 1, EV.slice 2 0 x3 none 1, EV.int .i64 x4, EV.int .i64 x5], [some (EV.arr .u32 x6 x7), some (EV.arr .u32 x8 x9), some (EV.arr .u32 x10 x11)] => ∃ n, zby.l20 (fun y0 y1 y2 y3 y4 y5 y6 => K (.exit 4) [EV.slice 0 0 y0 none 1, EV.int .i64 y1, EV.slice 1 0 y2 none 1] [some (EV.arr .u32 y3 y4), some (EV.arr .u32 y5 y6)]) n x0 x1 x2 x3 x4 x5 x6 x7 x8 x9 x10 x11
  | _, _ => False⟩
def zby.d (a0n : Nat) (a0 : Nat → Int) (a1n : Nat) (a1 : Nat → Int) (K : Nat → (Nat → Int) → Nat → (Nat → Int) → Prop) : Prop :=
  zbs a0n a0 a1n a1 fun y0 => br (ltI y0 0) (K 0 (fun x => 0) a0n a0) (gd (leI 0 ↑a0n && (leI ↑a0n ↑a0n && leI (↑a0n) 1099511627776)) (br (eqI (↑a1n) 1) (∃ n, zby.l7 (fun y0 y1 y2 y3 => zbt y0 y2 y3 fun y0 y1_1 y2 => zbu 1 1 1 (upd (fun x => 0) 0 (cvI .u32 y1)) fun y0_1 y1 y2_1 y3 => K y0 y2 y0_1 y3) n a0n a0 a1n a1 (Int.toNat ↑a0n) 0 (yae .i64 (↑a0n) 1) (Int.toNat ↑a0n) fun x => 0) (gd (leI 0 (yae .i64 (↑a1n) 1) && ltI (yae .i64 (↑a1n) 1) ↑a1n) (zdo (cvI .u64 (a1 (Int.toNat (yae .i64 (↑a1n) 1)))) fun y0 => zcb a1n a1 (yae .i64 32 y0) False fun y0_1 y1 y2 y3 => zcb a0n a0 (yae .i64 32 y0) False fun y0_2 y1 y2_1 y3_1 => gd (leN (y0_2 + 1) 1099511627776) (∃ n, zby.l16 (fun y0 y1 y2 y3 y4 y5 y6 y7 y8 y9 => ∃ n, zby.l20 (fun y0 y1 y2 y3 y4 y5 y6 => zbt y0 y3 y4 fun y0 y1_1 y2_2 => zbt y2 y5 y6 fun y0_3 y1_2 y2 => zbw y0_3 y2 y1 fun y0_4 y1 => K y0 y2_2 y0_4 y1) n y0 y1 y2 y3 (↑y2) (yae .i64 (yae .i64 ↑y3 ↑y2) 1) y4 y5 y6 y7 y8 y9) n a0n a0 (Int.toNat ↑a0n) (yae .i64 32 y0) y0_1 (y0_2 + 1) (Int.toNat ↑a0n) (fun x => 0) y2 y3 (y0_2 + 1) (app y0_2 y3_1 (upd (fun x => 0) 0 0)))))))
noncomputable def zby := shut zby.d
theorem zby.is : zby = zby.d := shut_is _
def zbk.d (a0 : List UInt8) (a1 : List UInt8) (K : List UInt8 → List UInt8 → Int → Prop) : Prop :=
  zbz a0 a1 fun y0 => br (!y0) (K [] [] 2) (br (eqS a1 []) (K [] [] 2) (zcc a0 fun y0 y1 => zcc a1 fun y0_1 y1_1 => zby y0 y1 y0_1 y1_1 fun y0 y1 y2 y3 => zbx y0 y1 fun y0 => zbx y2 y3 fun y0_2 => K y0 y0_2 0))
noncomputable def zbk := shut zbk.d
theorem zbk.is : zbk = zbk.d := shut_is _
def zbl.l4.step (again : Nat → (Nat → Int) → Nat → (Nat → Int) → Prop) (k0 : Nat → (Nat → Int) → Prop) (x0 : Nat) (x1 : Nat → Int) (x2 : Nat) (x3 : Nat → Int) : Prop :=
  br (ltI 0 ↑x2) (zby x0 x1 x2 x3 fun y0 y1 y2 y3 => again x2 x3 y2 y3) (k0 x0 x1)
def zbl.l4 (k0 : Nat → (Nat → Int) → Prop) : Nat → Nat → (Nat → Int) → Nat → (Nat → Int) → Prop
  | 0 => fun _ _ _ _ => False
  | n + 1 => zbl.l4.step (zbl.l4 k0 n) k0
def zbl.l4.entry : yao := ⟨LV.mk 64 [(0, 64)] 48 0 false, 0, 31, fun vs H K => match vs, H with
  | [EV.rsI .u32 x0 x1, EV.rsI .u32 x2 x3], [] => ∃ n, zbl.l4 (fun y0 y1 => K (.exit 0) [EV.rsI .u32 y0 y1] []) n x0 x1 x2 x3
  | _, _ => False⟩
def zbl.d (a0 : List UInt8) (a1 : List UInt8) (K : List UInt8 → Int → Prop) : Prop :=
  zbz a0 a1 fun y0 => br (!y0) (K [] 2) (zcc a0 fun y0 y1 => zcc a1 fun y0_1 y1_1 => ∃ n, zbl.l4 (fun y0 y1 => zbx y0 y1 fun y0 => K y0 0) n y0 y1 y0_1 y1_1)
noncomputable def zbl := shut zbl.d
theorem zbl.is : zbl = zbl.d := shut_is _
def zbn.d (a0 : List UInt8) (K : Int → Prop) : Prop :=
  zbi a0 fun y0 => br (!eqI y0 0) (K 0) (br (eqS a0 []) (K 0) (gd (ltI 0 ↑(List.length a0)) (zdo (cvI .u64 (yaI a0 0)) fun y0 => K (yai .i64 (yaR .i64 8 (yae .i64 (↑(List.length a0)) 1)) y0))))
noncomputable def zbn := shut zbn.d
theorem zbn.is : zbn = zbn.d := shut_is _
def zbm.d (a0 : List UInt8) (a1 : Int) (K : List UInt8 → Int → Prop) : Prop :=
  zbi a0 fun y0 => br (!eqI y0 0) (K [] 2) (br (ltI a1 0) (K [] 2) (br (eqS a0 []) (K [] 0) (zbn a0 fun y0 => br (ltI (yae .i64 131072 y0) a1) (K [] 4) (zcc a0 fun y0 y1 => zcb y0 y1 a1 (zca 0 (fun x => 0) fun y0 y1 => K y0 y1) fun y0 y1 y2 y3 => zca y0 y3 fun y0 y1 => K y0 y1))))
noncomputable def zbm := shut zbm.d
theorem zbm.is : zbm = zbm.d := shut_is _
def zbo.l4.step (again : List UInt8 → Int → Prop) (k0 : Int → Prop) (k1 : Prop) (x0 : List UInt8) (x1 : Int) : Prop :=
  br (leI 0 x1) (gd (leI 0 x1 && ltI x1 ↑(List.length x0)) (br (!eqI (yaI x0 (Int.toNat x1)) 0) (gd (leI 0 x1 && ltI x1 ↑(List.length x0)) (zdp (cvI .u64 (yaI x0 (Int.toNat x1))) fun y0 => k0 (yai .i64 (yaR .i64 8 (yae .i64 (yae .i64 (↑(List.length x0)) 1) x1)) y0))) (again x0 (yae .i64 x1 1)))) k1
def zbo.l4 (k0 : Int → Prop) (k1 : Prop) : Nat → List UInt8 → Int → Prop
  | 0 => fun _ _ => False
  | n + 1 => zbo.l4.step (zbo.l4 k0 k1 n) k0 k1
def zbo.l4.entry : yao := ⟨LV.mk 0 [(0, 0)] 4 0 false, 0, 30, fun vs H K => match vs, H with
  | [EV.str x0, EV.int .i64 x1], [] => ∃ n, zbo.l4 (fun y0 => K .ret [EV.int .i64 y0] []) (K (.exit 0) [] []) n x0 x1
  | _, _ => False⟩
def zbo.d (a0 : List UInt8) (K : Int → Prop) : Prop :=
  zbi a0 fun y0 => br (!eqI y0 0) (K 0) (∃ n, zbo.l4 (fun y0 => K y0) (K 0) n a0 (yae .i64 (↑(List.length a0)) 1))
noncomputable def zbo := shut zbo.d
theorem zbo.is : zbo = zbo.d := shut_is _
def zbp.d (a0 : Nat → Int) (K : List UInt8 → Prop) : Prop :=
  zbx 12 (app 10 (app 8 (app 6 (app 4 (app 2 (upd (upd (fun x => 0) 0 (cvI .u32 (a0 0))) 1 (cvI .u32 (yaQ .u64 (a0 0) 32))) (upd (upd (fun x => 0) 0 (cvI .u32 (a0 1))) 1 (cvI .u32 (yaQ .u64 (a0 1) 32)))) (upd (upd (fun x => 0) 0 (cvI .u32 (a0 2))) 1 (cvI .u32 (yaQ .u64 (a0 2) 32)))) (upd (upd (fun x => 0) 0 (cvI .u32 (a0 3))) 1 (cvI .u32 (yaQ .u64 (a0 3) 32)))) (upd (upd (fun x => 0) 0 (cvI .u32 (a0 4))) 1 (cvI .u32 (yaQ .u64 (a0 4) 32)))) (upd (upd (fun x => 0) 0 (cvI .u32 (a0 5))) 1 (cvI .u32 (yaQ .u64 (a0 5) 32)))) fun y0 => K y0
noncomputable def zbp := shut zbp.d
theorem zbp.is : zbp = zbp.d := shut_is _
def zbq.d (a0 : List UInt8) (a1 : Int) (K : List UInt8 → Bool → Int → Prop) : Prop :=
  zbi a0 fun y0 => br (!eqI y0 0) (K [] false 2) (br (ltI a1 0) (K [] false 2) (br (eqS a0 []) (K [] false 0) (zcc a0 fun y0 y1 => zbw y0 y1 a1 fun y0 y1 => zbx y0 y1 fun y0 => zbo a0 fun y0_1 => K y0 (ltI y0_1 a1) 0)))
noncomputable def zbq := shut zbq.d
theorem zbq.is : zbq = zbq.d := shut_is _
def zbr.l4.step (again : List UInt8 → Nat → (Nat → Int) → Int → Int → (Nat → Int) → Prop) (k0 : List UInt8 → (Nat → Int) → Prop) (x0 : List UInt8) (x1 : Nat) (x2 : Nat → Int) (x3 : Int) (x4 : Int) (x5 : Nat → Int) : Prop :=
  br (ltI x4 x3) (gd (leI 0 x4 && ltI x4 ↑x1) (gd (leI 0 (yaH .i64 x4 2) && ltI (yaH .i64 x4 2) 6) (gd (!ltI (cvI .u64 (yaR .i64 32 (yb6 .i64 x4 2))) 0) (gd (leI 0 (yaH .i64 x4 2) && ltI (yaH .i64 x4 2) 6) (again x0 x1 x2 x3 (yai .i64 x4 1) (upd x5 (Int.toNat (yaH .i64 x4 2)) (orI .u64 (x5 (Int.toNat (yaH .i64 x4 2))) (ybA .u64 (cvI .u64 (x2 (Int.toNat x4))) (cvI .u64 (yaR .i64 32 (yb6 .i64 x4 2))))))))))) (k0 x0 x5)
def zbr.l4 (k0 : List UInt8 → (Nat → Int) → Prop) : Nat → List UInt8 → Nat → (Nat → Int) → Int → Int → (Nat → Int) → Prop
  | 0 => fun _ _ _ _ _ _ => False
  | n + 1 => zbr.l4.step (zbr.l4 k0 n) k0
def zbr.l4.entry : yao := ⟨LV.mk 5 [(0, 5)] 12 0 false, 0, 43, fun vs H K => match vs, H with
  | [EV.str x0, EV.ptr 0 [], EV.rsI .u32 x1 x2, EV.int .i64 x3, EV.int .i64 x4], [some (EV.arr .u64 6 x5)] => ∃ n, zbr.l4 (fun y0 y1 => K (.exit 0) [EV.str y0, EV.ptr 0 []] [some (EV.arr .u64 6 y1)]) n x0 x1 x2 x3 x4 x5
  | _, _ => False⟩
def zbr.d (a0 : List UInt8) (K : (Nat → Int) → Bool → Prop) : Prop :=
  zbi a0 fun y0 => br (!eqI y0 0) (K (fun x => 0) false) (br (ltI 48 ↑(List.length a0)) (K (fun x => 0) false) (zcc a0 fun y0 y1 => ∃ n, zbr.l4 (fun y0 y1 => zdd y1 fun y0_1 => zbn y0 fun y0 => K y1 (eqI y0_1 y0)) n a0 y0 y1 (↑y0) 0 fun x => 0))
noncomputable def zbr := shut zbr.d
theorem zbr.is : zbr = zbr.d := shut_is _
end Go.Ev.S

/- Numbers in decimal digits: what the library's two functions come to. -/
set_option linter.unusedVariables false
set_option linter.unusedSimpArgs false
namespace Go.Ev.S
open Go Go.Ev
def zcx.d (a0 : Int) (K : List UInt8 → Prop) : Prop := (-9223372036854775808 ≤ a0 ∧ a0 ≤ 9223372036854775807) ∧ K (Go.Lib.itoa a0)
noncomputable def zcx := shut zcx.d
theorem zcx.is : zcx = zcx.d := shut_is _
def zcw.d (a0 : List UInt8) (K : Int → Prop) (K1 : Int → Prop) : Prop := a0.length ≤ 281474976710656 ∧
  match Go.Lib.atoiAll a0 with
  | .ok v => K v
  | .range => K1 (Go.Lib.atoiSat a0)
  | _ => K1 0
noncomputable def zcw := shut zcw.d
theorem zcw.is : zcw = zcw.d := shut_is _
def zar.d (a0 : List UInt8) (a1 : Int) (K : Int → Prop) : Prop := K (Go.Lib.indexByte a0 a1.toNat.toUInt8)
noncomputable def zar := shut zar.d
theorem zar.is : zar = zar.d := shut_is _
end Go.Ev.S

/- The functions as the evaluator has them: what each comes to. -/
set_option maxRecDepth 100000
set_option linter.unusedVariables false
set_option linter.unusedSimpArgs false
namespace Go.Ev.S
open Go Go.Ev
def zag.d (K : Bool → List UInt8 → List UInt8 → Int → Prop) : Prop :=
  K false [] [1] 0
noncomputable def zag := shut zag.d
theorem zag.is : zag = zag.d := shut_is _
def zah.d (a0 : List UInt8) (K : Bool → Prop) : Prop :=
  br (!eqS a0 []) (gd (leI 0 (yae .i64 (↑(List.length a0)) 1) && ltI (yae .i64 (↑(List.length a0)) 1) ↑(List.length a0)) (K (eqI (yhq .u8 (yaI a0 (Int.toNat (yae .i64 (↑(List.length a0)) 1))) 1) 1))) (K false)
noncomputable def zah := shut zah.d
theorem zah.is : zah = zah.d := shut_is _
def zaj.d (a0 : Int) (K : Bool → Prop) : Prop :=
  br (leI (-1048576) a0) (K (leI a0 1048576)) (K false)
noncomputable def zaj := shut zaj.d
theorem zaj.is : zaj = zaj.d := shut_is _
def zac.d (a0_0 : Bool) (a0_1 : List UInt8) (a0_2 : List UInt8) (a0_3 : Int) (K : Int → Prop) : Prop :=
  zbi a0_1 fun y0 => br (!eqI y0 0) (K 2) (zbi a0_2 fun y0 => br (!eqI y0 0) (K 2) (zah a0_2 fun y0 => br (!y0) (K 2) (zaj a0_3 fun y0 => br (!y0) (K 2) (br (eqS a0_1 []) (zag fun y0 y1 y2 y3 => br (!(yf9 a0_0 y0 && (eqS a0_1 y1 && (eqS a0_2 y2 && eqI a0_3 y3)))) (K 2) (K 0)) (zbl a0_1 a0_2 fun y0 y1 => zah a0_1 fun y0_1 => br (!y0_1) (K 2) (br (!eqS y0 [1]) (K 2) (K 0)))))))
noncomputable def zac := shut zac.d
theorem zac.is : zac = zac.d := shut_is _
def zae.d (a0 : Bool) (a1 : List UInt8) (a2 : List UInt8) (a3 : Int) (K : Bool → List UInt8 → List UInt8 → Int → Int → Prop) : Prop :=
  zbi a1 fun y0 => br (!eqI y0 0) (K false [] [] 0 2) (zbi a2 fun y0 => br (!eqI y0 0) (K false [] [] 0 2) (br (eqS a2 []) (K false [] [] 0 2) (zaj a3 fun y0 => br (!y0) (K false [] [] 0 2) (br (eqS a1 []) (zag fun y0 y1 y2 y3 => K y0 y1 y2 y3 0) (zbo a1 fun y0 => zbo a2 fun y0_1 => zbq a1 y0 fun y0_2 y1 y2 => zbq a2 y0_1 fun y0_3 y1 y2 => zbl y0_2 y0_3 fun y0_4 y1 => br (!eqS y0_4 [1]) (zbk y0_2 y0_4 fun y0_5 y1 y2 => zbk y0_3 y0_4 fun y0_6 y1 y2 => zaj (yai .i64 a3 (yae .i64 y0 y0_1)) fun y0_7 => br (!y0_7) (K false [] [] 0 4) (K a0 y0_5 y0_6 (yai .i64 a3 (yae .i64 y0 y0_1)) 0)) (zaj (yai .i64 a3 (yae .i64 y0 y0_1)) fun y0_5 => br (!y0_5) (K false [] [] 0 4) (K a0 y0_2 y0_3 (yai .i64 a3 (yae .i64 y0 y0_1)) 0)))))))
noncomputable def zae := shut zae.d
theorem zae.is : zae = zae.d := shut_is _
def zai.d (a0_0 : Bool) (a0_1 : List UInt8) (a0_2 : List UInt8) (a0_3 : Int) (K : Int → Prop) : Prop :=
  zbn a0_1 fun y0 => zbn a0_2 fun y0_1 => br (leI 0 (yae .i64 y0 y0_1)) (zbm a0_2 (yae .i64 y0 y0_1) fun y0_2 y1 => zbj a0_1 y0_2 fun y0_3 y1 => br (ltI y0_3 0) (K (yai .i64 (yae .i64 (yae .i64 y0 y0_1) 1) a0_3)) (K (yai .i64 (yae .i64 y0 y0_1) a0_3))) (zbm a0_1 (yrT .i64 (yae .i64 y0 y0_1)) fun y0_2 y1 => zbj y0_2 a0_2 fun y0_3 y1 => br (ltI y0_3 0) (K (yai .i64 (yae .i64 (yae .i64 y0 y0_1) 1) a0_3)) (K (yai .i64 (yae .i64 y0 y0_1) a0_3)))
noncomputable def zai := shut zai.d
theorem zai.is : zai = zai.d := shut_is _
def zad.d (a0_0 : Bool) (a0_1 : List UInt8) (a0_2 : List UInt8) (a0_3 : Int) (a1 : Int) (K : List UInt8 → Bool → Int → Prop) : Prop :=
  zac a0_0 a0_1 a0_2 a0_3 fun y0 => br (!eqI y0 0) (K [] false 2) (br (ltI a1 (-2097152)) (K [] false 2) (br (ltI 2097152 a1) (K [] false 2) (br (eqS a0_1 []) (K [] true 0) (br (leI a1 a0_3) (zbm a0_1 (yae .i64 a0_3 a1) fun y0 y1 => br (!eqI y1 0) (K [] false y1) (zbk y0 a0_2 fun y0 y1 y2 => K y0 (eqS y1 []) 0)) (zai a0_0 a0_1 a0_2 a0_3 fun y0 => br (ltI y0 a1) (K [] false 0) (zbm a0_2 (yae .i64 a1 a0_3) fun y0 y1 => zbk a0_1 y0 fun y0 y1 y2 => K y0 (eqS y1 []) 0))))))
noncomputable def zad := shut zad.d
theorem zad.is : zad = zad.d := shut_is _
def zaf.d (a0_0 : Bool) (a0_1 : List UInt8) (a0_2 : List UInt8) (a0_3 : Int) (K : Int → Int → Prop) : Prop :=
  zac a0_0 a0_1 a0_2 a0_3 fun y0 => br (!eqI y0 0) (K 0 2) (br (eqS a0_1 []) (K 0 2) (zai a0_0 a0_1 a0_2 a0_3 fun y0 => K y0 0))
noncomputable def zaf := shut zaf.d
theorem zaf.is : zaf = zaf.d := shut_is _
end Go.Ev.S

/- The functions as the evaluator has them: what each comes to. -/
set_option maxRecDepth 100000
set_option linter.unusedVariables false
set_option linter.unusedSimpArgs false
namespace Go.Ev.S
open Go Go.Ev
def zck.d (a0 : Int) (K : Int → Prop) : Prop :=
  br (ltI 3 a0) (K 2) (K 0)
noncomputable def zck := shut zck.d
theorem zck.is : zck = zck.d := shut_is _
def zcu.d (a0 : Int) (K : Int → Int → Int → List UInt8 → Prop) : Prop :=
  br (leI 4 (cvI .i64 a0)) (K 0 0 0 []) (br (eqI a0 0) (br (eqI a0 0) (br (eqI a0 0) (br (eqI a0 0) (K 32 24 127 [115]) (br (eqI a0 1) (K 32 24 127 [100]) (br (eqI a0 2) (K 32 24 127 [104]) (br (eqI a0 3) (K 32 24 127 [113]) False)))) (br (eqI a0 1) (br (eqI a0 0) (K 32 24 1023 [115]) (br (eqI a0 1) (K 32 24 1023 [100]) (br (eqI a0 2) (K 32 24 1023 [104]) (br (eqI a0 3) (K 32 24 1023 [113]) False)))) (br (eqI a0 2) (br (eqI a0 0) (K 32 24 15 [115]) (br (eqI a0 1) (K 32 24 15 [100]) (br (eqI a0 2) (K 32 24 15 [104]) (br (eqI a0 3) (K 32 24 15 [113]) False)))) (br (eqI a0 3) (br (eqI a0 0) (K 32 24 16383 [115]) (br (eqI a0 1) (K 32 24 16383 [100]) (br (eqI a0 2) (K 32 24 16383 [104]) (br (eqI a0 3) (K 32 24 16383 [113]) False)))) False)))) (br (eqI a0 1) (br (eqI a0 0) (br (eqI a0 0) (K 32 53 127 [115]) (br (eqI a0 1) (K 32 53 127 [100]) (br (eqI a0 2) (K 32 53 127 [104]) (br (eqI a0 3) (K 32 53 127 [113]) False)))) (br (eqI a0 1) (br (eqI a0 0) (K 32 53 1023 [115]) (br (eqI a0 1) (K 32 53 1023 [100]) (br (eqI a0 2) (K 32 53 1023 [104]) (br (eqI a0 3) (K 32 53 1023 [113]) False)))) (br (eqI a0 2) (br (eqI a0 0) (K 32 53 15 [115]) (br (eqI a0 1) (K 32 53 15 [100]) (br (eqI a0 2) (K 32 53 15 [104]) (br (eqI a0 3) (K 32 53 15 [113]) False)))) (br (eqI a0 3) (br (eqI a0 0) (K 32 53 16383 [115]) (br (eqI a0 1) (K 32 53 16383 [100]) (br (eqI a0 2) (K 32 53 16383 [104]) (br (eqI a0 3) (K 32 53 16383 [113]) False)))) False)))) (br (eqI a0 2) (br (eqI a0 0) (br (eqI a0 0) (K 32 11 127 [115]) (br (eqI a0 1) (K 32 11 127 [100]) (br (eqI a0 2) (K 32 11 127 [104]) (br (eqI a0 3) (K 32 11 127 [113]) False)))) (br (eqI a0 1) (br (eqI a0 0) (K 32 11 1023 [115]) (br (eqI a0 1) (K 32 11 1023 [100]) (br (eqI a0 2) (K 32 11 1023 [104]) (br (eqI a0 3) (K 32 11 1023 [113]) False)))) (br (eqI a0 2) (br (eqI a0 0) (K 32 11 15 [115]) (br (eqI a0 1) (K 32 11 15 [100]) (br (eqI a0 2) (K 32 11 15 [104]) (br (eqI a0 3) (K 32 11 15 [113]) False)))) (br (eqI a0 3) (br (eqI a0 0) (K 32 11 16383 [115]) (br (eqI a0 1) (K 32 11 16383 [100]) (br (eqI a0 2) (K 32 11 16383 [104]) (br (eqI a0 3) (K 32 11 16383 [113]) False)))) False)))) (br (eqI a0 3) (br (eqI a0 0) (br (eqI a0 0) (K 32 113 127 [115]) (br (eqI a0 1) (K 32 113 127 [100]) (br (eqI a0 2) (K 32 113 127 [104]) (br (eqI a0 3) (K 32 113 127 [113]) False)))) (br (eqI a0 1) (br (eqI a0 0) (K 32 113 1023 [115]) (br (eqI a0 1) (K 32 113 1023 [100]) (br (eqI a0 2) (K 32 113 1023 [104]) (br (eqI a0 3) (K 32 113 1023 [113]) False)))) (br (eqI a0 2) (br (eqI a0 0) (K 32 113 15 [115]) (br (eqI a0 1) (K 32 113 15 [100]) (br (eqI a0 2) (K 32 113 15 [104]) (br (eqI a0 3) (K 32 113 15 [113]) False)))) (br (eqI a0 3) (br (eqI a0 0) (K 32 113 16383 [115]) (br (eqI a0 1) (K 32 113 16383 [100]) (br (eqI a0 2) (K 32 113 16383 [104]) (br (eqI a0 3) (K 32 113 16383 [113]) False)))) False)))) False)))) (br (eqI a0 1) (br (eqI a0 0) (br (eqI a0 0) (br (eqI a0 0) (K 64 24 127 [115]) (br (eqI a0 1) (K 64 24 127 [100]) (br (eqI a0 2) (K 64 24 127 [104]) (br (eqI a0 3) (K 64 24 127 [113]) False)))) (br (eqI a0 1) (br (eqI a0 0) (K 64 24 1023 [115]) (br (eqI a0 1) (K 64 24 1023 [100]) (br (eqI a0 2) (K 64 24 1023 [104]) (br (eqI a0 3) (K 64 24 1023 [113]) False)))) (br (eqI a0 2) (br (eqI a0 0) (K 64 24 15 [115]) (br (eqI a0 1) (K 64 24 15 [100]) (br (eqI a0 2) (K 64 24 15 [104]) (br (eqI a0 3) (K 64 24 15 [113]) False)))) (br (eqI a0 3) (br (eqI a0 0) (K 64 24 16383 [115]) (br (eqI a0 1) (K 64 24 16383 [100]) (br (eqI a0 2) (K 64 24 16383 [104]) (br (eqI a0 3) (K 64 24 16383 [113]) False)))) False)))) (br (eqI a0 1) (br (eqI a0 0) (br (eqI a0 0) (K 64 53 127 [115]) (br (eqI a0 1) (K 64 53 127 [100]) (br (eqI a0 2) (K 64 53 127 [104]) (br (eqI a0 3) (K 64 53 127 [113]) False)))) (br (eqI a0 1) (br (eqI a0 0) (K 64 53 1023 [115]) (br (eqI a0 1) (K 64 53 1023 [100]) (br (eqI a0 2) (K 64 53 1023 [104]) (br (eqI a0 3) (K 64 53 1023 [113]) False)))) (br (eqI a0 2) (br (eqI a0 0) (K 64 53 15 [115]) (br (eqI a0 1) (K 64 53 15 [100]) (br (eqI a0 2) (K 64 53 15 [104]) (br (eqI a0 3) (K 64 53 15 [113]) False)))) (br (eqI a0 3) (br (eqI a0 0) (K 64 53 16383 [115]) (br (eqI a0 1) (K 64 53 16383 [100]) (br (eqI a0 2) (K 64 53 16383 [104]) (br (eqI a0 3) (K 64 53 16383 [113]) False)))) False)))) (br (eqI a0 2) (br (eqI a0 0) (br (eqI a0 0) (K 64 11 127 [115]) (br (eqI a0 1) (K 64 11 127 [100]) (br (eqI a0 2) (K 64 11 127 [104]) (br (eqI a0 3) (K 64 11 127 [113]) False)))) (br (eqI a0 1) (br (eqI a0 0) (K 64 11 1023 [115]) (br (eqI a0 1) (K 64 11 1023 [100]) (br (eqI a0 2) (K 64 11 1023 [104]) (br (eqI a0 3) (K 64 11 1023 [113]) False)))) (br (eqI a0 2) (br (eqI a0 0) (K 64 11 15 [115]) (br (eqI a0 1) (K 64 11 15 [100]) (br (eqI a0 2) (K 64 11 15 [104]) (br (eqI a0 3) (K 64 11 15 [113]) False)))) (br (eqI a0 3) (br (eqI a0 0) (K 64 11 16383 [115]) (br (eqI a0 1) (K 64 11 16383 [100]) (br (eqI a0 2) (K 64 11 16383 [104]) (br (eqI a0 3) (K 64 11 16383 [113]) False)))) False)))) (br (eqI a0 3) (br (eqI a0 0) (br (eqI a0 0) (K 64 113 127 [115]) (br (eqI a0 1) (K 64 113 127 [100]) (br (eqI a0 2) (K 64 113 127 [104]) (br (eqI a0 3) (K 64 113 127 [113]) False)))) (br (eqI a0 1) (br (eqI a0 0) (K 64 113 1023 [115]) (br (eqI a0 1) (K 64 113 1023 [100]) (br (eqI a0 2) (K 64 113 1023 [104]) (br (eqI a0 3) (K 64 113 1023 [113]) False)))) (br (eqI a0 2) (br (eqI a0 0) (K 64 113 15 [115]) (br (eqI a0 1) (K 64 113 15 [100]) (br (eqI a0 2) (K 64 113 15 [104]) (br (eqI a0 3) (K 64 113 15 [113]) False)))) (br (eqI a0 3) (br (eqI a0 0) (K 64 113 16383 [115]) (br (eqI a0 1) (K 64 113 16383 [100]) (br (eqI a0 2) (K 64 113 16383 [104]) (br (eqI a0 3) (K 64 113 16383 [113]) False)))) False)))) False)))) (br (eqI a0 2) (br (eqI a0 0) (br (eqI a0 0) (br (eqI a0 0) (K 16 24 127 [115]) (br (eqI a0 1) (K 16 24 127 [100]) (br (eqI a0 2) (K 16 24 127 [104]) (br (eqI a0 3) (K 16 24 127 [113]) False)))) (br (eqI a0 1) (br (eqI a0 0) (K 16 24 1023 [115]) (br (eqI a0 1) (K 16 24 1023 [100]) (br (eqI a0 2) (K 16 24 1023 [104]) (br (eqI a0 3) (K 16 24 1023 [113]) False)))) (br (eqI a0 2) (br (eqI a0 0) (K 16 24 15 [115]) (br (eqI a0 1) (K 16 24 15 [100]) (br (eqI a0 2) (K 16 24 15 [104]) (br (eqI a0 3) (K 16 24 15 [113]) False)))) (br (eqI a0 3) (br (eqI a0 0) (K 16 24 16383 [115]) (br (eqI a0 1) (K 16 24 16383 [100]) (br (eqI a0 2) (K 16 24 16383 [104]) (br (eqI a0 3) (K 16 24 16383 [113]) False)))) False)))) (br (eqI a0 1) (br (eqI a0 0) (br (eqI a0 0) (K 16 53 127 [115]) (br (eqI a0 1) (K 16 53 127 [100]) (br (eqI a0 2) (K 16 53 127 [104]) (br (eqI a0 3) (K 16 53 127 [113]) False)))) (br (eqI a0 1) (br (eqI a0 0) (K 16 53 1023 [115]) (br (eqI a0 1) (K 16 53 1023 [100]) (br (eqI a0 2) (K 16 53 1023 [104]) (br (eqI a0 3) (K 16 53 1023 [113]) False)))) (br (eqI a0 2) (br (eqI a0 0) (K 16 53 15 [115]) (br (eqI a0 1) (K 16 53 15 [100]) (br (eqI a0 2) (K 16 53 15 [104]) (br (eqI a0 3) (K 16 53 15 [113]) False)))) (br (eqI a0 3) (br (eqI a0 0) (K 16 53 16383 [115]) (br (eqI a0 1) (K 16 53 16383 [100]) (br (eqI a0 2) (K 16 53 16383 [104]) (br (eqI a0 3) (K 16 53 16383 [113]) False)))) False)))) (br (eqI a0 2) (br (eqI a0 0) (br (eqI a0 0) (K 16 11 127 [115]) (br (eqI a0 1) (K 16 11 127 [100]) (br (eqI a0 2) (K 16 11 127 [104]) (br (eqI a0 3) (K 16 11 127 [113]) False)))) (br (eqI a0 1) (br (eqI a0 0) (K 16 11 1023 [115]) (br (eqI a0 1) (K 16 11 1023 [100]) (br (eqI a0 2) (K 16 11 1023 [104]) (br (eqI a0 3) (K 16 11 1023 [113]) False)))) (br (eqI a0 2) (br (eqI a0 0) (K 16 11 15 [115]) (br (eqI a0 1) (K 16 11 15 [100]) (br (eqI a0 2) (K 16 11 15 [104]) (br (eqI a0 3) (K 16 11 15 [113]) False)))) (br (eqI a0 3) (br (eqI a0 0) (K 16 11 16383 [115]) (br (eqI a0 1) (K 16 11 16383 [100]) (br (eqI a0 2) (K 16 11 16383 [104]) (br (eqI a0 3) (K 16 11 16383 [113]) False)))) False)))) (br (eqI a0 3) (br (eqI a0 0) (br (eqI a0 0) (K 16 113 127 [115]) (br (eqI a0 1) (K 16 113 127 [100]) (br (eqI a0 2) (K 16 113 127 [104]) (br (eqI a0 3) (K 16 113 127 [113]) False)))) (br (eqI a0 1) (br (eqI a0 0) (K 16 113 1023 [115]) (br (eqI a0 1) (K 16 113 1023 [100]) (br (eqI a0 2) (K 16 113 1023 [104]) (br (eqI a0 3) (K 16 113 1023 [113]) False)))) (br (eqI a0 2) (br (eqI a0 0) (K 16 113 15 [115]) (br (eqI a0 1) (K 16 113 15 [100]) (br (eqI a0 2) (K 16 113 15 [104]) (br (eqI a0 3) (K 16 113 15 [113]) False)))) (br (eqI a0 3) (br (eqI a0 0) (K 16 113 16383 [115]) (br (eqI a0 1) (K 16 113 16383 [100]) (br (eqI a0 2) (K 16 113 16383 [104]) (br (eqI a0 3) (K 16 113 16383 [113]) False)))) False)))) False)))) (br (eqI a0 3) (br (eqI a0 0) (br (eqI a0 0) (br (eqI a0 0) (K 128 24 127 [115]) (br (eqI a0 1) (K 128 24 127 [100]) (br (eqI a0 2) (K 128 24 127 [104]) (br (eqI a0 3) (K 128 24 127 [113]) False)))) (br (eqI a0 1) (br (eqI a0 0) (K 128 24 1023 [115]) (br (eqI a0 1) (K 128 24 1023 [100]) (br (eqI a0 2) (K 128 24 1023 [104]) (br (eqI a0 3) (K 128 24 1023 [113]) False)))) (br (eqI a0 2) (br (eqI a0 0) (K 128 24 15 [115]) (br (eqI a0 1) (K 128 24 15 [100]) (br (eqI a0 2) (K 128 24 15 [104]) (br (eqI a0 3) (K 128 24 15 [113]) False)))) (br (eqI a0 3) (br (eqI a0 0) (K 128 24 16383 [115]) (br (eqI a0 1) (K 128 24 16383 [100]) (br (eqI a0 2) (K 128 24 16383 [104]) (br (eqI a0 3) (K 128 24 16383 [113]) False)))) False)))) (br (eqI a0 1) (br (eqI a0 0) (br (eqI a0 0) (K 128 53 127 [115]) (br (eqI a0 1) (K 128 53 127 [100]) (br (eqI a0 2) (K 128 53 127 [104]) (br (eqI a0 3) (K 128 53 127 [113]) False)))) (br (eqI a0 1) (br (eqI a0 0) (K 128 53 1023 [115]) (br (eqI a0 1) (K 128 53 1023 [100]) (br (eqI a0 2) (K 128 53 1023 [104]) (br (eqI a0 3) (K 128 53 1023 [113]) False)))) (br (eqI a0 2) (br (eqI a0 0) (K 128 53 15 [115]) (br (eqI a0 1) (K 128 53 15 [100]) (br (eqI a0 2) (K 128 53 15 [104]) (br (eqI a0 3) (K 128 53 15 [113]) False)))) (br (eqI a0 3) (br (eqI a0 0) (K 128 53 16383 [115]) (br (eqI a0 1) (K 128 53 16383 [100]) (br (eqI a0 2) (K 128 53 16383 [104]) (br (eqI a0 3) (K 128 53 16383 [113]) False)))) False)))) (br (eqI a0 2) (br (eqI a0 0) (br (eqI a0 0) (K 128 11 127 [115]) (br (eqI a0 1) (K 128 11 127 [100]) (br (eqI a0 2) (K 128 11 127 [104]) (br (eqI a0 3) (K 128 11 127 [113]) False)))) (br (eqI a0 1) (br (eqI a0 0) (K 128 11 1023 [115]) (br (eqI a0 1) (K 128 11 1023 [100]) (br (eqI a0 2) (K 128 11 1023 [104]) (br (eqI a0 3) (K 128 11 1023 [113]) False)))) (br (eqI a0 2) (br (eqI a0 0) (K 128 11 15 [115]) (br (eqI a0 1) (K 128 11 15 [100]) (br (eqI a0 2) (K 128 11 15 [104]) (br (eqI a0 3) (K 128 11 15 [113]) False)))) (br (eqI a0 3) (br (eqI a0 0) (K 128 11 16383 [115]) (br (eqI a0 1) (K 128 11 16383 [100]) (br (eqI a0 2) (K 128 11 16383 [104]) (br (eqI a0 3) (K 128 11 16383 [113]) False)))) False)))) (br (eqI a0 3) (br (eqI a0 0) (br (eqI a0 0) (K 128 113 127 [115]) (br (eqI a0 1) (K 128 113 127 [100]) (br (eqI a0 2) (K 128 113 127 [104]) (br (eqI a0 3) (K 128 113 127 [113]) False)))) (br (eqI a0 1) (br (eqI a0 0) (K 128 113 1023 [115]) (br (eqI a0 1) (K 128 113 1023 [100]) (br (eqI a0 2) (K 128 113 1023 [104]) (br (eqI a0 3) (K 128 113 1023 [113]) False)))) (br (eqI a0 2) (br (eqI a0 0) (K 128 113 15 [115]) (br (eqI a0 1) (K 128 113 15 [100]) (br (eqI a0 2) (K 128 113 15 [104]) (br (eqI a0 3) (K 128 113 15 [113]) False)))) (br (eqI a0 3) (br (eqI a0 0) (K 128 113 16383 [115]) (br (eqI a0 1) (K 128 113 16383 [100]) (br (eqI a0 2) (K 128 113 16383 [104]) (br (eqI a0 3) (K 128 113 16383 [113]) False)))) False)))) False)))) False))))
noncomputable def zcu := shut zcu.d
theorem zcu.is : zcu = zcu.d := shut_is _
def zcl.d (a0 : Int) (K : Int → Prop) : Prop :=
  zcu a0 fun y0 y1 y2 y3 => K y2
noncomputable def zcl := shut zcl.d
theorem zcl.is : zcl = zcl.d := shut_is _
def zcm.d (a0 : Int) (K : Int → Prop) : Prop :=
  zck a0 fun y0 => br (!eqI y0 0) (K 0) (zcl a0 fun y0 => K (yae .i64 1 y0))
noncomputable def zcm := shut zcm.d
theorem zcm.is : zcm = zcm.d := shut_is _
def zcq.d (a0 : Int) (K : Int → Prop) : Prop :=
  zcu a0 fun y0 y1 y2 y3 => K y0
noncomputable def zcq := shut zcq.d
theorem zcq.is : zcq = zcq.d := shut_is _
def zcn.d (a0 : Int) (a1_0 : Int) (a1_1 : Int) (K : Bool → Prop) : Prop :=
  br (eqI a0 3) (K true) (br (eqI a0 1) (K (eqI a1_0 0)) (br (eqI a0 0) (br (eqI a0 0) (br (eqI a1_0 0) (zcq a0 fun y0 => gd (!ltI (cvI .u64 y0) 0) (K (eqI (yaQ .u64 a1_1 (cvI .u64 y0)) 0))) (K false)) (K false)) (br (eqI a0 2) (br (eqI a1_0 0) (zcq a0 fun y0 => gd (!ltI (cvI .u64 y0) 0) (K (eqI (yaQ .u64 a1_1 (cvI .u64 y0)) 0))) (K false)) (K false))))
noncomputable def zcn := shut zcn.d
theorem zcn.is : zcn = zcn.d := shut_is _
def zcp.d (a0 : Int) (K : Int → Prop) : Prop :=
  zcu a0 fun y0 y1 y2 y3 => K y1
noncomputable def zcp := shut zcp.d
theorem zcp.is : zcp = zcp.d := shut_is _
def zcs.d (a0 : Int) (a1 : Int) (K : Int → Int → Prop) : Prop :=
  br (leI 64 a1) (gd (!ltI (cvI .u64 (yae .i64 a1 64)) 0) (K (ybA .u64 a0 (cvI .u64 (yae .i64 a1 64))) 0)) (gd (!ltI (cvI .u64 a1) 0) (br (ltI 0 a1) (gd (!ltI (cvI .u64 (yae .i64 64 a1)) 0) (K (yaQ .u64 a0 (cvI .u64 (yae .i64 64 a1))) (ybA .u64 a0 (cvI .u64 a1)))) (K 0 (ybA .u64 a0 (cvI .u64 a1)))))
noncomputable def zcs := shut zcs.d
theorem zcs.is : zcs = zcs.d := shut_is _
def zct.d (a0 : Int) (a1 : Int) (K : Int → Int → Prop) : Prop :=
  zcp a0 fun y0 => zcs (cvI .u64 a1) (yae .i64 y0 1) fun y0 y1 => K y0 y1
noncomputable def zct := shut zct.d
theorem zct.is : zct = zct.d := shut_is _
def zcv.d (a0 : Int) (a1_0 : Int) (a1_1 : Int) (a2 : Bool) (K : Int → Int → Prop) : Prop :=
  zck a0 fun y0 => br (!eqI y0 0) (K 0 0) (br a2 (zcq a0 fun y0 => zcs 1 (yae .i64 y0 1) fun y0 y1 => K (orI .u64 a1_0 y0) (orI .u64 a1_1 y1)) (K a1_0 a1_1))
noncomputable def zcv := shut zcv.d
theorem zcv.is : zcv = zcv.d := shut_is _
def zco.d (a0 : Int) (a1 : Bool) (K : Int → Int → Prop) : Prop :=
  zck a0 fun y0 => br (!eqI y0 0) (K 0 0) (zcl a0 fun y0 => zct a0 (yai .i64 (yaR .i64 2 y0) 1) fun y0 y1 => zcv a0 y0 y1 a1 fun y0 y1 => K y0 y1)
noncomputable def zco := shut zco.d
theorem zco.is : zco = zco.d := shut_is _
def zcr.d (a0 : Int) (a1 : Bool) (K : Int → Int → Prop) : Prop :=
  zcv a0 0 0 a1 fun y0 y1 => K y0 y1
noncomputable def zcr := shut zcr.d
theorem zcr.is : zcr = zcr.d := shut_is _
end Go.Ev.S

/- The functions as the evaluator has them: what each comes to. -/
set_option maxRecDepth 100000
set_option linter.unusedVariables false
set_option linter.unusedSimpArgs false
namespace Go.Ev.S
open Go Go.Ev
def zak.d (a0 : Int) (K : Int → Prop) : Prop :=
  K (yaH .i64 (yai .i64 a0 16) 8)
noncomputable def zak := shut zak.d
theorem zak.is : zak = zak.d := shut_is _
def zam.l3.step (again : List UInt8 → Int → Int → Prop) (k0 : List UInt8 → Int → Prop) (x0 : List UInt8) (x1 : Int) (x2 : Int) : Prop :=
  br (ltI x2 ↑(List.length x0)) (gd (leI 0 x2 && ltI x2 ↑(List.length x0)) (again x0 (yai .u32 (yaR .u32 x1 16777619) (cvI .u32 (yaI x0 (Int.toNat x2)))) (yai .i64 x2 1))) (k0 x0 x1)
def zam.l3 (k0 : List UInt8 → Int → Prop) : Nat → List UInt8 → Int → Int → Prop
  | 0 => fun _ _ _ => False
  | n + 1 => zam.l3.step (zam.l3 k0 n) k0
def zam.l3.entry : yao := ⟨LV.mk 17 [(0, 17)] 12 0 false, 0, 39, fun vs H K => match vs, H with
  | [EV.str x0, EV.int .u32 x1, EV.int .i64 x2], [] => ∃ n, zam.l3 (fun y0 y1 => K (.exit 0) [EV.str y0, EV.int .u32 y1] []) n x0 x1 x2
  | _, _ => False⟩
def zam.l8.step (again : Int → Int → Int → Int → Prop) (k0 : Int → Int → Prop) (x0 : Int) (x1 : Int) (x2 : Int) (x3 : Int) : Prop :=
  br (ltI 0 x3) (br (!eqI (yhq .i64 x3 1) 0) (again x0 (yaR .u32 x1 x2) (yaR .u32 x2 x2) (yaQ .i64 x3 1)) (again x0 x1 (yaR .u32 x2 x2) (yaQ .i64 x3 1))) (k0 x0 x1)
def zam.l8 (k0 : Int → Int → Prop) : Nat → Int → Int → Int → Int → Prop
  | 0 => fun _ _ _ _ => False
  | n + 1 => zam.l8.step (zam.l8 k0 n) k0
def zam.l8.entry : yao := ⟨LV.mk 80 [(2, 80)] 12 0 false, 0, 39, fun vs H K => match vs, H with
  | [EV.int .u32 x0, EV.int .u32 x1, EV.int .u32 x2, EV.int .i64 x3], [] => ∃ n, zam.l8 (fun y0 y1 => K (.exit 2) [EV.int .u32 y0, EV.int .u32 y1] []) n x0 x1 x2 x3
  | _, _ => False⟩
def zam.d (a0 : List UInt8) (K : Int → Int → Prop) : Prop :=
  ∃ n, zam.l3 (fun y0 y1 => ∃ n, zam.l8 (fun y0 y1 => K y0 y1) n y1 1 16777619 ↑(List.length y0)) n a0 0 0
noncomputable def zam := shut zam.d
theorem zam.is : zam = zam.d := shut_is _
def zal.l5.step (again : List UInt8 → List UInt8 → Int → Int → Int → Int → Int → Prop) (k0 : List UInt8 → List UInt8 → Int → Int → Int → Int → Prop) (x0 : List UInt8) (x1 : List UInt8) (x2 : Int) (x3 : Int) (x4 : Int) (x5 : Int) (x6 : Int) : Prop :=
  br (ltI x6 x4) (gd (leI 0 x6 && ltI x6 ↑(List.length x0)) (again x0 x1 x2 x3 x4 (yai .u32 (yaR .u32 x5 16777619) (cvI .u32 (yaI x0 (Int.toNat x6)))) (yai .i64 x6 1))) (k0 x0 x1 x2 x3 x4 x5)
def zal.l5 (k0 : List UInt8 → List UInt8 → Int → Int → Int → Int → Prop) : Nat → List UInt8 → List UInt8 → Int → Int → Int → Int → Int → Prop
  | 0 => fun _ _ _ _ _ _ _ => False
  | n + 1 => zal.l5.step (zal.l5 k0 n) k0
def zal.l5.entry : yao := ⟨LV.mk 483 [(0, 483)] 16 0 false, 0, 81, fun vs H K => match vs, H with
  | [EV.str x0, EV.str x1, EV.int .u32 x2, EV.int .u32 x3, EV.int .i64 x4, EV.int .u32 x5, EV.int .i64 x6], [] => ∃ n, zal.l5 (fun y0 y1 y2 y3 y4 y5 => K (.exit 0) [EV.str y0, EV.str y1, EV.int .u32 y2, EV.int .u32 y3, EV.int .i64 y4, EV.int .u32 y5] []) n x0 x1 x2 x3 x4 x5 x6
  | _, _ => False⟩
def zal.l11.step (again : List UInt8 → List UInt8 → Int → Int → Int → Int → Int → Prop) (k0 : Int → Prop) (k1 : Prop) (x0 : List UInt8) (x1 : List UInt8) (x2 : Int) (x3 : Int) (x4 : Int) (x5 : Int) (x6 : Int) : Prop :=
  br (ltI x6 ↑(List.length x0)) (gd (leI 0 x6 && ltI x6 ↑(List.length x0)) (gd (leI 0 (yae .i64 x6 x4) && ltI (yae .i64 x6 x4) ↑(List.length x0)) (br (eqI (yae .u32 (yai .u32 (yaR .u32 x5 16777619) (cvI .u32 (yaI x0 (Int.toNat x6)))) (yaR .u32 x3 (cvI .u32 (yaI x0 (Int.toNat (yae .i64 x6 x4)))))) x2) (gd (leI 0 (yae .i64 (yai .i64 x6 1) x4) && (leI (yae .i64 (yai .i64 x6 1) x4) (yai .i64 x6 1) && leI (yai .i64 x6 1) ↑(List.length x0))) (br (eqS (ykc x0 (Int.toNat (yae .i64 (yai .i64 x6 1) x4)) (Int.toNat (yai .i64 x6 1))) x1) (k0 (yae .i64 (yai .i64 x6 1) x4)) (again x0 x1 x2 x3 x4 (yae .u32 (yai .u32 (yaR .u32 x5 16777619) (cvI .u32 (yaI x0 (Int.toNat x6)))) (yaR .u32 x3 (cvI .u32 (yaI x0 (Int.toNat (yae .i64 x6 x4)))))) (yai .i64 x6 1)))) (again x0 x1 x2 x3 x4 (yae .u32 (yai .u32 (yaR .u32 x5 16777619) (cvI .u32 (yaI x0 (Int.toNat x6)))) (yaR .u32 x3 (cvI .u32 (yaI x0 (Int.toNat (yae .i64 x6 x4)))))) (yai .i64 x6 1))))) k1
def zal.l11 (k0 : Int → Prop) (k1 : Prop) : Nat → List UInt8 → List UInt8 → Int → Int → Int → Int → Int → Prop
  | 0 => fun _ _ _ _ _ _ _ => False
  | n + 1 => zal.l11.step (zal.l11 k0 k1 n) k0 k1
def zal.l11.entry : yao := ⟨LV.mk 0 [(2, 0)] 16 0 false, 0, 81, fun vs H K => match vs, H with
  | [EV.str x0, EV.str x1, EV.int .u32 x2, EV.int .u32 x3, EV.int .i64 x4, EV.int .u32 x5, EV.int .i64 x6], [] => ∃ n, zal.l11 (fun y0 => K .ret [EV.int .i64 y0] []) (K (.exit 2) [] []) n x0 x1 x2 x3 x4 x5 x6
  | _, _ => False⟩
def zal.d (a0 : List UInt8) (a1 : List UInt8) (K : Int → Prop) : Prop :=
  zam a1 fun y0 y1 => ∃ n, zal.l5 (fun y0 y1 y2 y3 y4 y5 => br (eqI y5 y2) (gd (leI 0 y4 && leI y4 ↑(List.length y0)) (br (eqS (ykc y0 0 (Int.toNat y4)) y1) (K 0) (∃ n, zal.l11 (fun y0 => K y0) (K (-1)) n y0 y1 y2 y3 y4 y5 y4))) (∃ n, zal.l11 (fun y0 => K y0) (K (-1)) n y0 y1 y2 y3 y4 y5 y4)) n a0 a1 y0 y1 (↑(List.length a1)) 0 0
noncomputable def zal := shut zal.d
theorem zal.is : zal = zal.d := shut_is _
def zaq.d (a0 : List UInt8) (a1 : List UInt8) (K : Int → Prop) : Prop :=
  br (eqI (↑(List.length a1)) 0) (K 0) (br (eqS a1 a0) (K 0) (br (eqI (↑(List.length a1)) 1) (gd (ltI 0 ↑(List.length a1)) (zar a0 (yaI a1 0) fun y0 => K y0)) (br (leI ↑(List.length a0) ↑(List.length a1)) (K (-1)) False)))
noncomputable def zaq := shut zaq.d
theorem zaq.is : zaq = zaq.d := shut_is _
def zan.d (a0 : List UInt8) (a1 : List UInt8) (K : List UInt8 → List UInt8 → Bool → Prop) : Prop :=
  zaq a0 a1 fun y0 => br (leI 0 y0) (gd (leI 0 y0 && leI y0 ↑(List.length a0)) (gd (leI 0 (yai .i64 y0 ↑(List.length a1)) && (leI (yai .i64 y0 ↑(List.length a1)) ↑(List.length a0) && leI ↑(List.length a0) ↑(List.length a0))) (K (ykc a0 0 (Int.toNat y0)) (ykc a0 (Int.toNat (yai .i64 y0 ↑(List.length a1))) (Int.toNat ↑(List.length a0))) true))) (K a0 [] false)
noncomputable def zan := shut zan.d
theorem zan.is : zan = zan.d := shut_is _
def zap.d (a0 : List UInt8) (a1 : List UInt8) (K : Bool → Prop) : Prop :=
  br (leI ↑(List.length a1) ↑(List.length a0)) (gd (leI 0 ↑(List.length a1) && leI ↑(List.length a1) ↑(List.length a0)) (K (eqS (ykc a0 0 (Int.toNat ↑(List.length a1))) a1))) (K false)
noncomputable def zap := shut zap.d
theorem zap.is : zap = zap.d := shut_is _
def zao.d (a0 : List UInt8) (a1 : List UInt8) (K : List UInt8 → Bool → Prop) : Prop :=
  zap a0 a1 fun y0 => br (!y0) (K a0 false) (gd (leI 0 ↑(List.length a1) && (leI ↑(List.length a1) ↑(List.length a0) && leI ↑(List.length a0) ↑(List.length a0))) (K (ykc a0 (Int.toNat ↑(List.length a1)) (Int.toNat ↑(List.length a0))) true))
noncomputable def zao := shut zao.d
theorem zao.is : zao = zao.d := shut_is _
end Go.Ev.S

/- The functions as the evaluator has them: what each comes to. -/
set_option maxRecDepth 100000
set_option linter.unusedVariables false
set_option linter.unusedSimpArgs false
namespace Go.Ev.S
open Go Go.Ev
def zcy.d (a0 : List UInt8) (a1 : List UInt8) (K : List UInt8 → List UInt8 → Bool → Prop) : Prop :=
  zan a0 a1 fun y0 y1 y2 => K y0 y1 y2
noncomputable def zcy := shut zcy.d
theorem zcy.is : zcy = zcy.d := shut_is _
def zcz.d (a0 : List UInt8) (a1 : List UInt8) (K : List UInt8 → Bool → Prop) : Prop :=
  zao a0 a1 fun y0 y1 => K y0 y1
noncomputable def zcz := shut zcz.d
theorem zcz.is : zcz = zcz.d := shut_is _
end Go.Ev.S

/- The functions as the evaluator has them: what each comes to. -/
set_option maxRecDepth 100000
set_option linter.unusedVariables false
set_option linter.unusedSimpArgs false
namespace Go.Ev.S
open Go Go.Ev
def zbd.d (a0 : Int) (a1_0 : Int) (a1_1 : Int) (K : Bool → Int → (Nat → Int) → Prop) : Prop :=
  zdh a1_0 a1_1 fun y0 => zcp a0 fun y0_1 => zcq a0 fun y0_2 => zdf (yae .i64 y0_1 1) fun y0_3 => zda y0 y0_3 fun y0_4 => zdk y0 (yae .i64 y0_1 1) fun y0_5 y1 => zdb y0 (yae .i64 y0_2 1) fun y0 => gd (!ltI (cvI .u64 (yae .i64 y0_2 y0_1)) 0) (K y0 (yhq .i64 (cvI .i64 (y0_5 0)) (yae .i64 (ybA .i64 1 (cvI .u64 (yae .i64 y0_2 y0_1))) 1)) y0_4)
noncomputable def zbd := shut zbd.d
theorem zbd.is : zbd = zbd.d := shut_is _
def zbc.d (a0 : Int) (a1_0 : Int) (a1_1 : Int) (K : Int → Prop) : Prop :=
  zbd a0 a1_0 a1_1 fun y0 y1 y2 => zcl a0 fun y0_1 => br (eqI y1 (yai .i64 (yaR .i64 2 y0_1) 1)) (br (!eqN 6 y2 fun x => 0) (zcp a0 fun y0 => zdb y2 (yae .i64 y0 2) fun y0 => br y0 (K 9) (K 8)) (br (!eqI y1 0) (br (eqN 6 y2 fun x => 0) (zcl a0 fun y0_2 => br (eqI y1 (yai .i64 (yaR .i64 2 y0_2) 1)) (br y0 (K 0) (K 7)) (br (!eqI y1 0) (br y0 (K 1) (K 6)) (br (!eqN 6 y2 fun x => 0) (br y0 (K 2) (K 5)) (br y0 (K 3) (K 4))))) (br (!eqI y1 0) (br y0 (K 1) (K 6)) (br (!eqN 6 y2 fun x => 0) (br y0 (K 2) (K 5)) (br y0 (K 3) (K 4))))) (br (!eqI y1 0) (br y0 (K 1) (K 6)) (br (!eqN 6 y2 fun x => 0) (br y0 (K 2) (K 5)) (br y0 (K 3) (K 4)))))) (br (!eqI y1 0) (br (eqN 6 y2 fun x => 0) (zcl a0 fun y0_2 => br (eqI y1 (yai .i64 (yaR .i64 2 y0_2) 1)) (br y0 (K 0) (K 7)) (br (!eqI y1 0) (br y0 (K 1) (K 6)) (br (!eqN 6 y2 fun x => 0) (br y0 (K 2) (K 5)) (br y0 (K 3) (K 4))))) (br (!eqI y1 0) (br y0 (K 1) (K 6)) (br (!eqN 6 y2 fun x => 0) (br y0 (K 2) (K 5)) (br y0 (K 3) (K 4))))) (br (!eqI y1 0) (br y0 (K 1) (K 6)) (br (!eqN 6 y2 fun x => 0) (br y0 (K 2) (K 5)) (br y0 (K 3) (K 4)))))
noncomputable def zbc := shut zbc.d
theorem zbc.is : zbc = zbc.d := shut_is _
def zas.d (a0 : Int) (a1_0 : Int) (a1_1 : Int) (K : Int → Int → Prop) : Prop :=
  zcn a0 a1_0 a1_1 fun y0 => br (!y0) (K 0 2) (zbc a0 a1_0 a1_1 fun y0 => K y0 0)
noncomputable def zas := shut zas.d
theorem zas.is : zas = zas.d := shut_is _
def zat.d (a0 : Int) (a1_0 : Int) (a1_1 : Int) (K : Int → Int → Prop) : Prop :=
  zcn a0 a1_0 a1_1 fun y0 => br (!y0) (K 0 0) (zcr a0 true fun y0 y1 => K (yrU .u64 a1_0 y0) (yrU .u64 a1_1 y1))
noncomputable def zat := shut zat.d
theorem zat.is : zat = zat.d := shut_is _
def zbb.d (a0 : Int) (a1 : Bool) (a2 : Int) (a3 : Nat → Int) (K : Int → Int → Prop) : Prop :=
  zdg (cvI .u64 a2) fun y0 => zcp a0 fun y0_1 => zdc y0 (yae .i64 y0_1 1) fun y0 y1 => zdi y0 a3 fun y0 => br a1 (zcq a0 fun y0_2 => gd (leI 0 (yaH .i64 (yae .i64 y0_2 1) 64) && ltI (yaH .i64 (yae .i64 y0_2 1) 64) 6) (gd (!ltI (cvI .u64 (yb6 .i64 (yae .i64 y0_2 1) 64)) 0) (gd (leI 0 (yaH .i64 (yae .i64 y0_2 1) 64) && ltI (yaH .i64 (yae .i64 y0_2 1) 64) 6) (zdm (upd y0 (Int.toNat (yaH .i64 (yae .i64 y0_2 1) 64)) (orI .u64 (y0 (Int.toNat (yaH .i64 (yae .i64 y0_2 1) 64))) (ybA .u64 1 (cvI .u64 (yb6 .i64 (yae .i64 y0_2 1) 64))))) fun y0 y1 y2 => K y0 y1)))) (zdm y0 fun y0 y1 y2 => K y0 y1)
noncomputable def zbb := shut zbb.d
theorem zbb.is : zbb = zbb.d := shut_is _
def zau.d (a0 : Int) (a1_0 : Bool) (a1_1 : List UInt8) (a1_2 : List UInt8) (a1_3 : Int) (K : Int → Int → Bool → Int → Prop) : Prop :=
  zck a0 fun y0 => br (!eqI y0 0) (K 0 0 false 2) (zac a1_0 a1_1 a1_2 a1_3 fun y0 => br (!eqI y0 0) (K 0 0 false 2) (br (eqS a1_1 []) (K 0 0 true 0) (zcp a0 fun y0 => zaf a1_0 a1_1 a1_2 a1_3 fun y0_1 y1 => zcm a0 fun y0_2 => br (!eqS a1_2 [1]) (K 0 0 false 0) (zcl a0 fun y0_3 => br (ltI y0_3 y0_1) (K 0 0 false 0) (br (ltI a1_3 (yai .i64 (yae .i64 (yfE y0_1 y0_2) y0) 1)) (K 0 0 false 0) (zad a1_0 a1_1 a1_2 a1_3 (yai .i64 (yae .i64 (yfE y0_1 y0_2) y0) 1) fun y0_4 y1 y2 => zbr y0_4 fun y0_5 y1 => zdb y0_5 (yae .i64 y0 1) fun y0_6 => br y0_6 (zcm a0 fun y0_7 => zdf (yae .i64 y0 1) fun y0_8 => zda y0_5 y0_8 fun y0_9 => zbb a0 a1_0 (yai .i64 (yae .i64 (yai .i64 (yae .i64 (yfE y0_1 y0_2) y0) 1) y0_7) y0) y0_9 fun y0 y1 => K y0 y1 true 0) (zdf (yae .i64 y0 1) fun y0 => zda y0_5 y0 fun y0 => zbb a0 a1_0 0 y0 fun y0 y1 => K y0 y1 true 0)))))))
noncomputable def zau := shut zau.d
theorem zau.is : zau = zau.d := shut_is _
def zaz.d (a0 : Int) (a1_0 : Int) (a1_1 : Int) (K : Int → (Nat → Int) → Int → (Nat → Int) → Int → Prop) : Prop :=
  zcn a0 a1_0 a1_1 fun y0 => br (!y0) (K 0 (fun x => 0) 0 (fun x => 0) 2) (zcp a0 fun y0 => zbd a0 a1_0 a1_1 fun y0_1 y1 y2 => zbc a0 a1_0 a1_1 fun y0_2 => br (eqI y0_2 8) (br (eqI y0_2 8) (K y0_2 (fun x => 0) 0 y2 0) (br (eqI y0_2 1) (br (eqI y0_2 1) (gd (leI 0 (yaH .i64 (yae .i64 y0 1) 64) && ltI (yaH .i64 (yae .i64 y0 1) 64) 6) (gd (!ltI (cvI .u64 (yb6 .i64 (yae .i64 y0 1) 64)) 0) (gd (leI 0 (yaH .i64 (yae .i64 y0 1) 64) && ltI (yaH .i64 (yae .i64 y0 1) 64) 6) (zcm a0 fun y0_3 => K y0_2 (upd y2 (Int.toNat (yaH .i64 (yae .i64 y0 1) 64)) (orI .u64 (y2 (Int.toNat (yaH .i64 (yae .i64 y0 1) 64))) (ybA .u64 1 (cvI .u64 (yb6 .i64 (yae .i64 y0 1) 64))))) (yai .i64 (yae .i64 (yai .i64 (yae .i64 y1 1) y0_3) y0) 1) (fun x => 0) 0)))) (br (eqI y0_2 2) (br (eqI y0_2 2) (zcm a0 fun y0_3 => K y0_2 y2 (yai .i64 (yae .i64 (yai .i64 y1 y0_3) y0) 1) (fun x => 0) 0) (K y0_2 (fun x => 0) 0 (fun x => 0) 0)) (br (eqI y0_2 5) (zcm a0 fun y0_3 => K y0_2 y2 (yai .i64 (yae .i64 (yai .i64 y1 y0_3) y0) 1) (fun x => 0) 0) (K y0_2 (fun x => 0) 0 (fun x => 0) 0)))) (br (eqI y0_2 6) (gd (leI 0 (yaH .i64 (yae .i64 y0 1) 64) && ltI (yaH .i64 (yae .i64 y0 1) 64) 6) (gd (!ltI (cvI .u64 (yb6 .i64 (yae .i64 y0 1) 64)) 0) (gd (leI 0 (yaH .i64 (yae .i64 y0 1) 64) && ltI (yaH .i64 (yae .i64 y0 1) 64) 6) (zcm a0 fun y0_3 => K y0_2 (upd y2 (Int.toNat (yaH .i64 (yae .i64 y0 1) 64)) (orI .u64 (y2 (Int.toNat (yaH .i64 (yae .i64 y0 1) 64))) (ybA .u64 1 (cvI .u64 (yb6 .i64 (yae .i64 y0 1) 64))))) (yai .i64 (yae .i64 (yai .i64 (yae .i64 y1 1) y0_3) y0) 1) (fun x => 0) 0)))) (br (eqI y0_2 2) (br (eqI y0_2 2) (zcm a0 fun y0_3 => K y0_2 y2 (yai .i64 (yae .i64 (yai .i64 y1 y0_3) y0) 1) (fun x => 0) 0) (K y0_2 (fun x => 0) 0 (fun x => 0) 0)) (br (eqI y0_2 5) (zcm a0 fun y0_3 => K y0_2 y2 (yai .i64 (yae .i64 (yai .i64 y1 y0_3) y0) 1) (fun x => 0) 0) (K y0_2 (fun x => 0) 0 (fun x => 0) 0)))))) (br (eqI y0_2 9) (K y0_2 (fun x => 0) 0 y2 0) (br (eqI y0_2 1) (br (eqI y0_2 1) (gd (leI 0 (yaH .i64 (yae .i64 y0 1) 64) && ltI (yaH .i64 (yae .i64 y0 1) 64) 6) (gd (!ltI (cvI .u64 (yb6 .i64 (yae .i64 y0 1) 64)) 0) (gd (leI 0 (yaH .i64 (yae .i64 y0 1) 64) && ltI (yaH .i64 (yae .i64 y0 1) 64) 6) (zcm a0 fun y0_3 => K y0_2 (upd y2 (Int.toNat (yaH .i64 (yae .i64 y0 1) 64)) (orI .u64 (y2 (Int.toNat (yaH .i64 (yae .i64 y0 1) 64))) (ybA .u64 1 (cvI .u64 (yb6 .i64 (yae .i64 y0 1) 64))))) (yai .i64 (yae .i64 (yai .i64 (yae .i64 y1 1) y0_3) y0) 1) (fun x => 0) 0)))) (br (eqI y0_2 2) (br (eqI y0_2 2) (zcm a0 fun y0_3 => K y0_2 y2 (yai .i64 (yae .i64 (yai .i64 y1 y0_3) y0) 1) (fun x => 0) 0) (K y0_2 (fun x => 0) 0 (fun x => 0) 0)) (br (eqI y0_2 5) (zcm a0 fun y0_3 => K y0_2 y2 (yai .i64 (yae .i64 (yai .i64 y1 y0_3) y0) 1) (fun x => 0) 0) (K y0_2 (fun x => 0) 0 (fun x => 0) 0)))) (br (eqI y0_2 6) (gd (leI 0 (yaH .i64 (yae .i64 y0 1) 64) && ltI (yaH .i64 (yae .i64 y0 1) 64) 6) (gd (!ltI (cvI .u64 (yb6 .i64 (yae .i64 y0 1) 64)) 0) (gd (leI 0 (yaH .i64 (yae .i64 y0 1) 64) && ltI (yaH .i64 (yae .i64 y0 1) 64) 6) (zcm a0 fun y0_3 => K y0_2 (upd y2 (Int.toNat (yaH .i64 (yae .i64 y0 1) 64)) (orI .u64 (y2 (Int.toNat (yaH .i64 (yae .i64 y0 1) 64))) (ybA .u64 1 (cvI .u64 (yb6 .i64 (yae .i64 y0 1) 64))))) (yai .i64 (yae .i64 (yai .i64 (yae .i64 y1 1) y0_3) y0) 1) (fun x => 0) 0)))) (br (eqI y0_2 2) (br (eqI y0_2 2) (zcm a0 fun y0_3 => K y0_2 y2 (yai .i64 (yae .i64 (yai .i64 y1 y0_3) y0) 1) (fun x => 0) 0) (K y0_2 (fun x => 0) 0 (fun x => 0) 0)) (br (eqI y0_2 5) (zcm a0 fun y0_3 => K y0_2 y2 (yai .i64 (yae .i64 (yai .i64 y1 y0_3) y0) 1) (fun x => 0) 0) (K y0_2 (fun x => 0) 0 (fun x => 0) 0)))))))
noncomputable def zaz := shut zaz.d
theorem zaz.is : zaz = zaz.d := shut_is _
def zav.d (a0 : Int) (a1_0 : Int) (a1_1 : Nat → Int) (a1_2 : Int) (a1_3 : Nat → Int) (K : Int → Int → Int → Prop) : Prop :=
  zck a0 fun y0 => br (!eqI y0 0) (K 0 0 2) (zcp a0 fun y0 => br (eqI a1_0 0) (br (eqI a1_0 0) (zco a0 (ltI a1_0 4) fun y0 y1 => zaz a0 y0 y1 fun y0_1 y1_1 y2 y3 y4 => br (!(eqI y0_1 a1_0 && (eqN 6 y1_1 a1_1 && (eqI y2 a1_2 && eqN 6 y3 a1_3)))) (K 0 0 80) (K y0 y1 0)) (br (eqI a1_0 3) (br (eqI a1_0 3) (zcr a0 (ltI a1_0 4) fun y0 y1 => zaz a0 y0 y1 fun y0_1 y1_1 y2 y3 y4 => br (!(eqI y0_1 a1_0 && (eqN 6 y1_1 a1_1 && (eqI y2 a1_2 && eqN 6 y3 a1_3)))) (K 0 0 80) (K y0 y1 0)) (br (eqI a1_0 8) (br (eqI a1_0 8) (zdd a1_3 fun y0_1 => br (leI y0 y0_1) (K 0 0 80) (zcl a0 fun y0 => zbb a0 false (yai .i64 (yaR .i64 2 y0) 1) a1_3 fun y0 y1 => zaz a0 y0 y1 fun y0_2 y1_1 y2 y3 y4 => br (!(eqI y0_2 a1_0 && (eqN 6 y1_1 a1_1 && (eqI y2 a1_2 && eqN 6 y3 a1_3)))) (K 0 0 80) (K y0 y1 0))) (br (eqI a1_0 2) (br (eqI a1_0 2) (zcm a0 fun y0_1 => zdd a1_1 fun y0_2 => br (ltI y0 y0_2) (K 0 0 80) (br (ltI (yai .i64 (yae .i64 a1_2 y0_1) y0) 1) (K 0 0 80) (zcl a0 fun y0_3 => br (ltI (yaR .i64 2 y0_3) (yai .i64 (yae .i64 a1_2 y0_1) y0)) (K 0 0 80) (zdb a1_1 (yae .i64 y0 1) fun y0_4 => br (!y0_4) (zdf (yae .i64 y0 1) fun y0 => zda a1_1 y0 fun y0 => zbb a0 (ltI a1_0 4) 0 y0 fun y0 y1 => zaz a0 y0 y1 fun y0_5 y1_1 y2 y3 y4 => br (!(eqI y0_5 a1_0 && (eqN 6 y1_1 a1_1 && (eqI y2 a1_2 && eqN 6 y3 a1_3)))) (K 0 0 80) (K y0 y1 0)) (zdf (yae .i64 y0 1) fun y0_5 => zda a1_1 y0_5 fun y0_6 => zbb a0 (ltI a1_0 4) (yai .i64 (yae .i64 a1_2 y0_1) y0) y0_6 fun y0 y1 => zaz a0 y0 y1 fun y0_7 y1_1 y2 y3 y4 => br (!(eqI y0_7 a1_0 && (eqN 6 y1_1 a1_1 && (eqI y2 a1_2 && eqN 6 y3 a1_3)))) (K 0 0 80) (K y0 y1 0)))))) (zaz a0 0 0 fun y0 y1 y2 y3 y4 => br (!(eqI y0 a1_0 && (eqN 6 y1 a1_1 && (eqI y2 a1_2 && eqN 6 y3 a1_3)))) (K 0 0 80) (K 0 0 0))) (br (eqI a1_0 5) (br (eqI a1_0 5) (zcm a0 fun y0_1 => zdd a1_1 fun y0_2 => br (ltI y0 y0_2) (K 0 0 80) (br (ltI (yai .i64 (yae .i64 a1_2 y0_1) y0) 1) (K 0 0 80) (zcl a0 fun y0_3 => br (ltI (yaR .i64 2 y0_3) (yai .i64 (yae .i64 a1_2 y0_1) y0)) (K 0 0 80) (zdb a1_1 (yae .i64 y0 1) fun y0_4 => br (!y0_4) (zdf (yae .i64 y0 1) fun y0 => zda a1_1 y0 fun y0 => zbb a0 (ltI a1_0 4) 0 y0 fun y0 y1 => zaz a0 y0 y1 fun y0_5 y1_1 y2 y3 y4 => br (!(eqI y0_5 a1_0 && (eqN 6 y1_1 a1_1 && (eqI y2 a1_2 && eqN 6 y3 a1_3)))) (K 0 0 80) (K y0 y1 0)) (zdf (yae .i64 y0 1) fun y0_5 => zda a1_1 y0_5 fun y0_6 => zbb a0 (ltI a1_0 4) (yai .i64 (yae .i64 a1_2 y0_1) y0) y0_6 fun y0 y1 => zaz a0 y0 y1 fun y0_7 y1_1 y2 y3 y4 => br (!(eqI y0_7 a1_0 && (eqN 6 y1_1 a1_1 && (eqI y2 a1_2 && eqN 6 y3 a1_3)))) (K 0 0 80) (K y0 y1 0)))))) (zaz a0 0 0 fun y0 y1 y2 y3 y4 => br (!(eqI y0 a1_0 && (eqN 6 y1 a1_1 && (eqI y2 a1_2 && eqN 6 y3 a1_3)))) (K 0 0 80) (K 0 0 0))) (br (eqI a1_0 1) (br (eqI a1_0 1) (zcm a0 fun y0_1 => zdd a1_1 fun y0_2 => br (ltI y0 y0_2) (K 0 0 80) (br (ltI (yai .i64 (yae .i64 a1_2 y0_1) y0) 1) (K 0 0 80) (zcl a0 fun y0_3 => br (ltI (yaR .i64 2 y0_3) (yai .i64 (yae .i64 a1_2 y0_1) y0)) (K 0 0 80) (zdb a1_1 (yae .i64 y0 1) fun y0_4 => br (!y0_4) (zdf (yae .i64 y0 1) fun y0 => zda a1_1 y0 fun y0 => zbb a0 (ltI a1_0 4) 0 y0 fun y0 y1 => zaz a0 y0 y1 fun y0_5 y1_1 y2 y3 y4 => br (!(eqI y0_5 a1_0 && (eqN 6 y1_1 a1_1 && (eqI y2 a1_2 && eqN 6 y3 a1_3)))) (K 0 0 80) (K y0 y1 0)) (zdf (yae .i64 y0 1) fun y0_5 => zda a1_1 y0_5 fun y0_6 => zbb a0 (ltI a1_0 4) (yai .i64 (yae .i64 a1_2 y0_1) y0) y0_6 fun y0 y1 => zaz a0 y0 y1 fun y0_7 y1_1 y2 y3 y4 => br (!(eqI y0_7 a1_0 && (eqN 6 y1_1 a1_1 && (eqI y2 a1_2 && eqN 6 y3 a1_3)))) (K 0 0 80) (K y0 y1 0)))))) (zaz a0 0 0 fun y0 y1 y2 y3 y4 => br (!(eqI y0 a1_0 && (eqN 6 y1 a1_1 && (eqI y2 a1_2 && eqN 6 y3 a1_3)))) (K 0 0 80) (K 0 0 0))) (br (eqI a1_0 6) (zcm a0 fun y0_1 => zdd a1_1 fun y0_2 => br (ltI y0 y0_2) (K 0 0 80) (br (ltI (yai .i64 (yae .i64 a1_2 y0_1) y0) 1) (K 0 0 80) (zcl a0 fun y0_3 => br (ltI (yaR .i64 2 y0_3) (yai .i64 (yae .i64 a1_2 y0_1) y0)) (K 0 0 80) (zdb a1_1 (yae .i64 y0 1) fun y0_4 => br (!y0_4) (zdf (yae .i64 y0 1) fun y0 => zda a1_1 y0 fun y0 => zbb a0 (ltI a1_0 4) 0 y0 fun y0 y1 => zaz a0 y0 y1 fun y0_5 y1_1 y2 y3 y4 => br (!(eqI y0_5 a1_0 && (eqN 6 y1_1 a1_1 && (eqI y2 a1_2 && eqN 6 y3 a1_3)))) (K 0 0 80) (K y0 y1 0)) (zdf (yae .i64 y0 1) fun y0_5 => zda a1_1 y0_5 fun y0_6 => zbb a0 (ltI a1_0 4) (yai .i64 (yae .i64 a1_2 y0_1) y0) y0_6 fun y0 y1 => zaz a0 y0 y1 fun y0_7 y1_1 y2 y3 y4 => br (!(eqI y0_7 a1_0 && (eqN 6 y1_1 a1_1 && (eqI y2 a1_2 && eqN 6 y3 a1_3)))) (K 0 0 80) (K y0 y1 0)))))) (zaz a0 0 0 fun y0 y1 y2 y3 y4 => br (!(eqI y0 a1_0 && (eqN 6 y1 a1_1 && (eqI y2 a1_2 && eqN 6 y3 a1_3)))) (K 0 0 80) (K 0 0 0))))))) (br (eqI a1_0 9) (zdd a1_3 fun y0_1 => br (leI y0 y0_1) (K 0 0 80) (zcl a0 fun y0 => zbb a0 false (yai .i64 (yaR .i64 2 y0) 1) a1_3 fun y0 y1 => zaz a0 y0 y1 fun y0_2 y1_1 y2 y3 y4 => br (!(eqI y0_2 a1_0 && (eqN 6 y1_1 a1_1 && (eqI y2 a1_2 && eqN 6 y3 a1_3)))) (K 0 0 80) (K y0 y1 0))) (br (eqI a1_0 2) (br (eqI a1_0 2) (zcm a0 fun y0_1 => zdd a1_1 fun y0_2 => br (ltI y0 y0_2) (K 0 0 80) (br (ltI (yai .i64 (yae .i64 a1_2 y0_1) y0) 1) (K 0 0 80) (zcl a0 fun y0_3 => br (ltI (yaR .i64 2 y0_3) (yai .i64 (yae .i64 a1_2 y0_1) y0)) (K 0 0 80) (zdb a1_1 (yae .i64 y0 1) fun y0_4 => br (!y0_4) (zdf (yae .i64 y0 1) fun y0 => zda a1_1 y0 fun y0 => zbb a0 (ltI a1_0 4) 0 y0 fun y0 y1 => zaz a0 y0 y1 fun y0_5 y1_1 y2 y3 y4 => br (!(eqI y0_5 a1_0 && (eqN 6 y1_1 a1_1 && (eqI y2 a1_2 && eqN 6 y3 a1_3)))) (K 0 0 80) (K y0 y1 0)) (zdf (yae .i64 y0 1) fun y0_5 => zda a1_1 y0_5 fun y0_6 => zbb a0 (ltI a1_0 4) (yai .i64 (yae .i64 a1_2 y0_1) y0) y0_6 fun y0 y1 => zaz a0 y0 y1 fun y0_7 y1_1 y2 y3 y4 => br (!(eqI y0_7 a1_0 && (eqN 6 y1_1 a1_1 && (eqI y2 a1_2 && eqN 6 y3 a1_3)))) (K 0 0 80) (K y0 y1 0)))))) (zaz a0 0 0 fun y0 y1 y2 y3 y4 => br (!(eqI y0 a1_0 && (eqN 6 y1 a1_1 && (eqI y2 a1_2 && eqN 6 y3 a1_3)))) (K 0 0 80) (K 0 0 0))) (br (eqI a1_0 5) (br (eqI a1_0 5) (zcm a0 fun y0_1 => zdd a1_1 fun y0_2 => br (ltI y0 y0_2) (K 0 0 80) (br (ltI (yai .i64 (yae .i64 a1_2 y0_1) y0) 1) (K 0 0 80) (zcl a0 fun y0_3 => br (ltI (yaR .i64 2 y0_3) (yai .i64 (yae .i64 a1_2 y0_1) y0)) (K 0 0 80) (zdb a1_1 (yae .i64 y0 1) fun y0_4 => br (!y0_4) (zdf (yae .i64 y0 1) fun y0 => zda a1_1 y0 fun y0 => zbb a0 (ltI a1_0 4) 0 y0 fun y0 y1 => zaz a0 y0 y1 fun y0_5 y1_1 y2 y3 y4 => br (!(eqI y0_5 a1_0 && (eqN 6 y1_1 a1_1 && (eqI y2 a1_2 && eqN 6 y3 a1_3)))) (K 0 0 80) (K y0 y1 0)) (zdf (yae .i64 y0 1) fun y0_5 => zda a1_1 y0_5 fun y0_6 => zbb a0 (ltI a1_0 4) (yai .i64 (yae .i64 a1_2 y0_1) y0) y0_6 fun y0 y1 => zaz a0 y0 y1 fun y0_7 y1_1 y2 y3 y4 => br (!(eqI y0_7 a1_0 && (eqN 6 y1_1 a1_1 && (eqI y2 a1_2 && eqN 6 y3 a1_3)))) (K 0 0 80) (K y0 y1 0)))))) (zaz a0 0 0 fun y0 y1 y2 y3 y4 => br (!(eqI y0 a1_0 && (eqN 6 y1 a1_1 && (eqI y2 a1_2 && eqN 6 y3 a1_3)))) (K 0 0 80) (K 0 0 0))) (br (eqI a1_0 1) (br (eqI a1_0 1) (zcm a0 fun y0_1 => zdd a1_1 fun y0_2 => br (ltI y0 y0_2) (K 0 0 80) (br (ltI (yai .i64 (yae .i64 a1_2 y0_1) y0) 1) (K 0 0 80) (zcl a0 fun y0_3 => br (ltI (yaR .i64 2 y0_3) (yai .i64 (yae .i64 a1_2 y0_1) y0)) (K 0 0 80) (zdb a1_1 (yae .i64 y0 1) fun y0_4 => br (!y0_4) (zdf (yae .i64 y0 1) fun y0 => zda a1_1 y0 fun y0 => zbb a0 (ltI a1_0 4) 0 y0 fun y0 y1 => zaz a0 y0 y1 fun y0_5 y1_1 y2 y3 y4 => br (!(eqI y0_5 a1_0 && (eqN 6 y1_1 a1_1 && (eqI y2 a1_2 && eqN 6 y3 a1_3)))) (K 0 0 80) (K y0 y1 0)) (zdf (yae .i64 y0 1) fun y0_5 => zda a1_1 y0_5 fun y0_6 => zbb a0 (ltI a1_0 4) (yai .i64 (yae .i64 a1_2 y0_1) y0) y0_6 fun y0 y1 => zaz a0 y0 y1 fun y0_7 y1_1 y2 y3 y4 => br (!(eqI y0_7 a1_0 && (eqN 6 y1_1 a1_1 && (eqI y2 a1_2 && eqN 6 y3 a1_3)))) (K 0 0 80) (K y0 y1 0)))))) (zaz a0 0 0 fun y0 y1 y2 y3 y4 => br (!(eqI y0 a1_0 && (eqN 6 y1 a1_1 && (eqI y2 a1_2 && eqN 6 y3 a1_3)))) (K 0 0 80) (K 0 0 0))) (br (eqI a1_0 6) (zcm a0 fun y0_1 => zdd a1_1 fun y0_2 => br (ltI y0 y0_2) (K 0 0 80) (br (ltI (yai .i64 (yae .i64 a1_2 y0_1) y0) 1) (K 0 0 80) (zcl a0 fun y0_3 => br (ltI (yaR .i64 2 y0_3) (yai .i64 (yae .i64 a1_2 y0_1) y0)) (K 0 0 80) (zdb a1_1 (yae .i64 y0 1) fun y0_4 => br (!y0_4) (zdf (yae .i64 y0 1) fun y0 => zda a1_1 y0 fun y0 => zbb a0 (ltI a1_0 4) 0 y0 fun y0 y1 => zaz a0 y0 y1 fun y0_5 y1_1 y2 y3 y4 => br (!(eqI y0_5 a1_0 && (eqN 6 y1_1 a1_1 && (eqI y2 a1_2 && eqN 6 y3 a1_3)))) (K 0 0 80) (K y0 y1 0)) (zdf (yae .i64 y0 1) fun y0_5 => zda a1_1 y0_5 fun y0_6 => zbb a0 (ltI a1_0 4) (yai .i64 (yae .i64 a1_2 y0_1) y0) y0_6 fun y0 y1 => zaz a0 y0 y1 fun y0_7 y1_1 y2 y3 y4 => br (!(eqI y0_7 a1_0 && (eqN 6 y1_1 a1_1 && (eqI y2 a1_2 && eqN 6 y3 a1_3)))) (K 0 0 80) (K y0 y1 0)))))) (zaz a0 0 0 fun y0 y1 y2 y3 y4 => br (!(eqI y0 a1_0 && (eqN 6 y1 a1_1 && (eqI y2 a1_2 && eqN 6 y3 a1_3)))) (K 0 0 80) (K 0 0 0))))))))) (br (eqI a1_0 4) (zcr a0 (ltI a1_0 4) fun y0 y1 => zaz a0 y0 y1 fun y0_1 y1_1 y2 y3 y4 => br (!(eqI y0_1 a1_0 && (eqN 6 y1_1 a1_1 && (eqI y2 a1_2 && eqN 6 y3 a1_3)))) (K 0 0 80) (K y0 y1 0)) (br (eqI a1_0 8) (br (eqI a1_0 8) (zdd a1_3 fun y0_1 => br (leI y0 y0_1) (K 0 0 80) (zcl a0 fun y0 => zbb a0 false (yai .i64 (yaR .i64 2 y0) 1) a1_3 fun y0 y1 => zaz a0 y0 y1 fun y0_2 y1_1 y2 y3 y4 => br (!(eqI y0_2 a1_0 && (eqN 6 y1_1 a1_1 && (eqI y2 a1_2 && eqN 6 y3 a1_3)))) (K 0 0 80) (K y0 y1 0))) (br (eqI a1_0 2) (br (eqI a1_0 2) (zcm a0 fun y0_1 => zdd a1_1 fun y0_2 => br (ltI y0 y0_2) (K 0 0 80) (br (ltI (yai .i64 (yae .i64 a1_2 y0_1) y0) 1) (K 0 0 80) (zcl a0 fun y0_3 => br (ltI (yaR .i64 2 y0_3) (yai .i64 (yae .i64 a1_2 y0_1) y0)) (K 0 0 80) (zdb a1_1 (yae .i64 y0 1) fun y0_4 => br (!y0_4) (zdf (yae .i64 y0 1) fun y0 => zda a1_1 y0 fun y0 => zbb a0 (ltI a1_0 4) 0 y0 fun y0 y1 => zaz a0 y0 y1 fun y0_5 y1_1 y2 y3 y4 => br (!(eqI y0_5 a1_0 && (eqN 6 y1_1 a1_1 && (eqI y2 a1_2 && eqN 6 y3 a1_3)))) (K 0 0 80) (K y0 y1 0)) (zdf (yae .i64 y0 1) fun y0_5 => zda a1_1 y0_5 fun y0_6 => zbb a0 (ltI a1_0 4) (yai .i64 (yae .i64 a1_2 y0_1) y0) y0_6 fun y0 y1 => zaz a0 y0 y1 fun y0_7 y1_1 y2 y3 y4 => br (!(eqI y0_7 a1_0 && (eqN 6 y1_1 a1_1 && (eqI y2 a1_2 && eqN 6 y3 a1_3)))) (K 0 0 80) (K y0 y1 0)))))) (zaz a0 0 0 fun y0 y1 y2 y3 y4 => br (!(eqI y0 a1_0 && (eqN 6 y1 a1_1 && (eqI y2 a1_2 && eqN 6 y3 a1_3)))) (K 0 0 80) (K 0 0 0))) (br (eqI a1_0 5) (br (eqI a1_0 5) (zcm a0 fun y0_1 => zdd a1_1 fun y0_2 => br (ltI y0 y0_2) (K 0 0 80) (br (ltI (yai .i64 (yae .i64 a1_2 y0_1) y0) 1) (K 0 0 80) (zcl a0 fun y0_3 => br (ltI (yaR .i64 2 y0_3) (yai .i64 (yae .i64 a1_2 y0_1) y0)) (K 0 0 80) (zdb a1_1 (yae .i64 y0 1) fun y0_4 => br (!y0_4) (zdf (yae .i64 y0 1) fun y0 => zda a1_1 y0 fun y0 => zbb a0 (ltI a1_0 4) 0 y0 fun y0 y1 => zaz a0 y0 y1 fun y0_5 y1_1 y2 y3 y4 => br (!(eqI y0_5 a1_0 && (eqN 6 y1_1 a1_1 && (eqI y2 a1_2 && eqN 6 y3 a1_3)))) (K 0 0 80) (K y0 y1 0)) (zdf (yae .i64 y0 1) fun y0_5 => zda a1_1 y0_5 fun y0_6 => zbb a0 (ltI a1_0 4) (yai .i64 (yae .i64 a1_2 y0_1) y0) y0_6 fun y0 y1 => zaz a0 y0 y1 fun y0_7 y1_1 y2 y3 y4 => br (!(eqI y0_7 a1_0 && (eqN 6 y1_1 a1_1 && (eqI y2 a1_2 && eqN 6 y3 a1_3)))) (K 0 0 80) (K y0 y1 0)))))) (zaz a0 0 0 fun y0 y1 y2 y3 y4 => br (!(eqI y0 a1_0 && (eqN 6 y1 a1_1 && (eqI y2 a1_2 && eqN 6 y3 a1_3)))) (K 0 0 80) (K 0 0 0))) (br (eqI a1_0 1) (br (eqI a1_0 1) (zcm a0 fun y0_1 => zdd a1_1 fun y0_2 => br (ltI y0 y0_2) (K 0 0 80) (br (ltI (yai .i64 (yae .i64 a1_2 y0_1) y0) 1) (K 0 0 80) (zcl a0 fun y0_3 => br (ltI (yaR .i64 2 y0_3) (yai .i64 (yae .i64 a1_2 y0_1) y0)) (K 0 0 80) (zdb a1_1 (yae .i64 y0 1) fun y0_4 => br (!y0_4) (zdf (yae .i64 y0 1) fun y0 => zda a1_1 y0 fun y0 => zbb a0 (ltI a1_0 4) 0 y0 fun y0 y1 => zaz a0 y0 y1 fun y0_5 y1_1 y2 y3 y4 => br (!(eqI y0_5 a1_0 && (eqN 6 y1_1 a1_1 && (eqI y2 a1_2 && eqN 6 y3 a1_3)))) (K 0 0 80) (K y0 y1 0)) (zdf (yae .i64 y0 1) fun y0_5 => zda a1_1 y0_5 fun y0_6 => zbb a0 (ltI a1_0 4) (yai .i64 (yae .i64 a1_2 y0_1) y0) y0_6 fun y0 y1 => zaz a0 y0 y1 fun y0_7 y1_1 y2 y3 y4 => br (!(eqI y0_7 a1_0 && (eqN 6 y1_1 a1_1 && (eqI y2 a1_2 && eqN 6 y3 a1_3)))) (K 0 0 80) (K y0 y1 0)))))) (zaz a0 0 0 fun y0 y1 y2 y3 y4 => br (!(eqI y0 a1_0 && (eqN 6 y1 a1_1 && (eqI y2 a1_2 && eqN 6 y3 a1_3)))) (K 0 0 80) (K 0 0 0))) (br (eqI a1_0 6) (zcm a0 fun y0_1 => zdd a1_1 fun y0_2 => br (ltI y0 y0_2) (K 0 0 80) (br (ltI (yai .i64 (yae .i64 a1_2 y0_1) y0) 1) (K 0 0 80) (zcl a0 fun y0_3 => br (ltI (yaR .i64 2 y0_3) (yai .i64 (yae .i64 a1_2 y0_1) y0)) (K 0 0 80) (zdb a1_1 (yae .i64 y0 1) fun y0_4 => br (!y0_4) (zdf (yae .i64 y0 1) fun y0 => zda a1_1 y0 fun y0 => zbb a0 (ltI a1_0 4) 0 y0 fun y0 y1 => zaz a0 y0 y1 fun y0_5 y1_1 y2 y3 y4 => br (!(eqI y0_5 a1_0 && (eqN 6 y1_1 a1_1 && (eqI y2 a1_2 && eqN 6 y3 a1_3)))) (K 0 0 80) (K y0 y1 0)) (zdf (yae .i64 y0 1) fun y0_5 => zda a1_1 y0_5 fun y0_6 => zbb a0 (ltI a1_0 4) (yai .i64 (yae .i64 a1_2 y0_1) y0) y0_6 fun y0 y1 => zaz a0 y0 y1 fun y0_7 y1_1 y2 y3 y4 => br (!(eqI y0_7 a1_0 && (eqN 6 y1_1 a1_1 && (eqI y2 a1_2 && eqN 6 y3 a1_3)))) (K 0 0 80) (K y0 y1 0)))))) (zaz a0 0 0 fun y0 y1 y2 y3 y4 => br (!(eqI y0 a1_0 && (eqN 6 y1 a1_1 && (eqI y2 a1_2 && eqN 6 y3 a1_3)))) (K 0 0 80) (K 0 0 0))))))) (br (eqI a1_0 9) (zdd a1_3 fun y0_1 => br (leI y0 y0_1) (K 0 0 80) (zcl a0 fun y0 => zbb a0 false (yai .i64 (yaR .i64 2 y0) 1) a1_3 fun y0 y1 => zaz a0 y0 y1 fun y0_2 y1_1 y2 y3 y4 => br (!(eqI y0_2 a1_0 && (eqN 6 y1_1 a1_1 && (eqI y2 a1_2 && eqN 6 y3 a1_3)))) (K 0 0 80) (K y0 y1 0))) (br (eqI a1_0 2) (br (eqI a1_0 2) (zcm a0 fun y0_1 => zdd a1_1 fun y0_2 => br (ltI y0 y0_2) (K 0 0 80) (br (ltI (yai .i64 (yae .i64 a1_2 y0_1) y0) 1) (K 0 0 80) (zcl a0 fun y0_3 => br (ltI (yaR .i64 2 y0_3) (yai .i64 (yae .i64 a1_2 y0_1) y0)) (K 0 0 80) (zdb a1_1 (yae .i64 y0 1) fun y0_4 => br (!y0_4) (zdf (yae .i64 y0 1) fun y0 => zda a1_1 y0 fun y0 => zbb a0 (ltI a1_0 4) 0 y0 fun y0 y1 => zaz a0 y0 y1 fun y0_5 y1_1 y2 y3 y4 => br (!(eqI y0_5 a1_0 && (eqN 6 y1_1 a1_1 && (eqI y2 a1_2 && eqN 6 y3 a1_3)))) (K 0 0 80) (K y0 y1 0)) (zdf (yae .i64 y0 1) fun y0_5 => zda a1_1 y0_5 fun y0_6 => zbb a0 (ltI a1_0 4) (yai .i64 (yae .i64 a1_2 y0_1) y0) y0_6 fun y0 y1 => zaz a0 y0 y1 fun y0_7 y1_1 y2 y3 y4 => br (!(eqI y0_7 a1_0 && (eqN 6 y1_1 a1_1 && (eqI y2 a1_2 && eqN 6 y3 a1_3)))) (K 0 0 80) (K y0 y1 0)))))) (zaz a0 0 0 fun y0 y1 y2 y3 y4 => br (!(eqI y0 a1_0 && (eqN 6 y1 a1_1 && (eqI y2 a1_2 && eqN 6 y3 a1_3)))) (K 0 0 80) (K 0 0 0))) (br (eqI a1_0 5) (br (eqI a1_0 5) (zcm a0 fun y0_1 => zdd a1_1 fun y0_2 => br (ltI y0 y0_2) (K 0 0 80) (br (ltI (yai .i64 (yae .i64 a1_2 y0_1) y0) 1) (K 0 0 80) (zcl a0 fun y0_3 => br (ltI (yaR .i64 2 y0_3) (yai .i64 (yae .i64 a1_2 y0_1) y0)) (K 0 0 80) (zdb a1_1 (yae .i64 y0 1) fun y0_4 => br (!y0_4) (zdf (yae .i64 y0 1) fun y0 => zda a1_1 y0 fun y0 => zbb a0 (ltI a1_0 4) 0 y0 fun y0 y1 => zaz a0 y0 y1 fun y0_5 y1_1 y2 y3 y4 => br (!(eqI y0_5 a1_0 && (eqN 6 y1_1 a1_1 && (eqI y2 a1_2 && eqN 6 y3 a1_3)))) (K 0 0 80) (K y0 y1 0)) (zdf (yae .i64 y0 1) fun y0_5 => zda a1_1 y0_5 fun y0_6 => zbb a0 (ltI a1_0 4) (yai .i64 (yae .i64 a1_2 y0_1) y0) y0_6 fun y0 y1 => zaz a0 y0 y1 fun y0_7 y1_1 y2 y3 y4 => br (!(eqI y0_7 a1_0 && (eqN 6 y1_1 a1_1 && (eqI y2 a1_2 && eqN 6 y3 a1_3)))) (K 0 0 80) (K y0 y1 0)))))) (zaz a0 0 0 fun y0 y1 y2 y3 y4 => br (!(eqI y0 a1_0 && (eqN 6 y1 a1_1 && (eqI y2 a1_2 && eqN 6 y3 a1_3)))) (K 0 0 80) (K 0 0 0))) (br (eqI a1_0 1) (br (eqI a1_0 1) (zcm a0 fun y0_1 => zdd a1_1 fun y0_2 => br (ltI y0 y0_2) (K 0 0 80) (br (ltI (yai .i64 (yae .i64 a1_2 y0_1) y0) 1) (K 0 0 80) (zcl a0 fun y0_3 => br (ltI (yaR .i64 2 y0_3) (yai .i64 (yae .i64 a1_2 y0_1) y0)) (K 0 0 80) (zdb a1_1 (yae .i64 y0 1) fun y0_4 => br (!y0_4) (zdf (yae .i64 y0 1) fun y0 => zda a1_1 y0 fun y0 => zbb a0 (ltI a1_0 4) 0 y0 fun y0 y1 => zaz a0 y0 y1 fun y0_5 y1_1 y2 y3 y4 => br (!(eqI y0_5 a1_0 && (eqN 6 y1_1 a1_1 && (eqI y2 a1_2 && eqN 6 y3 a1_3)))) (K 0 0 80) (K y0 y1 0)) (zdf (yae .i64 y0 1) fun y0_5 => zda a1_1 y0_5 fun y0_6 => zbb a0 (ltI a1_0 4) (yai .i64 (yae .i64 a1_2 y0_1) y0) y0_6 fun y0 y1 => zaz a0 y0 y1 fun y0_7 y1_1 y2 y3 y4 => br (!(eqI y0_7 a1_0 && (eqN 6 y1_1 a1_1 && (eqI y2 a1_2 && eqN 6 y3 a1_3)))) (K 0 0 80) (K y0 y1 0)))))) (zaz a0 0 0 fun y0 y1 y2 y3 y4 => br (!(eqI y0 a1_0 && (eqN 6 y1 a1_1 && (eqI y2 a1_2 && eqN 6 y3 a1_3)))) (K 0 0 80) (K 0 0 0))) (br (eqI a1_0 6) (zcm a0 fun y0_1 => zdd a1_1 fun y0_2 => br (ltI y0 y0_2) (K 0 0 80) (br (ltI (yai .i64 (yae .i64 a1_2 y0_1) y0) 1) (K 0 0 80) (zcl a0 fun y0_3 => br (ltI (yaR .i64 2 y0_3) (yai .i64 (yae .i64 a1_2 y0_1) y0)) (K 0 0 80) (zdb a1_1 (yae .i64 y0 1) fun y0_4 => br (!y0_4) (zdf (yae .i64 y0 1) fun y0 => zda a1_1 y0 fun y0 => zbb a0 (ltI a1_0 4) 0 y0 fun y0 y1 => zaz a0 y0 y1 fun y0_5 y1_1 y2 y3 y4 => br (!(eqI y0_5 a1_0 && (eqN 6 y1_1 a1_1 && (eqI y2 a1_2 && eqN 6 y3 a1_3)))) (K 0 0 80) (K y0 y1 0)) (zdf (yae .i64 y0 1) fun y0_5 => zda a1_1 y0_5 fun y0_6 => zbb a0 (ltI a1_0 4) (yai .i64 (yae .i64 a1_2 y0_1) y0) y0_6 fun y0 y1 => zaz a0 y0 y1 fun y0_7 y1_1 y2 y3 y4 => br (!(eqI y0_7 a1_0 && (eqN 6 y1_1 a1_1 && (eqI y2 a1_2 && eqN 6 y3 a1_3)))) (K 0 0 80) (K y0 y1 0)))))) (zaz a0 0 0 fun y0 y1 y2 y3 y4 => br (!(eqI y0 a1_0 && (eqN 6 y1 a1_1 && (eqI y2 a1_2 && eqN 6 y3 a1_3)))) (K 0 0 80) (K 0 0 0))))))))))) (br (eqI a1_0 7) (zco a0 (ltI a1_0 4) fun y0 y1 => zaz a0 y0 y1 fun y0_1 y1_1 y2 y3 y4 => br (!(eqI y0_1 a1_0 && (eqN 6 y1_1 a1_1 && (eqI y2 a1_2 && eqN 6 y3 a1_3)))) (K 0 0 80) (K y0 y1 0)) (br (eqI a1_0 3) (br (eqI a1_0 3) (zcr a0 (ltI a1_0 4) fun y0 y1 => zaz a0 y0 y1 fun y0_1 y1_1 y2 y3 y4 => br (!(eqI y0_1 a1_0 && (eqN 6 y1_1 a1_1 && (eqI y2 a1_2 && eqN 6 y3 a1_3)))) (K 0 0 80) (K y0 y1 0)) (br (eqI a1_0 8) (br (eqI a1_0 8) (zdd a1_3 fun y0_1 => br (leI y0 y0_1) (K 0 0 80) (zcl a0 fun y0 => zbb a0 false (yai .i64 (yaR .i64 2 y0) 1) a1_3 fun y0 y1 => zaz a0 y0 y1 fun y0_2 y1_1 y2 y3 y4 => br (!(eqI y0_2 a1_0 && (eqN 6 y1_1 a1_1 && (eqI y2 a1_2 && eqN 6 y3 a1_3)))) (K 0 0 80) (K y0 y1 0))) (br (eqI a1_0 2) (br (eqI a1_0 2) (zcm a0 fun y0_1 => zdd a1_1 fun y0_2 => br (ltI y0 y0_2) (K 0 0 80) (br (ltI (yai .i64 (yae .i64 a1_2 y0_1) y0) 1) (K 0 0 80) (zcl a0 fun y0_3 => br (ltI (yaR .i64 2 y0_3) (yai .i64 (yae .i64 a1_2 y0_1) y0)) (K 0 0 80) (zdb a1_1 (yae .i64 y0 1) fun y0_4 => br (!y0_4) (zdf (yae .i64 y0 1) fun y0 => zda a1_1 y0 fun y0 => zbb a0 (ltI a1_0 4) 0 y0 fun y0 y1 => zaz a0 y0 y1 fun y0_5 y1_1 y2 y3 y4 => br (!(eqI y0_5 a1_0 && (eqN 6 y1_1 a1_1 && (eqI y2 a1_2 && eqN 6 y3 a1_3)))) (K 0 0 80) (K y0 y1 0)) (zdf (yae .i64 y0 1) fun y0_5 => zda a1_1 y0_5 fun y0_6 => zbb a0 (ltI a1_0 4) (yai .i64 (yae .i64 a1_2 y0_1) y0) y0_6 fun y0 y1 => zaz a0 y0 y1 fun y0_7 y1_1 y2 y3 y4 => br (!(eqI y0_7 a1_0 && (eqN 6 y1_1 a1_1 && (eqI y2 a1_2 && eqN 6 y3 a1_3)))) (K 0 0 80) (K y0 y1 0)))))) (zaz a0 0 0 fun y0 y1 y2 y3 y4 => br (!(eqI y0 a1_0 && (eqN 6 y1 a1_1 && (eqI y2 a1_2 && eqN 6 y3 a1_3)))) (K 0 0 80) (K 0 0 0))) (br (eqI a1_0 5) (br (eqI a1_0 5) (zcm a0 fun y0_1 => zdd a1_1 fun y0_2 => br (ltI y0 y0_2) (K 0 0 80) (br (ltI (yai .i64 (yae .i64 a1_2 y0_1) y0) 1) (K 0 0 80) (zcl a0 fun y0_3 => br (ltI (yaR .i64 2 y0_3) (yai .i64 (yae .i64 a1_2 y0_1) y0)) (K 0 0 80) (zdb a1_1 (yae .i64 y0 1) fun y0_4 => br (!y0_4) (zdf (yae .i64 y0 1) fun y0 => zda a1_1 y0 fun y0 => zbb a0 (ltI a1_0 4) 0 y0 fun y0 y1 => zaz a0 y0 y1 fun y0_5 y1_1 y2 y3 y4 => br (!(eqI y0_5 a1_0 && (eqN 6 y1_1 a1_1 && (eqI y2 a1_2 && eqN 6 y3 a1_3)))) (K 0 0 80) (K y0 y1 0)) (zdf (yae .i64 y0 1) fun y0_5 => zda a1_1 y0_5 fun y0_6 => zbb a0 (ltI a1_0 4) (yai .i64 (yae .i64 a1_2 y0_1) y0) y0_6 fun y0 y1 => zaz a0 y0 y1 fun y0_7 y1_1 y2 y3 y4 => br (!(eqI y0_7 a1_0 && (eqN 6 y1_1 a1_1 && (eqI y2 a1_2 && eqN 6 y3 a1_3)))) (K 0 0 80) (K y0 y1 0)))))) (zaz a0 0 0 fun y0 y1 y2 y3 y4 => br (!(eqI y0 a1_0 && (eqN 6 y1 a1_1 && (eqI y2 a1_2 && eqN 6 y3 a1_3)))) (K 0 0 80) (K 0 0 0))) (br (eqI a1_0 1) (br (eqI a1_0 1) (zcm a0 fun y0_1 => zdd a1_1 fun y0_2 => br (ltI y0 y0_2) (K 0 0 80) (br (ltI (yai .i64 (yae .i64 a1_2 y0_1) y0) 1) (K 0 0 80) (zcl a0 fun y0_3 => br (ltI (yaR .i64 2 y0_3) (yai .i64 (yae .i64 a1_2 y0_1) y0)) (K 0 0 80) (zdb a1_1 (yae .i64 y0 1) fun y0_4 => br (!y0_4) (zdf (yae .i64 y0 1) fun y0 => zda a1_1 y0 fun y0 => zbb a0 (ltI a1_0 4) 0 y0 fun y0 y1 => zaz a0 y0 y1 fun y0_5 y1_1 y2 y3 y4 => br (!(eqI y0_5 a1_0 && (eqN 6 y1_1 a1_1 && (eqI y2 a1_2 && eqN 6 y3 a1_3)))) (K 0 0 80) (K y0 y1 0)) (zdf (yae .i64 y0 1) fun y0_5 => zda a1_1 y0_5 fun y0_6 => zbb a0 (ltI a1_0 4) (yai .i64 (yae .i64 a1_2 y0_1) y0) y0_6 fun y0 y1 => zaz a0 y0 y1 fun y0_7 y1_1 y2 y3 y4 => br (!(eqI y0_7 a1_0 && (eqN 6 y1_1 a1_1 && (eqI y2 a1_2 && eqN 6 y3 a1_3)))) (K 0 0 80) (K y0 y1 0)))))) (zaz a0 0 0 fun y0 y1 y2 y3 y4 => br (!(eqI y0 a1_0 && (eqN 6 y1 a1_1 && (eqI y2 a1_2 && eqN 6 y3 a1_3)))) (K 0 0 80) (K 0 0 0))) (br (eqI a1_0 6) (zcm a0 fun y0_1 => zdd a1_1 fun y0_2 => br (ltI y0 y0_2) (K 0 0 80) (br (ltI (yai .i64 (yae .i64 a1_2 y0_1) y0) 1) (K 0 0 80) (zcl a0 fun y0_3 => br (ltI (yaR .i64 2 y0_3) (yai .i64 (yae .i64 a1_2 y0_1) y0)) (K 0 0 80) (zdb a1_1 (yae .i64 y0 1) fun y0_4 => br (!y0_4) (zdf (yae .i64 y0 1) fun y0 => zda a1_1 y0 fun y0 => zbb a0 (ltI a1_0 4) 0 y0 fun y0 y1 => zaz a0 y0 y1 fun y0_5 y1_1 y2 y3 y4 => br (!(eqI y0_5 a1_0 && (eqN 6 y1_1 a1_1 && (eqI y2 a1_2 && eqN 6 y3 a1_3)))) (K 0 0 80) (K y0 y1 0)) (zdf (yae .i64 y0 1) fun y0_5 => zda a1_1 y0_5 fun y0_6 => zbb a0 (ltI a1_0 4) (yai .i64 (yae .i64 a1_2 y0_1) y0) y0_6 fun y0 y1 => zaz a0 y0 y1 fun y0_7 y1_1 y2 y3 y4 => br (!(eqI y0_7 a1_0 && (eqN 6 y1_1 a1_1 && (eqI y2 a1_2 && eqN 6 y3 a1_3)))) (K 0 0 80) (K y0 y1 0)))))) (zaz a0 0 0 fun y0 y1 y2 y3 y4 => br (!(eqI y0 a1_0 && (eqN 6 y1 a1_1 && (eqI y2 a1_2 && eqN 6 y3 a1_3)))) (K 0 0 80) (K 0 0 0))))))) (br (eqI a1_0 9) (zdd a1_3 fun y0_1 => br (leI y0 y0_1) (K 0 0 80) (zcl a0 fun y0 => zbb a0 false (yai .i64 (yaR .i64 2 y0) 1) a1_3 fun y0 y1 => zaz a0 y0 y1 fun y0_2 y1_1 y2 y3 y4 => br (!(eqI y0_2 a1_0 && (eqN 6 y1_1 a1_1 && (eqI y2 a1_2 && eqN 6 y3 a1_3)))) (K 0 0 80) (K y0 y1 0))) (br (eqI a1_0 2) (br (eqI a1_0 2) (zcm a0 fun y0_1 => zdd a1_1 fun y0_2 => br (ltI y0 y0_2) (K 0 0 80) (br (ltI (yai .i64 (yae .i64 a1_2 y0_1) y0) 1) (K 0 0 80) (zcl a0 fun y0_3 => br (ltI (yaR .i64 2 y0_3) (yai .i64 (yae .i64 a1_2 y0_1) y0)) (K 0 0 80) (zdb a1_1 (yae .i64 y0 1) fun y0_4 => br (!y0_4) (zdf (yae .i64 y0 1) fun y0 => zda a1_1 y0 fun y0 => zbb a0 (ltI a1_0 4) 0 y0 fun y0 y1 => zaz a0 y0 y1 fun y0_5 y1_1 y2 y3 y4 => br (!(eqI y0_5 a1_0 && (eqN 6 y1_1 a1_1 && (eqI y2 a1_2 && eqN 6 y3 a1_3)))) (K 0 0 80) (K y0 y1 0)) (zdf (yae .i64 y0 1) fun y0_5 => zda a1_1 y0_5 fun y0_6 => zbb a0 (ltI a1_0 4) (yai .i64 (yae .i64 a1_2 y0_1) y0) y0_6 fun y0 y1 => zaz a0 y0 y1 fun y0_7 y1_1 y2 y3 y4 => br (!(eqI y0_7 a1_0 && (eqN 6 y1_1 a1_1 && (eqI y2 a1_2 && eqN 6 y3 a1_3)))) (K 0 0 80) (K y0 y1 0)))))) (zaz a0 0 0 fun y0 y1 y2 y3 y4 => br (!(eqI y0 a1_0 && (eqN 6 y1 a1_1 && (eqI y2 a1_2 && eqN 6 y3 a1_3)))) (K 0 0 80) (K 0 0 0))) (br (eqI a1_0 5) (br (eqI a1_0 5) (zcm a0 fun y0_1 => zdd a1_1 fun y0_2 => br (ltI y0 y0_2) (K 0 0 80) (br (ltI (yai .i64 (yae .i64 a1_2 y0_1) y0) 1) (K 0 0 80) (zcl a0 fun y0_3 => br (ltI (yaR .i64 2 y0_3) (yai .i64 (yae .i64 a1_2 y0_1) y0)) (K 0 0 80) (zdb a1_1 (yae .i64 y0 1) fun y0_4 => br (!y0_4) (zdf (yae .i64 y0 1) fun y0 => zda a1_1 y0 fun y0 => zbb a0 (ltI a1_0 4) 0 y0 fun y0 y1 => zaz a0 y0 y1 fun y0_5 y1_1 y2 y3 y4 => br (!(eqI y0_5 a1_0 && (eqN 6 y1_1 a1_1 && (eqI y2 a1_2 && eqN 6 y3 a1_3)))) (K 0 0 80) (K y0 y1 0)) (zdf (yae .i64 y0 1) fun y0_5 => zda a1_1 y0_5 fun y0_6 => zbb a0 (ltI a1_0 4) (yai .i64 (yae .i64 a1_2 y0_1) y0) y0_6 fun y0 y1 => zaz a0 y0 y1 fun y0_7 y1_1 y2 y3 y4 => br (!(eqI y0_7 a1_0 && (eqN 6 y1_1 a1_1 && (eqI y2 a1_2 && eqN 6 y3 a1_3)))) (K 0 0 80) (K y0 y1 0)))))) (zaz a0 0 0 fun y0 y1 y2 y3 y4 => br (!(eqI y0 a1_0 && (eqN 6 y1 a1_1 && (eqI y2 a1_2 && eqN 6 y3 a1_3)))) (K 0 0 80) (K 0 0 0))) (br (eqI a1_0 1) (br (eqI a1_0 1) (zcm a0 fun y0_1 => zdd a1_1 fun y0_2 => br (ltI y0 y0_2) (K 0 0 80) (br (ltI (yai .i64 (yae .i64 a1_2 y0_1) y0) 1) (K 0 0 80) (zcl a0 fun y0_3 => br (ltI (yaR .i64 2 y0_3) (yai .i64 (yae .i64 a1_2 y0_1) y0)) (K 0 0 80) (zdb a1_1 (yae .i64 y0 1) fun y0_4 => br (!y0_4) (zdf (yae .i64 y0 1) fun y0 => zda a1_1 y0 fun y0 => zbb a0 (ltI a1_0 4) 0 y0 fun y0 y1 => zaz a0 y0 y1 fun y0_5 y1_1 y2 y3 y4 => br (!(eqI y0_5 a1_0 && (eqN 6 y1_1 a1_1 && (eqI y2 a1_2 && eqN 6 y3 a1_3)))) (K 0 0 80) (K y0 y1 0)) (zdf (yae .i64 y0 1) fun y0_5 => zda a1_1 y0_5 fun y0_6 => zbb a0 (ltI a1_0 4) (yai .i64 (yae .i64 a1_2 y0_1) y0) y0_6 fun y0 y1 => zaz a0 y0 y1 fun y0_7 y1_1 y2 y3 y4 => br (!(eqI y0_7 a1_0 && (eqN 6 y1_1 a1_1 && (eqI y2 a1_2 && eqN 6 y3 a1_3)))) (K 0 0 80) (K y0 y1 0)))))) (zaz a0 0 0 fun y0 y1 y2 y3 y4 => br (!(eqI y0 a1_0 && (eqN 6 y1 a1_1 && (eqI y2 a1_2 && eqN 6 y3 a1_3)))) (K 0 0 80) (K 0 0 0))) (br (eqI a1_0 6) (zcm a0 fun y0_1 => zdd a1_1 fun y0_2 => br (ltI y0 y0_2) (K 0 0 80) (br (ltI (yai .i64 (yae .i64 a1_2 y0_1) y0) 1) (K 0 0 80) (zcl a0 fun y0_3 => br (ltI (yaR .i64 2 y0_3) (yai .i64 (yae .i64 a1_2 y0_1) y0)) (K 0 0 80) (zdb a1_1 (yae .i64 y0 1) fun y0_4 => br (!y0_4) (zdf (yae .i64 y0 1) fun y0 => zda a1_1 y0 fun y0 => zbb a0 (ltI a1_0 4) 0 y0 fun y0 y1 => zaz a0 y0 y1 fun y0_5 y1_1 y2 y3 y4 => br (!(eqI y0_5 a1_0 && (eqN 6 y1_1 a1_1 && (eqI y2 a1_2 && eqN 6 y3 a1_3)))) (K 0 0 80) (K y0 y1 0)) (zdf (yae .i64 y0 1) fun y0_5 => zda a1_1 y0_5 fun y0_6 => zbb a0 (ltI a1_0 4) (yai .i64 (yae .i64 a1_2 y0_1) y0) y0_6 fun y0 y1 => zaz a0 y0 y1 fun y0_7 y1_1 y2 y3 y4 => br (!(eqI y0_7 a1_0 && (eqN 6 y1_1 a1_1 && (eqI y2 a1_2 && eqN 6 y3 a1_3)))) (K 0 0 80) (K y0 y1 0)))))) (zaz a0 0 0 fun y0 y1 y2 y3 y4 => br (!(eqI y0 a1_0 && (eqN 6 y1 a1_1 && (eqI y2 a1_2 && eqN 6 y3 a1_3)))) (K 0 0 80) (K 0 0 0))))))))) (br (eqI a1_0 4) (zcr a0 (ltI a1_0 4) fun y0 y1 => zaz a0 y0 y1 fun y0_1 y1_1 y2 y3 y4 => br (!(eqI y0_1 a1_0 && (eqN 6 y1_1 a1_1 && (eqI y2 a1_2 && eqN 6 y3 a1_3)))) (K 0 0 80) (K y0 y1 0)) (br (eqI a1_0 8) (br (eqI a1_0 8) (zdd a1_3 fun y0_1 => br (leI y0 y0_1) (K 0 0 80) (zcl a0 fun y0 => zbb a0 false (yai .i64 (yaR .i64 2 y0) 1) a1_3 fun y0 y1 => zaz a0 y0 y1 fun y0_2 y1_1 y2 y3 y4 => br (!(eqI y0_2 a1_0 && (eqN 6 y1_1 a1_1 && (eqI y2 a1_2 && eqN 6 y3 a1_3)))) (K 0 0 80) (K y0 y1 0))) (br (eqI a1_0 2) (br (eqI a1_0 2) (zcm a0 fun y0_1 => zdd a1_1 fun y0_2 => br (ltI y0 y0_2) (K 0 0 80) (br (ltI (yai .i64 (yae .i64 a1_2 y0_1) y0) 1) (K 0 0 80) (zcl a0 fun y0_3 => br (ltI (yaR .i64 2 y0_3) (yai .i64 (yae .i64 a1_2 y0_1) y0)) (K 0 0 80) (zdb a1_1 (yae .i64 y0 1) fun y0_4 => br (!y0_4) (zdf (yae .i64 y0 1) fun y0 => zda a1_1 y0 fun y0 => zbb a0 (ltI a1_0 4) 0 y0 fun y0 y1 => zaz a0 y0 y1 fun y0_5 y1_1 y2 y3 y4 => br (!(eqI y0_5 a1_0 && (eqN 6 y1_1 a1_1 && (eqI y2 a1_2 && eqN 6 y3 a1_3)))) (K 0 0 80) (K y0 y1 0)) (zdf (yae .i64 y0 1) fun y0_5 => zda a1_1 y0_5 fun y0_6 => zbb a0 (ltI a1_0 4) (yai .i64 (yae .i64 a1_2 y0_1) y0) y0_6 fun y0 y1 => zaz a0 y0 y1 fun y0_7 y1_1 y2 y3 y4 => br (!(eqI y0_7 a1_0 && (eqN 6 y1_1 a1_1 && (eqI y2 a1_2 && eqN 6 y3 a1_3)))) (K 0 0 80) (K y0 y1 0)))))) (zaz a0 0 0 fun y0 y1 y2 y3 y4 => br (!(eqI y0 a1_0 && (eqN 6 y1 a1_1 && (eqI y2 a1_2 && eqN 6 y3 a1_3)))) (K 0 0 80) (K 0 0 0))) (br (eqI a1_0 5) (br (eqI a1_0 5) (zcm a0 fun y0_1 => zdd a1_1 fun y0_2 => br (ltI y0 y0_2) (K 0 0 80) (br (ltI (yai .i64 (yae .i64 a1_2 y0_1) y0) 1) (K 0 0 80) (zcl a0 fun y0_3 => br (ltI (yaR .i64 2 y0_3) (yai .i64 (yae .i64 a1_2 y0_1) y0)) (K 0 0 80) (zdb a1_1 (yae .i64 y0 1) fun y0_4 => br (!y0_4) (zdf (yae .i64 y0 1) fun y0 => zda a1_1 y0 fun y0 => zbb a0 (ltI a1_0 4) 0 y0 fun y0 y1 => zaz a0 y0 y1 fun y0_5 y1_1 y2 y3 y4 => br (!(eqI y0_5 a1_0 && (eqN 6 y1_1 a1_1 && (eqI y2 a1_2 && eqN 6 y3 a1_3)))) (K 0 0 80) (K y0 y1 0)) (zdf (yae .i64 y0 1) fun y0_5 => zda a1_1 y0_5 fun y0_6 => zbb a0 (ltI a1_0 4) (yai .i64 (yae .i64 a1_2 y0_1) y0) y0_6 fun y0 y1 => zaz a0 y0 y1 fun y0_7 y1_1 y2 y3 y4 => br (!(eqI y0_7 a1_0 && (eqN 6 y1_1 a1_1 && (eqI y2 a1_2 && eqN 6 y3 a1_3)))) (K 0 0 80) (K y0 y1 0)))))) (zaz a0 0 0 fun y0 y1 y2 y3 y4 => br (!(eqI y0 a1_0 && (eqN 6 y1 a1_1 && (eqI y2 a1_2 && eqN 6 y3 a1_3)))) (K 0 0 80) (K 0 0 0))) (br (eqI a1_0 1) (br (eqI a1_0 1) (zcm a0 fun y0_1 => zdd a1_1 fun y0_2 => br (ltI y0 y0_2) (K 0 0 80) (br (ltI (yai .i64 (yae .i64 a1_2 y0_1) y0) 1) (K 0 0 80) (zcl a0 fun y0_3 => br (ltI (yaR .i64 2 y0_3) (yai .i64 (yae .i64 a1_2 y0_1) y0)) (K 0 0 80) (zdb a1_1 (yae .i64 y0 1) fun y0_4 => br (!y0_4) (zdf (yae .i64 y0 1) fun y0 => zda a1_1 y0 fun y0 => zbb a0 (ltI a1_0 4) 0 y0 fun y0 y1 => zaz a0 y0 y1 fun y0_5 y1_1 y2 y3 y4 => br (!(eqI y0_5 a1_0 && (eqN 6 y1_1 a1_1 && (eqI y2 a1_2 && eqN 6 y3 a1_3)))) (K 0 0 80) (K y0 y1 0)) (zdf (yae .i64 y0 1) fun y0_5 => zda a1_1 y0_5 fun y0_6 => zbb a0 (ltI a1_0 4) (yai .i64 (yae .i64 a1_2 y0_1) y0) y0_6 fun y0 y1 => zaz a0 y0 y1 fun y0_7 y1_1 y2 y3 y4 => br (!(eqI y0_7 a1_0 && (eqN 6 y1_1 a1_1 && (eqI y2 a1_2 && eqN 6 y3 a1_3)))) (K 0 0 80) (K y0 y1 0)))))) (zaz a0 0 0 fun y0 y1 y2 y3 y4 => br (!(eqI y0 a1_0 && (eqN 6 y1 a1_1 && (eqI y2 a1_2 && eqN 6 y3 a1_3)))) (K 0 0 80) (K 0 0 0))) (br (eqI a1_0 6) (zcm a0 fun y0_1 => zdd a1_1 fun y0_2 => br (ltI y0 y0_2) (K 0 0 80) (br (ltI (yai .i64 (yae .i64 a1_2 y0_1) y0) 1) (K 0 0 80) (zcl a0 fun y0_3 => br (ltI (yaR .i64 2 y0_3) (yai .i64 (yae .i64 a1_2 y0_1) y0)) (K 0 0 80) (zdb a1_1 (yae .i64 y0 1) fun y0_4 => br (!y0_4) (zdf (yae .i64 y0 1) fun y0 => zda a1_1 y0 fun y0 => zbb a0 (ltI a1_0 4) 0 y0 fun y0 y1 => zaz a0 y0 y1 fun y0_5 y1_1 y2 y3 y4 => br (!(eqI y0_5 a1_0 && (eqN 6 y1_1 a1_1 && (eqI y2 a1_2 && eqN 6 y3 a1_3)))) (K 0 0 80) (K y0 y1 0)) (zdf (yae .i64 y0 1) fun y0_5 => zda a1_1 y0_5 fun y0_6 => zbb a0 (ltI a1_0 4) (yai .i64 (yae .i64 a1_2 y0_1) y0) y0_6 fun y0 y1 => zaz a0 y0 y1 fun y0_7 y1_1 y2 y3 y4 => br (!(eqI y0_7 a1_0 && (eqN 6 y1_1 a1_1 && (eqI y2 a1_2 && eqN 6 y3 a1_3)))) (K 0 0 80) (K y0 y1 0)))))) (zaz a0 0 0 fun y0 y1 y2 y3 y4 => br (!(eqI y0 a1_0 && (eqN 6 y1 a1_1 && (eqI y2 a1_2 && eqN 6 y3 a1_3)))) (K 0 0 80) (K 0 0 0))))))) (br (eqI a1_0 9) (zdd a1_3 fun y0_1 => br (leI y0 y0_1) (K 0 0 80) (zcl a0 fun y0 => zbb a0 false (yai .i64 (yaR .i64 2 y0) 1) a1_3 fun y0 y1 => zaz a0 y0 y1 fun y0_2 y1_1 y2 y3 y4 => br (!(eqI y0_2 a1_0 && (eqN 6 y1_1 a1_1 && (eqI y2 a1_2 && eqN 6 y3 a1_3)))) (K 0 0 80) (K y0 y1 0))) (br (eqI a1_0 2) (br (eqI a1_0 2) (zcm a0 fun y0_1 => zdd a1_1 fun y0_2 => br (ltI y0 y0_2) (K 0 0 80) (br (ltI (yai .i64 (yae .i64 a1_2 y0_1) y0) 1) (K 0 0 80) (zcl a0 fun y0_3 => br (ltI (yaR .i64 2 y0_3) (yai .i64 (yae .i64 a1_2 y0_1) y0)) (K 0 0 80) (zdb a1_1 (yae .i64 y0 1) fun y0_4 => br (!y0_4) (zdf (yae .i64 y0 1) fun y0 => zda a1_1 y0 fun y0 => zbb a0 (ltI a1_0 4) 0 y0 fun y0 y1 => zaz a0 y0 y1 fun y0_5 y1_1 y2 y3 y4 => br (!(eqI y0_5 a1_0 && (eqN 6 y1_1 a1_1 && (eqI y2 a1_2 && eqN 6 y3 a1_3)))) (K 0 0 80) (K y0 y1 0)) (zdf (yae .i64 y0 1) fun y0_5 => zda a1_1 y0_5 fun y0_6 => zbb a0 (ltI a1_0 4) (yai .i64 (yae .i64 a1_2 y0_1) y0) y0_6 fun y0 y1 => zaz a0 y0 y1 fun y0_7 y1_1 y2 y3 y4 => br (!(eqI y0_7 a1_0 && (eqN 6 y1_1 a1_1 && (eqI y2 a1_2 && eqN 6 y3 a1_3)))) (K 0 0 80) (K y0 y1 0)))))) (zaz a0 0 0 fun y0 y1 y2 y3 y4 => br (!(eqI y0 a1_0 && (eqN 6 y1 a1_1 && (eqI y2 a1_2 && eqN 6 y3 a1_3)))) (K 0 0 80) (K 0 0 0))) (br (eqI a1_0 5) (br (eqI a1_0 5) (zcm a0 fun y0_1 => zdd a1_1 fun y0_2 => br (ltI y0 y0_2) (K 0 0 80) (br (ltI (yai .i64 (yae .i64 a1_2 y0_1) y0) 1) (K 0 0 80) (zcl a0 fun y0_3 => br (ltI (yaR .i64 2 y0_3) (yai .i64 (yae .i64 a1_2 y0_1) y0)) (K 0 0 80) (zdb a1_1 (yae .i64 y0 1) fun y0_4 => br (!y0_4) (zdf (yae .i64 y0 1) fun y0 => zda a1_1 y0 fun y0 => zbb a0 (ltI a1_0 4) 0 y0 fun y0 y1 => zaz a0 y0 y1 fun y0_5 y1_1 y2 y3 y4 => br (!(eqI y0_5 a1_0 && (eqN 6 y1_1 a1_1 && (eqI y2 a1_2 && eqN 6 y3 a1_3)))) (K 0 0 80) (K y0 y1 0)) (zdf (yae .i64 y0 1) fun y0_5 => zda a1_1 y0_5 fun y0_6 => zbb a0 (ltI a1_0 4) (yai .i64 (yae .i64 a1_2 y0_1) y0) y0_6 fun y0 y1 => zaz a0 y0 y1 fun y0_7 y1_1 y2 y3 y4 => br (!(eqI y0_7 a1_0 && (eqN 6 y1_1 a1_1 && (eqI y2 a1_2 && eqN 6 y3 a1_3)))) (K 0 0 80) (K y0 y1 0)))))) (zaz a0 0 0 fun y0 y1 y2 y3 y4 => br (!(eqI y0 a1_0 && (eqN 6 y1 a1_1 && (eqI y2 a1_2 && eqN 6 y3 a1_3)))) (K 0 0 80) (K 0 0 0))) (br (eqI a1_0 1) (br (eqI a1_0 1) (zcm a0 fun y0_1 => zdd a1_1 fun y0_2 => br (ltI y0 y0_2) (K 0 0 80) (br (ltI (yai .i64 (yae .i64 a1_2 y0_1) y0) 1) (K 0 0 80) (zcl a0 fun y0_3 => br (ltI (yaR .i64 2 y0_3) (yai .i64 (yae .i64 a1_2 y0_1) y0)) (K 0 0 80) (zdb a1_1 (yae .i64 y0 1) fun y0_4 => br (!y0_4) (zdf (yae .i64 y0 1) fun y0 => zda a1_1 y0 fun y0 => zbb a0 (ltI a1_0 4) 0 y0 fun y0 y1 => zaz a0 y0 y1 fun y0_5 y1_1 y2 y3 y4 => br (!(eqI y0_5 a1_0 && (eqN 6 y1_1 a1_1 && (eqI y2 a1_2 && eqN 6 y3 a1_3)))) (K 0 0 80) (K y0 y1 0)) (zdf (yae .i64 y0 1) fun y0_5 => zda a1_1 y0_5 fun y0_6 => zbb a0 (ltI a1_0 4) (yai .i64 (yae .i64 a1_2 y0_1) y0) y0_6 fun y0 y1 => zaz a0 y0 y1 fun y0_7 y1_1 y2 y3 y4 => br (!(eqI y0_7 a1_0 && (eqN 6 y1_1 a1_1 && (eqI y2 a1_2 && eqN 6 y3 a1_3)))) (K 0 0 80) (K y0 y1 0)))))) (zaz a0 0 0 fun y0 y1 y2 y3 y4 => br (!(eqI y0 a1_0 && (eqN 6 y1 a1_1 && (eqI y2 a1_2 && eqN 6 y3 a1_3)))) (K 0 0 80) (K 0 0 0))) (br (eqI a1_0 6) (zcm a0 fun y0_1 => zdd a1_1 fun y0_2 => br (ltI y0 y0_2) (K 0 0 80) (br (ltI (yai .i64 (yae .i64 a1_2 y0_1) y0) 1) (K 0 0 80) (zcl a0 fun y0_3 => br (ltI (yaR .i64 2 y0_3) (yai .i64 (yae .i64 a1_2 y0_1) y0)) (K 0 0 80) (zdb a1_1 (yae .i64 y0 1) fun y0_4 => br (!y0_4) (zdf (yae .i64 y0 1) fun y0 => zda a1_1 y0 fun y0 => zbb a0 (ltI a1_0 4) 0 y0 fun y0 y1 => zaz a0 y0 y1 fun y0_5 y1_1 y2 y3 y4 => br (!(eqI y0_5 a1_0 && (eqN 6 y1_1 a1_1 && (eqI y2 a1_2 && eqN 6 y3 a1_3)))) (K 0 0 80) (K y0 y1 0)) (zdf (yae .i64 y0 1) fun y0_5 => zda a1_1 y0_5 fun y0_6 => zbb a0 (ltI a1_0 4) (yai .i64 (yae .i64 a1_2 y0_1) y0) y0_6 fun y0 y1 => zaz a0 y0 y1 fun y0_7 y1_1 y2 y3 y4 => br (!(eqI y0_7 a1_0 && (eqN 6 y1_1 a1_1 && (eqI y2 a1_2 && eqN 6 y3 a1_3)))) (K 0 0 80) (K y0 y1 0)))))) (zaz a0 0 0 fun y0 y1 y2 y3 y4 => br (!(eqI y0 a1_0 && (eqN 6 y1 a1_1 && (eqI y2 a1_2 && eqN 6 y3 a1_3)))) (K 0 0 80) (K 0 0 0))))))))))))
noncomputable def zav := shut zav.d
theorem zav.is : zav = zav.d := shut_is _
def zax.d (a0 : Int) (a1_0 : Int) (a1_1 : Int) (K : Bool → Prop) : Prop :=
  zcn a0 a1_0 a1_1 fun y0 => br y0 (zdh a1_0 a1_1 fun y0 => zcq a0 fun y0_1 => zdb y0 (yae .i64 y0_1 1) fun y0 => K y0) (K false)
noncomputable def zax := shut zax.d
theorem zax.is : zax = zax.d := shut_is _
def zay.d (a0 : Int) (a1_0 : Int) (a1_1 : Int) (K : List UInt8 → Int → Prop) : Prop :=
  zaz a0 a1_0 a1_1 fun y0 y1 y2 y3 y4 => br (!eqI y4 0) (K [] y4) (zax a0 a1_0 a1_1 fun y0_1 => br y0_1 (br (eqI y0 9) (zdl y3 fun y0 => gd (leI (5 + ↑(List.length y0)) 9223372036854775807) (K ([45] ++ [110, 97, 110, 58] ++ y0) 0)) (br (eqI y0 8) (zdl y3 fun y0 => gd (leI (6 + ↑(List.length y0)) 9223372036854775807) (K ([45] ++ [115, 110, 97, 110, 58] ++ y0) 0)) (br (eqI y0 0) (br (eqI y0 0) (K ([45] ++ [105, 110, 102]) 0) (br (eqI y0 3) (br (eqI y0 3) (K ([45] ++ [48]) 0) (zdl y1 fun y0 => gd (leI (1 + ↑(List.length y0)) 9223372036854775807) (gd (leI (↑(List.length ([45] ++ y0)) + 1) 9223372036854775807) (zcx y2 fun y0_2 => gd (leI (↑(List.length ([45] ++ y0 ++ [112])) + ↑(List.length y0_2)) 9223372036854775807) (K ([45] ++ y0 ++ [112] ++ y0_2) 0))))) (br (eqI y0 4) (K ([45] ++ [48]) 0) (zdl y1 fun y0 => gd (leI (1 + ↑(List.length y0)) 9223372036854775807) (gd (leI (↑(List.length ([45] ++ y0)) + 1) 9223372036854775807) (zcx y2 fun y0_2 => gd (leI (↑(List.length ([45] ++ y0 ++ [112])) + ↑(List.length y0_2)) 9223372036854775807) (K ([45] ++ y0 ++ [112] ++ y0_2) 0))))))) (br (eqI y0 7) (K ([45] ++ [105, 110, 102]) 0) (br (eqI y0 3) (br (eqI y0 3) (K ([45] ++ [48]) 0) (zdl y1 fun y0 => gd (leI (1 + ↑(List.length y0)) 9223372036854775807) (gd (leI (↑(List.length ([45] ++ y0)) + 1) 9223372036854775807) (zcx y2 fun y0_2 => gd (leI (↑(List.length ([45] ++ y0 ++ [112])) + ↑(List.length y0_2)) 9223372036854775807) (K ([45] ++ y0 ++ [112] ++ y0_2) 0))))) (br (eqI y0 4) (K ([45] ++ [48]) 0) (zdl y1 fun y0 => gd (leI (1 + ↑(List.length y0)) 9223372036854775807) (gd (leI (↑(List.length ([45] ++ y0)) + 1) 9223372036854775807) (zcx y2 fun y0_2 => gd (leI (↑(List.length ([45] ++ y0 ++ [112])) + ↑(List.length y0_2)) 9223372036854775807) (K ([45] ++ y0 ++ [112] ++ y0_2) 0)))))))))) (br (eqI y0 9) (zdl y3 fun y0 => gd (leI (4 + ↑(List.length y0)) 9223372036854775807) (K ([] ++ [110, 97, 110, 58] ++ y0) 0)) (br (eqI y0 8) (zdl y3 fun y0 => gd (leI (5 + ↑(List.length y0)) 9223372036854775807) (K ([] ++ [115, 110, 97, 110, 58] ++ y0) 0)) (br (eqI y0 0) (br (eqI y0 0) (K ([] ++ [105, 110, 102]) 0) (br (eqI y0 3) (br (eqI y0 3) (K ([] ++ [48]) 0) (zdl y1 fun y0 => gd (leI (0 + ↑(List.length y0)) 9223372036854775807) (gd (leI (↑(List.length ([] ++ y0)) + 1) 9223372036854775807) (zcx y2 fun y0_2 => gd (leI (↑(List.length ([] ++ y0 ++ [112])) + ↑(List.length y0_2)) 9223372036854775807) (K ([] ++ y0 ++ [112] ++ y0_2) 0))))) (br (eqI y0 4) (K ([] ++ [48]) 0) (zdl y1 fun y0 => gd (leI (0 + ↑(List.length y0)) 9223372036854775807) (gd (leI (↑(List.length ([] ++ y0)) + 1) 9223372036854775807) (zcx y2 fun y0_2 => gd (leI (↑(List.length ([] ++ y0 ++ [112])) + ↑(List.length y0_2)) 9223372036854775807) (K ([] ++ y0 ++ [112] ++ y0_2) 0))))))) (br (eqI y0 7) (K ([] ++ [105, 110, 102]) 0) (br (eqI y0 3) (br (eqI y0 3) (K ([] ++ [48]) 0) (zdl y1 fun y0 => gd (leI (0 + ↑(List.length y0)) 9223372036854775807) (gd (leI (↑(List.length ([] ++ y0)) + 1) 9223372036854775807) (zcx y2 fun y0_2 => gd (leI (↑(List.length ([] ++ y0 ++ [112])) + ↑(List.length y0_2)) 9223372036854775807) (K ([] ++ y0 ++ [112] ++ y0_2) 0))))) (br (eqI y0 4) (K ([] ++ [48]) 0) (zdl y1 fun y0 => gd (leI (0 + ↑(List.length y0)) 9223372036854775807) (gd (leI (↑(List.length ([] ++ y0)) + 1) 9223372036854775807) (zcx y2 fun y0_2 => gd (leI (↑(List.length ([] ++ y0 ++ [112])) + ↑(List.length y0_2)) 9223372036854775807) (K ([] ++ y0 ++ [112] ++ y0_2) 0)))))))))))
noncomputable def zay := shut zay.d
theorem zay.is : zay = zay.d := shut_is _
def zba.d (a0 : Int) (a1_0 : Int) (a1_1 : Int) (K : Bool → List UInt8 → List UInt8 → Int → Int → Prop) : Prop :=
  zaz a0 a1_0 a1_1 fun y0 y1 y2 y3 y4 => br (!eqI y4 0) (K false [] [] 0 y4) (br (eqI y0 0) (K false [] [] 0 80) (br (leI 7 y0) (K false [] [] 0 80) (zbp y1 fun y0_1 => zae (ltI y0 4) y0_1 [1] y2 fun y0 y1 y2 y3 y4 => K y0 y1 y2 y3 y4)))
noncomputable def zba := shut zba.d
theorem zba.is : zba = zba.d := shut_is _
def zbe.d (a0 : Int) (a1 : List UInt8) (K : Int → Int → Bool → Prop) : Prop :=
  zcz a1 [45] fun y0 y1 => br (eqS y0 [105, 110, 102]) (zco a0 y1 fun y0 y1 => K y0 y1 true) (br (eqS y0 [48]) (zcr a0 y1 fun y0 y1 => K y0 y1 true) (zcy y0 [58] fun y0_1 y1_1 y2 => br y2 (zdj y1_1 fun y0 y1_2 => br (!eqI y1_2 0) (K 0 0 false) (zdd y0 fun y0_2 => zcp a0 fun y0_3 => br (leI y0_3 y0_2) (K 0 0 false) (zcl a0 fun y0_4 => zbb a0 y1 (yai .i64 (yaR .i64 2 y0_4) 1) y0 fun y0 y1 => K y0 y1 true))) (zcy y0 [112] fun y0 y1_2 y2 => zdj y0 fun y0 y1_3 => zcw y1_2 (fun y0_2 => br (!y2) (K 0 0 false) (br (!eqI y1_3 0) (K 0 0 false) (zdd y0 fun y0_3 => zcp a0 fun y0_4 => br (eqI y0_3 y0_4) (zav a0 6 y0 y0_2 (fun x => 0) fun y0 y1_4 y2 => br y1 (zat a0 y0 y1_4 fun y0 y1 => K y0 y1 (eqI y2 0)) (K y0 y1_4 (eqI y2 0))) (zav a0 5 y0 y0_2 (fun x => 0) fun y0 y1_4 y2 => br y1 (zat a0 y0 y1_4 fun y0 y1 => K y0 y1 (eqI y2 0)) (K y0 y1_4 (eqI y2 0)))))) fun y0 => br (!y2) (K 0 0 false) (br (!eqI y1_3 0) (K 0 0 false) (K 0 0 false)))))
noncomputable def zbe := shut zbe.d
theorem zbe.is : zbe = zbe.d := shut_is _
def zaw.d (a0 : Int) (a1 : List UInt8) (K : Int → Int → Int → Prop) : Prop :=
  zck a0 fun y0 => br (!eqI y0 0) (K 0 0 2) (zbe a0 a1 fun y0 y1 y2 => zay a0 y0 y1 fun y0_1 y1_1 => br (!y2) (K 0 0 80) (br (!eqI y1_1 0) (K 0 0 80) (br (!eqS y0_1 a1) (K 0 0 80) (K y0 y1 0))))
noncomputable def zaw := shut zaw.d
theorem zaw.is : zaw = zaw.d := shut_is _
end Go.Ev.S

/- The functions as the evaluator has them: what each comes to. -/
set_option maxRecDepth 100000
set_option linter.unusedVariables false
set_option linter.unusedSimpArgs false
namespace Go.Ev.S
open Go Go.Ev
def zcd.d (a0 : Int) (a1 : Int) (K : Bool → Prop) : Prop :=
  br (leI 0 a1) (br (ltI a1 64) (gd (!ltI (cvI .u64 a1) 0) (K (eqI (yhq .u64 (yaQ .u64 a0 (cvI .u64 a1)) 1) 1))) (K false)) (K false)
noncomputable def zcd := shut zcd.d
theorem zcd.is : zcd = zcd.d := shut_is _
def r01_Add.l3.step (again : Int → Int → Bool → Int → Int → Prop) (k0 : Bool → Int → Prop) (x0 : Int) (x1 : Int) (x2 : Bool) (x3 : Int) (x4 : Int) : Prop :=
  br (ltI x4 64) (zcd x0 x4 fun y0 => zcd x1 x4 fun y0_1 => br (!yf9 (!yf9 y0 y0_1) x2) (gd (!ltI (cvI .u64 x4) 0) (br y0 (br y0_1 (again x0 x1 true (orI .u64 x3 (ybA .u64 1 (cvI .u64 x4))) (yai .i64 x4 1)) (br y0 (br x2 (again x0 x1 true (orI .u64 x3 (ybA .u64 1 (cvI .u64 x4))) (yai .i64 x4 1)) (br y0_1 (again x0 x1 x2 (orI .u64 x3 (ybA .u64 1 (cvI .u64 x4))) (yai .i64 x4 1)) (again x0 x1 false (orI .u64 x3 (ybA .u64 1 (cvI .u64 x4))) (yai .i64 x4 1)))) (br y0_1 (again x0 x1 x2 (orI .u64 x3 (ybA .u64 1 (cvI .u64 x4))) (yai .i64 x4 1)) (again x0 x1 false (orI .u64 x3 (ybA .u64 1 (cvI .u64 x4))) (yai .i64 x4 1))))) (br y0 (br x2 (again x0 x1 true (orI .u64 x3 (ybA .u64 1 (cvI .u64 x4))) (yai .i64 x4 1)) (br y0_1 (again x0 x1 x2 (orI .u64 x3 (ybA .u64 1 (cvI .u64 x4))) (yai .i64 x4 1)) (again x0 x1 false (orI .u64 x3 (ybA .u64 1 (cvI .u64 x4))) (yai .i64 x4 1)))) (br y0_1 (again x0 x1 x2 (orI .u64 x3 (ybA .u64 1 (cvI .u64 x4))) (yai .i64 x4 1)) (again x0 x1 false (orI .u64 x3 (ybA .u64 1 (cvI .u64 x4))) (yai .i64 x4 1)))))) (br y0 (br y0_1 (again x0 x1 true x3 (yai .i64 x4 1)) (br y0 (br x2 (again x0 x1 true x3 (yai .i64 x4 1)) (br y0_1 (again x0 x1 x2 x3 (yai .i64 x4 1)) (again x0 x1 false x3 (yai .i64 x4 1)))) (br y0_1 (again x0 x1 x2 x3 (yai .i64 x4 1)) (again x0 x1 false x3 (yai .i64 x4 1))))) (br y0 (br x2 (again x0 x1 true x3 (yai .i64 x4 1)) (br y0_1 (again x0 x1 x2 x3 (yai .i64 x4 1)) (again x0 x1 false x3 (yai .i64 x4 1)))) (br y0_1 (again x0 x1 x2 x3 (yai .i64 x4 1)) (again x0 x1 false x3 (yai .i64 x4 1)))))) (k0 x2 x3)
def r01_Add.l3 (k0 : Bool → Int → Prop) : Nat → Int → Int → Bool → Int → Int → Prop
  | 0 => fun _ _ _ _ _ => False
  | n + 1 => r01_Add.l3.step (r01_Add.l3 k0 n) k0
def r01_Add.l3.entry : yao := ⟨LV.mk 260 [(0, 260)] 192 0 false, 0, 50, fun vs H K => match vs, H with
  | [EV.int .u64 x0, EV.int .u64 x1, EV.bool x2, EV.int .u64 x3, EV.int .i64 x4], [] => ∃ n, r01_Add.l3 (fun y0 y1 => K (.exit 0) [EV.bool y0, EV.int .u64 y1] []) n x0 x1 x2 x3 x4
  | _, _ => False⟩
def r01_Add.d (a0 : Int) (a1 : Int) (a2 : Bool) (K : Int → Bool → Prop) : Prop :=
  ∃ n, r01_Add.l3 (fun y0 y1 => K y1 y0) n a0 a1 a2 0 0
noncomputable def r01_Add : Int → Int → Bool → (Int → Bool → Prop) → Prop := Classical.choose (⟨r01_Add.d, rfl⟩ : ∃ f, f = r01_Add.d)
def zce.l3.step (again : Int → Int → Int → Prop) (k0 : Int → Prop) (x0 : Int) (x1 : Int) (x2 : Int) : Prop :=
  br (ltI x2 64) (zcd x0 x2 fun y0 => br y0 (again x0 (yai .i64 x2 1) (yai .i64 x2 1)) (again x0 x1 (yai .i64 x2 1))) (k0 x1)
def zce.l3 (k0 : Int → Prop) : Nat → Int → Int → Int → Prop
  | 0 => fun _ _ _ => False
  | n + 1 => zce.l3.step (zce.l3 k0 n) k0
def zce.l3.entry : yao := ⟨LV.mk 8 [(0, 8)] 4 0 false, 0, 15, fun vs H K => match vs, H with
  | [EV.int .u64 x0, EV.int .i64 x1, EV.int .i64 x2], [] => ∃ n, zce.l3 (fun y0 => K (.exit 0) [EV.int .i64 y0] []) n x0 x1 x2
  | _, _ => False⟩
def zce.d (a0 : Int) (K : Int → Prop) : Prop :=
  ∃ n, zce.l3 (fun y0 => K y0) n a0 0 0
noncomputable def zce := shut zce.d
theorem zce.is : zce = zce.d := shut_is _
end Go.Ev.S

/- The functions as the evaluator has them: what each comes to. -/
set_option maxRecDepth 100000
set_option linter.unusedVariables false
set_option linter.unusedSimpArgs false
namespace Go.Ev.S
open Go Go.Ev
def r02_Add.l4.step (again : Bool → Int → (Nat → Int) → (Nat → Int) → (Nat → Int) → (Nat → Int) → Prop) (k0 : Bool → (Nat → Int) → (Nat → Int) → Prop) (x0 : Bool) (x1 : Int) (x2 : Nat → Int) (x3 : Nat → Int) (x4 : Nat → Int) (x5 : Nat → Int) : Prop :=
  br (ltI x1 6) (gd (leI 0 x1 && ltI x1 6) (gd (leI 0 x1 && ltI x1 6) (r01_Add (x2 (Int.toNat x1)) (x3 (Int.toNat x1)) x0 fun y0 y1 => gd (leI 0 x1 && ltI x1 6) (again y1 (yai .i64 x1 1) x2 x3 x4 (upd x5 (Int.toNat x1) y0))))) (k0 x0 x4 x5)
def r02_Add.l4 (k0 : Bool → (Nat → Int) → (Nat → Int) → Prop) : Nat → Bool → Int → (Nat → Int) → (Nat → Int) → (Nat → Int) → (Nat → Int) → Prop
  | 0 => fun _ _ _ _ _ _ => False
  | n + 1 => r02_Add.l4.step (r02_Add.l4 k0 n) k0
def r02_Add.l4.entry : yao := ⟨LV.mk 208 [(0, 208)] 48 0 false, 0, 32, fun vs H K => match vs, H with
  | [EV.ptr 0 [], EV.ptr 1 [], EV.ptr 2 [], EV.ptr 3 [], EV.bool x0, EV.int .i64 x1], [some (EV.arr .u64 6 x2), some (EV.arr .u64 6 x3), some (EV.arr .u64 6 x4), some (EV.arr .u64 6 x5)] => ∃ n, r02_Add.l4 (fun y0 y1 y2 => K (.exit 0) [EV.ptr 0 [], EV.ptr 1 [], EV.bool y0] [some (EV.arr .u64 6 y1), some (EV.arr .u64 6 y2)]) n x0 x1 x2 x3 x4 x5
  | _, _ => False⟩
def r02_Add.d (a0 : Nat → Int) (a1 : Nat → Int) (K : (Nat → Int) → Bool → Prop) : Prop :=
  ∃ n, r02_Add.l4 (fun y0 y1 y2 => K y2 y0) n false 0 a0 a1 (fun x => 0) fun x => 0
noncomputable def r02_Add : (Nat → Int) → (Nat → Int) → ((Nat → Int) → Bool → Prop) → Prop := Classical.choose (⟨r02_Add.d, rfl⟩ : ∃ f, f = r02_Add.d)
def zcf.l2.step (again : Int → (Nat → Int) → Prop) (k0 : Int → Prop) (k1 : Prop) (x0 : Int) (x1 : Nat → Int) : Prop :=
  br (leI 0 x0) (gd (leI 0 x0 && ltI x0 6) (br (!eqI (x1 (Int.toNat x0)) 0) (gd (leI 0 x0 && ltI x0 6) (zce (x1 (Int.toNat x0)) fun y0 => k0 (yai .i64 (yaR .i64 64 x0) y0))) (again (yae .i64 x0 1) x1))) k1
def zcf.l2 (k0 : Int → Prop) (k1 : Prop) : Nat → Int → (Nat → Int) → Prop
  | 0 => fun _ _ => False
  | n + 1 => zcf.l2.step (zcf.l2 k0 k1 n) k0 k1
def zcf.l2.entry : yao := ⟨LV.mk 0 [(0, 0)] 4 0 false, 0, 19, fun vs H K => match vs, H with
  | [EV.ptr 0 [], EV.int .i64 x0], [some (EV.arr .u64 6 x1)] => ∃ n, zcf.l2 (fun y0 => K .ret [EV.int .i64 y0] []) (K (.exit 0) [] []) n x0 x1
  | _, _ => False⟩
def zcf.d (a0 : Nat → Int) (K : Int → Prop) : Prop :=
  ∃ n, zcf.l2 (fun y0 => K y0) (K 0) n 5 a0
noncomputable def zcf := shut zcf.d
theorem zcf.is : zcf = zcf.d := shut_is _
def zcg.d (a0_0 : Int) (a0_1 : Int) (K : (Nat → Int) → Prop) : Prop :=
  K (upd (upd (fun x => 0) 0 a0_1) 1 a0_0)
noncomputable def zcg := shut zcg.d
theorem zcg.is : zcg = zcg.d := shut_is _
end Go.Ev.S

/- The functions as the evaluator has them: what each comes to. -/
set_option maxRecDepth 100000
set_option linter.unusedVariables false
set_option linter.unusedSimpArgs false
namespace Go.Ev.S
open Go Go.Ev
end Go.Ev.S

/- The functions as the evaluator has them: what each comes to. -/
set_option maxRecDepth 100000
set_option linter.unusedVariables false
set_option linter.unusedSimpArgs false
namespace Go.Ev.S
open Go Go.Ev
end Go.Ev.S

/- The functions as the evaluator has them: what each comes to. -/
set_option maxRecDepth 100000
set_option linter.unusedVariables false
set_option linter.unusedSimpArgs false
namespace Go.Ev.S
open Go Go.Ev
def zci.d (a0 : Int) (K : Bool → Prop) : Prop :=
  K (leI a0 3)
noncomputable def zci := shut zci.d
theorem zci.is : zci = zci.d := shut_is _
def zcj.d (a0 : Int) (K : Int → Prop) : Prop :=
  br (eqI a0 2) (K 16) (br (eqI a0 0) (K 32) (br (eqI a0 1) (K 64) (br (eqI a0 3) (K 128) (K 0))))
noncomputable def zcj := shut zcj.d
theorem zcj.is : zcj = zcj.d := shut_is _
def zch.d (a0 : Int) (a1_0 : Int) (a1_1 : Int) (K : Bool → Prop) : Prop :=
  zci a0 fun y0 => br y0 (zcg a1_0 a1_1 fun y0 => zcf y0 fun y0 => zcj a0 fun y0_1 => K (leI y0 y0_1)) (K false)
noncomputable def zch := shut zch.d
theorem zch.is : zch = zch.d := shut_is _
end Go.Ev.S

/- The functions as the evaluator has them: what each comes to. -/
set_option maxRecDepth 100000
set_option linter.unusedVariables false
set_option linter.unusedSimpArgs false
namespace Go.Ev.S
open Go Go.Ev
end Go.Ev.S

/- The functions as the evaluator has them: what each comes to. -/
set_option maxRecDepth 100000
set_option linter.unusedVariables false
set_option linter.unusedSimpArgs false
namespace Go.Ev.S
open Go Go.Ev
def zbg.d (K : Bool → Prop) : Prop :=
  zas 2 0 32768 fun y0 y1 => zaz 2 0 15360 fun y0_1 y1_1 y2 y3 y4 => zas 4 0 0 fun y0_2 y1_2 => br (eqI y0 3) (br (eqI y1 0) (br (eqI y4 0) (br (eqN 6 y1_1 (upd (fun x => 0) 0 1024)) (br (eqI y2 (-10)) (K (eqI y1_2 2)) (K false)) (K false)) (K false)) (K false)) (K false)
noncomputable def zbg := shut zbg.d
theorem zbg.is : zbg = zbg.d := shut_is _
def zbh.d (a0 : Int) (a1_0 : Int) (a1_1 : Int) (K : Bool → Prop) : Prop :=
  zch a0 a1_0 a1_1 fun y0 => K y0
noncomputable def zbh := shut zbh.d
theorem zbh.is : zbh = zbh.d := shut_is _
def zbf.d (a0 : Int) (a1_0 : Int) (a1_1 : Int) (K : Bool → Prop) : Prop :=
  zaz a0 a1_0 a1_1 fun y0 y1 y2 y3 y4 => br (!eqI y4 0) (zbh a0 a1_0 a1_1 fun y0 => br (!y0) (zbg fun y0 => K y0) (K false)) (zav a0 y0 y1 y2 y3 fun y0_1 y1 y2 => br (!eqI y2 0) (K false) (br (!(eqI y0_1 a1_0 && eqI y1 a1_1)) (br (leI 8 y0) (zat a0 a1_0 a1_1 fun y0_2 y1_1 => br (eqI y0_1 y0_2 && eqI y1 y1_1) (zax a0 a1_0 a1_1 fun y0_3 => br (!y0_3) (K false) (zay a0 a1_0 a1_1 fun y0_4 y1 => zaw a0 y0_4 fun y0_5 y1_2 y2 => br (!eqI y1 0) (K false) (br (!eqI y2 0) (K false) (br (!(eqI y0_5 a1_0 && eqI y1_2 a1_1)) (K false) (zat a0 a1_0 a1_1 fun y0_6 y1 => zat a0 y0_6 y1 fun y0_7 y1 => br (!(eqI y0_7 a1_0 && eqI y1 a1_1)) (K false) (zba a0 a1_0 a1_1 fun y0_8 y1 y2 y3 y4 => br (!eqI y4 0) (br (leI 8 y0) (zbg fun y0 => K y0) (br (eqI y0 0) (zbg fun y0 => K y0) (br (eqI y0 7) (zbg fun y0 => K y0) (K false)))) (zau a0 y0_8 y1 y2 y3 fun y0_9 y1 y2 y3 => br (eqI y3 0) (br y2 (br (eqI y0_9 a1_0 && eqI y1 a1_1) (zbg fun y0 => K y0) (br (eqI y0 3) (zat a0 a1_0 a1_1 fun y0 y1_3 => br (eqI y0_9 y0 && eqI y1 y1_3) (zbg fun y0 => K y0) (K false)) (K false))) (K false)) (K false)))))))) (K false)) (K false)) (zay a0 a1_0 a1_1 fun y0_2 y1 => zaw a0 y0_2 fun y0_3 y1_1 y2 => br (!eqI y1 0) (K false) (br (!eqI y2 0) (K false) (br (!(eqI y0_3 a1_0 && eqI y1_1 a1_1)) (K false) (zat a0 a1_0 a1_1 fun y0_4 y1 => zat a0 y0_4 y1 fun y0_5 y1 => br (!(eqI y0_5 a1_0 && eqI y1 a1_1)) (K false) (zba a0 a1_0 a1_1 fun y0_6 y1 y2 y3 y4 => br (!eqI y4 0) (br (leI 8 y0) (zbg fun y0 => K y0) (br (eqI y0 0) (zbg fun y0 => K y0) (br (eqI y0 7) (zbg fun y0 => K y0) (K false)))) (zau a0 y0_6 y1 y2 y3 fun y0_7 y1 y2 y3 => br (eqI y3 0) (br y2 (br (eqI y0_7 a1_0 && eqI y1 a1_1) (zbg fun y0 => K y0) (br (eqI y0 3) (zat a0 a1_0 a1_1 fun y0 y1_2 => br (eqI y0_7 y0 && eqI y1 y1_2) (zbg fun y0 => K y0) (K false)) (K false))) (K false)) (K false)))))))))
noncomputable def zbf := shut zbf.d
theorem zbf.is : zbf = zbf.d := shut_is _
end Go.Ev.S

/- The functions as the evaluator has them: what each comes to. -/
set_option maxRecDepth 100000
set_option linter.unusedVariables false
set_option linter.unusedSimpArgs false
namespace Go.Ev.S
open Go Go.Ev
end Go.Ev.S

/- The functions as the evaluator has them: what each comes to. -/
set_option maxRecDepth 100000
set_option linter.unusedVariables false
set_option linter.unusedSimpArgs false
namespace Go.Ev.S
open Go Go.Ev
end Go.Ev.S

/- The functions as the evaluator has them: what each comes to. -/
set_option maxRecDepth 100000
set_option linter.unusedVariables false
set_option linter.unusedSimpArgs false
namespace Go.Ev.S
open Go Go.Ev
end Go.Ev.S

/- The functions as the evaluator has them: what each comes to. -/
set_option maxRecDepth 100000
set_option linter.unusedVariables false
set_option linter.unusedSimpArgs false
namespace Go.Ev.S
open Go Go.Ev
end Go.Ev.S

/- The functions as the evaluator has them: what each comes to. -/
set_option maxRecDepth 100000
set_option linter.unusedVariables false
set_option linter.unusedSimpArgs false
namespace Go.Ev.S
open Go Go.Ev
end Go.Ev.S

/- The functions as the evaluator has them: what each comes to. -/
set_option maxRecDepth 100000
set_option linter.unusedVariables false
set_option linter.unusedSimpArgs false
namespace Go.Ev.S
open Go Go.Ev
end Go.Ev.S

/- The functions as the evaluator has them: what each comes to. -/
set_option maxRecDepth 100000
set_option linter.unusedVariables false
set_option linter.unusedSimpArgs false
namespace Go.Ev.S
open Go Go.Ev
end Go.Ev.S

/- The functions as the evaluator has them: what each comes to. -/
set_option maxRecDepth 100000
set_option linter.unusedVariables false
set_option linter.unusedSimpArgs false
namespace Go.Ev.S
open Go Go.Ev
end Go.Ev.S

/- The functions as the evaluator has them: what each comes to. -/
set_option maxRecDepth 100000
set_option linter.unusedVariables false
set_option linter.unusedSimpArgs false
namespace Go.Ev.S
open Go Go.Ev
end Go.Ev.S

/- The functions as the evaluator has them: what each comes to. -/
set_option maxRecDepth 100000
set_option linter.unusedVariables false
set_option linter.unusedSimpArgs false
namespace Go.Ev.S
open Go Go.Ev
end Go.Ev.S

/- The functions as the evaluator has them: what each comes to. -/
set_option maxRecDepth 100000
set_option linter.unusedVariables false
set_option linter.unusedSimpArgs false
namespace Go.Ev.S
open Go Go.Ev
end Go.Ev.S

/- The functions as the evaluator has them: what each comes to. -/
set_option maxRecDepth 100000
set_option linter.unusedVariables false
set_option linter.unusedSimpArgs false
namespace Go.Ev.S
open Go Go.Ev
end Go.Ev.S

/- The functions as the evaluator has them: what each comes to. -/
set_option maxRecDepth 100000
set_option linter.unusedVariables false
set_option linter.unusedSimpArgs false
namespace Go.Ev.S
open Go Go.Ev
end Go.Ev.S

/- The functions as the evaluator has them: what each comes to. -/
set_option maxRecDepth 100000
set_option linter.unusedVariables false
set_option linter.unusedSimpArgs false
namespace Go.Ev.S
open Go Go.Ev
end Go.Ev.S

/- The functions as the evaluator has them: what each comes to. -/
set_option maxRecDepth 100000
set_option linter.unusedVariables false
set_option linter.unusedSimpArgs false
namespace Go.Ev.S
open Go Go.Ev
end Go.Ev.S

/- The functions as the evaluator has them: what each comes to. -/
set_option maxRecDepth 100000
set_option linter.unusedVariables false
set_option linter.unusedSimpArgs false
namespace Go.Ev.S
open Go Go.Ev
end Go.Ev.S
