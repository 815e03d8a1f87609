/- The functions as the evaluator has them: what each comes to. -/
import Derived.Test.YtmknjnegifgllaaDoorEvC
import Derived.Lib.ItoaNum
import Derived.Lib.AtoiAll
import Derived.Lib.Bytealg
set_option maxRecDepth 100000
set_option linter.unusedVariables false
set_option linter.unusedSimpArgs false
namespace Go.Ev.S
open Go Go.Ev
noncomputable def shut {α : Type} (d : α) : α := Classical.choose (⟨d, rfl⟩ : ∃ f, f = d)
theorem shut_is {α : Type} (d : α) : shut d = d := Classical.choose_spec (⟨d, rfl⟩ : ∃ f, f = d)
def zaa.d (a0 : Int) (K : Int → Prop) : Prop :=
  br (leI 4294967296 a0) (br (leI 65536 (yaS IntKind.u64 a0 32)) (br (leI 256 (yaS IntKind.u64 (yaS IntKind.u64 a0 32) 16)) (gd (leI 0 (cvI IntKind.u8 (yaS IntKind.u64 (yaS IntKind.u64 (yaS IntKind.u64 a0 32) 16) 8)) && ltI (cvI IntKind.u8 (yaS IntKind.u64 (yaS IntKind.u64 (yaS IntKind.u64 a0 32) 16) 8)) 256) (K (yal IntKind.i64 56 (cvI IntKind.i64 (yap [0, 1, 2, 2, 3, 3, 3, 3, 4, 4, 4, 4, 4, 4, 4, 4, 5, 5, 5, 5, 5, 5, 5, 5, 5, 5, 5, 5, 5, 5, 5, 5, 6, 6, 6, 6, 6, 6, 6, 6, 6, 6, 6, 6, 6, 6, 6, 6, 6, 6, 6, 6, 6, 6, 6, 6, 6, 6, 6, 6, 6, 6, 6, 6, 7, 7, 7, 7, 7, 7, 7, 7, 7, 7, 7, 7, 7, 7, 7, 7, 7, 7, 7, 7, 7, 7, 7, 7, 7, 7, 7, 7, 7, 7, 7, 7, 7, 7, 7, 7, 7, 7, 7, 7, 7, 7, 7, 7, 7, 7, 7, 7, 7, 7, 7, 7, 7, 7, 7, 7, 7, 7, 7, 7, 7, 7, 7, 7, 8, 8, 8, 8, 8, 8, 8, 8, 8, 8, 8, 8, 8, 8, 8, 8, 8, 8, 8, 8, 8, 8, 8, 8, 8, 8, 8, 8, 8, 8, 8, 8, 8, 8, 8, 8, 8, 8, 8, 8, 8, 8, 8, 8, 8, 8, 8, 8, 8, 8, 8, 8, 8, 8, 8, 8, 8, 8, 8, 8, 8, 8, 8, 8, 8, 8, 8, 8, 8, 8, 8, 8, 8, 8, 8, 8, 8, 8, 8, 8, 8, 8, 8, 8, 8, 8, 8, 8, 8, 8, 8, 8, 8, 8, 8, 8, 8, 8, 8, 8, 8, 8, 8, 8, 8, 8, 8, 8, 8, 8, 8, 8, 8, 8, 8, 8, 8, 8, 8, 8, 8, 8, 8, 8, 8, 8, 8, 8] (Int.toNat (cvI IntKind.u8 (yaS IntKind.u64 (yaS IntKind.u64 (yaS IntKind.u64 a0 32) 16) 8)))))))) (gd (leI 0 (cvI IntKind.u8 (yaS IntKind.u64 (yaS IntKind.u64 a0 32) 16)) && ltI (cvI IntKind.u8 (yaS IntKind.u64 (yaS IntKind.u64 a0 32) 16)) 256) (K (yal IntKind.i64 48 (cvI IntKind.i64 (yap [0, 1, 2, 2, 3, 3, 3, 3, 4, 4, 4, 4, 4, 4, 4, 4, 5, 5, 5, 5, 5, 5, 5, 5, 5, 5, 5, 5, 5, 5, 5, 5, 6, 6, 6, 6, 6, 6, 6, 6, 6, 6, 6, 6, 6, 6, 6, 6, 6, 6, 6, 6, 6, 6, 6, 6, 6, 6, 6, 6, 6, 6, 6, 6, 7, 7, 7, 7, 7, 7, 7, 7, 7, 7, 7, 7, 7, 7, 7, 7, 7, 7, 7, 7, 7, 7, 7, 7, 7, 7, 7, 7, 7, 7, 7, 7, 7, 7, 7, 7, 7, 7, 7, 7, 7, 7, 7, 7, 7, 7, 7, 7, 7, 7, 7, 7, 7, 7, 7, 7, 7, 7, 7, 7, 7, 7, 7, 7, 8, 8, 8, 8, 8, 8, 8, 8, 8, 8, 8, 8, 8, 8, 8, 8, 8, 8, 8, 8, 8, 8, 8, 8, 8, 8, 8, 8, 8, 8, 8, 8, 8, 8, 8, 8, 8, 8, 8, 8, 8, 8, 8, 8, 8, 8, 8, 8, 8, 8, 8, 8, 8, 8, 8, 8, 8, 8, 8, 8, 8, 8, 8, 8, 8, 8, 8, 8, 8, 8, 8, 8, 8, 8, 8, 8, 8, 8, 8, 8, 8, 8, 8, 8, 8, 8, 8, 8, 8, 8, 8, 8, 8, 8, 8, 8, 8, 8, 8, 8, 8, 8, 8, 8, 8, 8, 8, 8, 8, 8, 8, 8, 8, 8, 8, 8, 8, 8, 8, 8, 8, 8, 8, 8, 8, 8, 8, 8] (Int.toNat (cvI IntKind.u8 (yaS IntKind.u64 (yaS IntKind.u64 a0 32) 16))))))))) (br (leI 256 (yaS IntKind.u64 a0 32)) (gd (leI 0 (cvI IntKind.u8 (yaS IntKind.u64 (yaS IntKind.u64 a0 32) 8)) && ltI (cvI IntKind.u8 (yaS IntKind.u64 (yaS IntKind.u64 a0 32) 8)) 256) (K (yal IntKind.i64 40 (cvI IntKind.i64 (yap [0, 1, 2, 2, 3, 3, 3, 3, 4, 4, 4, 4, 4, 4, 4, 4, 5, 5, 5, 5, 5, 5, 5, 5, 5, 5, 5, 5, 5, 5, 5, 5, 6, 6, 6, 6, 6, 6, 6, 6, 6, 6, 6, 6, 6, 6, 6, 6, 6, 6, 6, 6, 6, 6, 6, 6, 6, 6, 6, 6, 6, 6, 6, 6, 7, 7, 7, 7, 7, 7, 7, 7, 7, 7, 7, 7, 7, 7, 7, 7, 7, 7, 7, 7, 7, 7, 7, 7, 7, 7, 7, 7, 7, 7, 7, 7, 7, 7, 7, 7, 7, 7, 7, 7, 7, 7, 7, 7, 7, 7, 7, 7, 7, 7, 7, 7, 7, 7, 7, 7, 7, 7, 7, 7, 7, 7, 7, 7, 8, 8, 8, 8, 8, 8, 8, 8, 8, 8, 8, 8, 8, 8, 8, 8, 8, 8, 8, 8, 8, 8, 8, 8, 8, 8, 8, 8, 8, 8, 8, 8, 8, 8, 8, 8, 8, 8, 8, 8, 8, 8, 8, 8, 8, 8, 8, 8, 8, 8, 8, 8, 8, 8, 8, 8, 8, 8, 8, 8, 8, 8, 8, 8, 8, 8, 8, 8, 8, 8, 8, 8, 8, 8, 8, 8, 8, 8, 8, 8, 8, 8, 8, 8, 8, 8, 8, 8, 8, 8, 8, 8, 8, 8, 8, 8, 8, 8, 8, 8, 8, 8, 8, 8, 8, 8, 8, 8, 8, 8, 8, 8, 8, 8, 8, 8, 8, 8, 8, 8, 8, 8, 8, 8, 8, 8, 8, 8] (Int.toNat (cvI IntKind.u8 (yaS IntKind.u64 (yaS IntKind.u64 a0 32) 8)))))))) (gd (leI 0 (cvI IntKind.u8 (yaS IntKind.u64 a0 32)) && ltI (cvI IntKind.u8 (yaS IntKind.u64 a0 32)) 256) (K (yal IntKind.i64 32 (cvI IntKind.i64 (yap [0, 1, 2, 2, 3, 3, 3, 3, 4, 4, 4, 4, 4, 4, 4, 4, 5, 5, 5, 5, 5, 5, 5, 5, 5, 5, 5, 5, 5, 5, 5, 5, 6, 6, 6, 6, 6, 6, 6, 6, 6, 6, 6, 6, 6, 6, 6, 6, 6, 6, 6, 6, 6, 6, 6, 6, 6, 6, 6, 6, 6, 6, 6, 6, 7, 7, 7, 7, 7, 7, 7, 7, 7, 7, 7, 7, 7, 7, 7, 7, 7, 7, 7, 7, 7, 7, 7, 7, 7, 7, 7, 7, 7, 7, 7, 7, 7, 7, 7, 7, 7, 7, 7, 7, 7, 7, 7, 7, 7, 7, 7, 7, 7, 7, 7, 7, 7, 7, 7, 7, 7, 7, 7, 7, 7, 7, 7, 7, 8, 8, 8, 8, 8, 8, 8, 8, 8, 8, 8, 8, 8, 8, 8, 8, 8, 8, 8, 8, 8, 8, 8, 8, 8, 8, 8, 8, 8, 8, 8, 8, 8, 8, 8, 8, 8, 8, 8, 8, 8, 8, 8, 8, 8, 8, 8, 8, 8, 8, 8, 8, 8, 8, 8, 8, 8, 8, 8, 8, 8, 8, 8, 8, 8, 8, 8, 8, 8, 8, 8, 8, 8, 8, 8, 8, 8, 8, 8, 8, 8, 8, 8, 8, 8, 8, 8, 8, 8, 8, 8, 8, 8, 8, 8, 8, 8, 8, 8, 8, 8, 8, 8, 8, 8, 8, 8, 8, 8, 8, 8, 8, 8, 8, 8, 8, 8, 8, 8, 8, 8, 8, 8, 8, 8, 8, 8, 8] (Int.toNat (cvI IntKind.u8 (yaS IntKind.u64 a0 32)))))))))) (br (leI 65536 a0) (br (leI 256 (yaS IntKind.u64 a0 16)) (gd (leI 0 (cvI IntKind.u8 (yaS IntKind.u64 (yaS IntKind.u64 a0 16) 8)) && ltI (cvI IntKind.u8 (yaS IntKind.u64 (yaS IntKind.u64 a0 16) 8)) 256) (K (yal IntKind.i64 24 (cvI IntKind.i64 (yap [0, 1, 2, 2, 3, 3, 3, 3, 4, 4, 4, 4, 4, 4, 4, 4, 5, 5, 5, 5, 5, 5, 5, 5, 5, 5, 5, 5, 5, 5, 5, 5, 6, 6, 6, 6, 6, 6, 6, 6, 6, 6, 6, 6, 6, 6, 6, 6, 6, 6, 6, 6, 6, 6, 6, 6, 6, 6, 6, 6, 6, 6, 6, 6, 7, 7, 7, 7, 7, 7, 7, 7, 7, 7, 7, 7, 7, 7, 7, 7, 7, 7, 7, 7, 7, 7, 7, 7, 7, 7, 7, 7, 7, 7, 7, 7, 7, 7, 7, 7, 7, 7, 7, 7, 7, 7, 7, 7, 7, 7, 7, 7, 7, 7, 7, 7, 7, 7, 7, 7, 7, 7, 7, 7, 7, 7, 7, 7, 8, 8, 8, 8, 8, 8, 8, 8, 8, 8, 8, 8, 8, 8, 8, 8, 8, 8, 8, 8, 8, 8, 8, 8, 8, 8, 8, 8, 8, 8, 8, 8, 8, 8, 8, 8, 8, 8, 8, 8, 8, 8, 8, 8, 8, 8, 8, 8, 8, 8, 8, 8, 8, 8, 8, 8, 8, 8, 8, 8, 8, 8, 8, 8, 8, 8, 8, 8, 8, 8, 8, 8, 8, 8, 8, 8, 8, 8, 8, 8, 8, 8, 8, 8, 8, 8, 8, 8, 8, 8, 8, 8, 8, 8, 8, 8, 8, 8, 8, 8, 8, 8, 8, 8, 8, 8, 8, 8, 8, 8, 8, 8, 8, 8, 8, 8, 8, 8, 8, 8, 8, 8, 8, 8, 8, 8, 8, 8] (Int.toNat (cvI IntKind.u8 (yaS IntKind.u64 (yaS IntKind.u64 a0 16) 8)))))))) (gd (leI 0 (cvI IntKind.u8 (yaS IntKind.u64 a0 16)) && ltI (cvI IntKind.u8 (yaS IntKind.u64 a0 16)) 256) (K (yal IntKind.i64 16 (cvI IntKind.i64 (yap [0, 1, 2, 2, 3, 3, 3, 3, 4, 4, 4, 4, 4, 4, 4, 4, 5, 5, 5, 5, 5, 5, 5, 5, 5, 5, 5, 5, 5, 5, 5, 5, 6, 6, 6, 6, 6, 6, 6, 6, 6, 6, 6, 6, 6, 6, 6, 6, 6, 6, 6, 6, 6, 6, 6, 6, 6, 6, 6, 6, 6, 6, 6, 6, 7, 7, 7, 7, 7, 7, 7, 7, 7, 7, 7, 7, 7, 7, 7, 7, 7, 7, 7, 7, 7, 7, 7, 7, 7, 7, 7, 7, 7, 7, 7, 7, 7, 7, 7, 7, 7, 7, 7, 7, 7, 7, 7, 7, 7, 7, 7, 7, 7, 7, 7, 7, 7, 7, 7, 7, 7, 7, 7, 7, 7, 7, 7, 7, 8, 8, 8, 8, 8, 8, 8, 8, 8, 8, 8, 8, 8, 8, 8, 8, 8, 8, 8, 8, 8, 8, 8, 8, 8, 8, 8, 8, 8, 8, 8, 8, 8, 8, 8, 8, 8, 8, 8, 8, 8, 8, 8, 8, 8, 8, 8, 8, 8, 8, 8, 8, 8, 8, 8, 8, 8, 8, 8, 8, 8, 8, 8, 8, 8, 8, 8, 8, 8, 8, 8, 8, 8, 8, 8, 8, 8, 8, 8, 8, 8, 8, 8, 8, 8, 8, 8, 8, 8, 8, 8, 8, 8, 8, 8, 8, 8, 8, 8, 8, 8, 8, 8, 8, 8, 8, 8, 8, 8, 8, 8, 8, 8, 8, 8, 8, 8, 8, 8, 8, 8, 8, 8, 8, 8, 8, 8, 8] (Int.toNat (cvI IntKind.u8 (yaS IntKind.u64 a0 16))))))))) (br (leI 256 a0) (gd (leI 0 (cvI IntKind.u8 (yaS IntKind.u64 a0 8)) && ltI (cvI IntKind.u8 (yaS IntKind.u64 a0 8)) 256) (K (yal IntKind.i64 8 (cvI IntKind.i64 (yap [0, 1, 2, 2, 3, 3, 3, 3, 4, 4, 4, 4, 4, 4, 4, 4, 5, 5, 5, 5, 5, 5, 5, 5, 5, 5, 5, 5, 5, 5, 5, 5, 6, 6, 6, 6, 6, 6, 6, 6, 6, 6, 6, 6, 6, 6, 6, 6, 6, 6, 6, 6, 6, 6, 6, 6, 6, 6, 6, 6, 6, 6, 6, 6, 7, 7, 7, 7, 7, 7, 7, 7, 7, 7, 7, 7, 7, 7, 7, 7, 7, 7, 7, 7, 7, 7, 7, 7, 7, 7, 7, 7, 7, 7, 7, 7, 7, 7, 7, 7, 7, 7, 7, 7, 7, 7, 7, 7, 7, 7, 7, 7, 7, 7, 7, 7, 7, 7, 7, 7, 7, 7, 7, 7, 7, 7, 7, 7, 8, 8, 8, 8, 8, 8, 8, 8, 8, 8, 8, 8, 8, 8, 8, 8, 8, 8, 8, 8, 8, 8, 8, 8, 8, 8, 8, 8, 8, 8, 8, 8, 8, 8, 8, 8, 8, 8, 8, 8, 8, 8, 8, 8, 8, 8, 8, 8, 8, 8, 8, 8, 8, 8, 8, 8, 8, 8, 8, 8, 8, 8, 8, 8, 8, 8, 8, 8, 8, 8, 8, 8, 8, 8, 8, 8, 8, 8, 8, 8, 8, 8, 8, 8, 8, 8, 8, 8, 8, 8, 8, 8, 8, 8, 8, 8, 8, 8, 8, 8, 8, 8, 8, 8, 8, 8, 8, 8, 8, 8, 8, 8, 8, 8, 8, 8, 8, 8, 8, 8, 8, 8, 8, 8, 8, 8, 8, 8] (Int.toNat (cvI IntKind.u8 (yaS IntKind.u64 a0 8)))))))) (gd (leI 0 (cvI IntKind.u8 a0) && ltI (cvI IntKind.u8 a0) 256) (K (yal IntKind.i64 0 (cvI IntKind.i64 (yap [0, 1, 2, 2, 3, 3, 3, 3, 4, 4, 4, 4, 4, 4, 4, 4, 5, 5, 5, 5, 5, 5, 5, 5, 5, 5, 5, 5, 5, 5, 5, 5, 6, 6, 6, 6, 6, 6, 6, 6, 6, 6, 6, 6, 6, 6, 6, 6, 6, 6, 6, 6, 6, 6, 6, 6, 6, 6, 6, 6, 6, 6, 6, 6, 7, 7, 7, 7, 7, 7, 7, 7, 7, 7, 7, 7, 7, 7, 7, 7, 7, 7, 7, 7, 7, 7, 7, 7, 7, 7, 7, 7, 7, 7, 7, 7, 7, 7, 7, 7, 7, 7, 7, 7, 7, 7, 7, 7, 7, 7, 7, 7, 7, 7, 7, 7, 7, 7, 7, 7, 7, 7, 7, 7, 7, 7, 7, 7, 8, 8, 8, 8, 8, 8, 8, 8, 8, 8, 8, 8, 8, 8, 8, 8, 8, 8, 8, 8, 8, 8, 8, 8, 8, 8, 8, 8, 8, 8, 8, 8, 8, 8, 8, 8, 8, 8, 8, 8, 8, 8, 8, 8, 8, 8, 8, 8, 8, 8, 8, 8, 8, 8, 8, 8, 8, 8, 8, 8, 8, 8, 8, 8, 8, 8, 8, 8, 8, 8, 8, 8, 8, 8, 8, 8, 8, 8, 8, 8, 8, 8, 8, 8, 8, 8, 8, 8, 8, 8, 8, 8, 8, 8, 8, 8, 8, 8, 8, 8, 8, 8, 8, 8, 8, 8, 8, 8, 8, 8, 8, 8, 8, 8, 8, 8, 8, 8, 8, 8, 8, 8, 8, 8, 8, 8, 8, 8] (Int.toNat (cvI IntKind.u8 a0)))))))))
noncomputable def zaa := shut zaa.d
theorem zaa.is : zaa = zaa.d := shut_is _
def zab.d (a0 : Int) (K : Int → Prop) : Prop :=
  br (eqI a0 0) (K 64) ((leI 0 (yaS IntKind.u64 (ycB IntKind.u64 (ydM IntKind.u64 a0 (yoU IntKind.u64 a0)) 285870213051353865) 58) && ltI (yaS IntKind.u64 (ycB IntKind.u64 (ydM IntKind.u64 a0 (yoU IntKind.u64 a0)) 285870213051353865) 58) 64) = true ∧ K (cvI IntKind.i64 (ya2 (Int.toNat (yaS IntKind.u64 (ycB IntKind.u64 (ydM IntKind.u64 a0 (yoU IntKind.u64 a0)) 285870213051353865) 58)))))
noncomputable def zab := shut zab.d
theorem zab.is : zab = zab.d := shut_is _
end Go.Ev.S

/- The functions as the evaluator has them: what each comes to. -/
set_option maxRecDepth 100000
set_option linter.unusedVariables false
set_option linter.unusedSimpArgs false
namespace Go.Ev.S
open Go Go.Ev
def zby.d (a0 : Int) (K : Int → Prop) : Prop :=
  zaa a0 fun y0 => K y0
noncomputable def zby := shut zby.d
theorem zby.is : zby = zby.d := shut_is _
def zbz.d (a0 : Int) (K : Int → Prop) : Prop :=
  zab a0 fun y0 => K y0
noncomputable def zbz := shut zbz.d
theorem zbz.is : zbz = zbz.d := shut_is _
end Go.Ev.S

/- The functions as the evaluator has them: what each comes to. -/
set_option maxRecDepth 100000
set_option linter.unusedVariables false
set_option linter.unusedSimpArgs false
namespace Go.Ev.S
open Go Go.Ev
end Go.Ev.S

/- The functions as the evaluator has them: what each comes to. -/
set_option maxRecDepth 100000
set_option linter.unusedVariables false
set_option linter.unusedSimpArgs false
namespace Go.Ev.S
open Go Go.Ev
def zal.d (a0 : List UInt8) (K : Int → Prop) : Prop :=
  br (ltI 16384 ↑(List.length a0)) (K 2) (br (!eqS a0 []) (gd (ltI 0 ↑(List.length a0)) (br (eqI (yap a0 0) 0) (K 2) (K 0))) (K 0))
noncomputable def zal := shut zal.d
theorem zal.is : zal = zal.d := shut_is _
def zay.d (a0 : List UInt8) (a1 : List UInt8) (K : Bool → Prop) : Prop :=
  zal a0 fun y0 => br (eqI y0 0) (zal a1 fun y0 => K (eqI y0 0)) (K false)
noncomputable def zay := shut zay.d
theorem zay.is : zay = zay.d := shut_is _
def zat.l1.step (again : Nat → Nat → Nat → (Nat → Int) → Prop) (k0 : Nat → Nat → Nat → (Nat → Int) → Prop) (x0 : Nat) (x1 : Nat) (x2 : Nat) (x3 : Nat → Int) : Prop :=
  br (ltI 0 ↑x0) (gd (leI 0 (yaw IntKind.i64 (↑x0) 1) && ltI (yaw IntKind.i64 (↑x0) 1) ↑x0) (br (eqI (x3 (Int.toNat (yaw IntKind.i64 (↑x0) 1))) 0) (gd (leI 0 (yaw IntKind.i64 (↑x0) 1) && leI (yaw IntKind.i64 (↑x0) 1) ↑x1) (again (Int.toNat (yaw IntKind.i64 (↑x0) 1) - 0) (x1 - 0) x2 x3)) (k0 x0 x1 x2 x3))) (k0 x0 x1 x2 x3)
def zat.l1 (k0 : Nat → Nat → Nat → (Nat → Int) → Prop) : Nat → Nat → Nat → Nat → (Nat → Int) → Prop
  | 0 => fun _ _ _ _ => False
  | n + 1 => zat.l1.step (zat.l1 k0 n) k0
def zat.l1.entry : yao := ⟨LV.mk 1 [(0, 1)] 4 1 false, 1, 21, fun vs H K => match vs, H with
  | [EV.slice 0 0 x0 (some x1) 1], [some (EV.arr IntKind.u32 x2 x3)] => ∃ n, zat.l1 (fun y0 y1 y2 y3 => K (.exit 0) [EV.slice 0 0 y0 (some y1) 1] [some (EV.arr IntKind.u32 y2 y3)]) n x0 x1 x2 x3
  | _, _ => False⟩
def zat.d (a0l : Nat) (a0c : Nat) (a0n : Nat) (a0 : Nat → Int) (K : Nat → Nat → Nat → (Nat → Int) → Prop) : Prop :=
  ∃ n, zat.l1 (fun y0 y1 y2 y3 => K y0 y1 y2 y3) n a0l a0c a0n a0
noncomputable def zat := shut zat.d
theorem zat.is : zat = zat.d := shut_is _
def nat_sum.l7.step (again : Nat → (Nat → Int) → Nat → Nat → Int → Int → Nat → (Nat → Int) → Prop) (k0 : Nat → Nat → Nat → (Nat → Int) → Prop) (x0 : Nat) (x1 : Nat → Int) (x2 : Nat) (x3 : Nat) (x4 : Int) (x5 : Int) (x6 : Nat) (x7 : Nat → Int) : Prop :=
  br (ltI x5 ↑x0) (gd (leI 0 x5 && ltI x5 ↑x2) (br (ltI x5 ↑x0) (gd (leI 0 x5 && ltI x5 ↑x0) (gd (leI 0 x5 && ltI x5 ↑x2) (again x0 x1 x2 x3 (yaS IntKind.u64 (yal IntKind.u64 (yal IntKind.u64 x4 (cvI IntKind.u64 (x7 (Int.toNat x5)))) (cvI IntKind.u64 (x1 (Int.toNat x5)))) 32) (yal IntKind.i64 x5 1) x6 (upd x7 (Int.toNat x5) (cvI IntKind.u32 (yal IntKind.u64 (yal IntKind.u64 x4 (cvI IntKind.u64 (x7 (Int.toNat x5)))) (cvI IntKind.u64 (x1 (Int.toNat x5))))))))) (gd (leI 0 x5 && ltI x5 ↑x2) (again x0 x1 x2 x3 (yaS IntKind.u64 (yal IntKind.u64 x4 (cvI IntKind.u64 (x7 (Int.toNat x5)))) 32) (yal IntKind.i64 x5 1) x6 (upd x7 (Int.toNat x5) (cvI IntKind.u32 (yal IntKind.u64 x4 (cvI IntKind.u64 (x7 (Int.toNat x5)))))))))) (br (ltI 0 x4) (gd (leI 0 x5 && ltI x5 ↑x2) (br (ltI x5 ↑x0) (gd (leI 0 x5 && ltI x5 ↑x0) (gd (leI 0 x5 && ltI x5 ↑x2) (again x0 x1 x2 x3 (yaS IntKind.u64 (yal IntKind.u64 (yal IntKind.u64 x4 (cvI IntKind.u64 (x7 (Int.toNat x5)))) (cvI IntKind.u64 (x1 (Int.toNat x5)))) 32) (yal IntKind.i64 x5 1) x6 (upd x7 (Int.toNat x5) (cvI IntKind.u32 (yal IntKind.u64 (yal IntKind.u64 x4 (cvI IntKind.u64 (x7 (Int.toNat x5)))) (cvI IntKind.u64 (x1 (Int.toNat x5))))))))) (gd (leI 0 x5 && ltI x5 ↑x2) (again x0 x1 x2 x3 (yaS IntKind.u64 (yal IntKind.u64 x4 (cvI IntKind.u64 (x7 (Int.toNat x5)))) 32) (yal IntKind.i64 x5 1) x6 (upd x7 (Int.toNat x5) (cvI IntKind.u32 (yal IntKind.u64 x4 (cvI IntKind.u64 (x7 (Int.toNat x5)))))))))) (k0 x2 x3 x6 x7))
def nat_sum.l7 (k0 : Nat → Nat → Nat → (Nat → Int) → Prop) : Nat → Nat → (Nat → Int) → Nat → Nat → Int → Int → Nat → (Nat → Int) → Prop
  | 0 => fun _ _ _ _ _ _ _ _ => False
  | n + 1 => nat_sum.l7.step (nat_sum.l7 k0 n) k0
def nat_sum.l7.entry : yao := ⟨LV.mk 32 [(0, 32)] 16 0 false, 0, 59, fun vs H K => match vs, H with
  | [EV.rsI IntKind.u32 x0 x1, EV.slice 0 0 x2 (some x3) 1, EV.int IntKind.u64 x4, EV.int IntKind.i64 x5], [some (EV.arr IntKind.u32 x6 x7)] => ∃ n, nat_sum.l7 (fun y0 y1 y2 y3 => K (.exit 0) [EV.slice 0 0 y0 (some y1) 1] [some (EV.arr IntKind.u32 y2 y3)]) n x0 x1 x2 x3 x4 x5 x6 x7
  | _, _ => False⟩
def nat_sum.d (a0n : Nat) (a0 : Nat → Int) (a1n : Nat) (a1 : Nat → Int) (K : Nat → (Nat → Int) → Prop) : Prop :=
  br (ltI ↑a0n ↑a1n) (gd (leI 0 (yal IntKind.i64 (↑a1n) 1) && (leI (yal IntKind.i64 (↑a1n) 1) (yal IntKind.i64 (↑a1n) 1) && leI (yal IntKind.i64 (↑a1n) 1) 1099511627776)) (∃ n, nat_sum.l7 (fun y0 y1 y2 y3 => zat y0 y1 y2 y3 fun y0 y1 y2 y3 => K y0 y3) n a0n a0 (Int.toNat (yal IntKind.i64 (↑a1n) 1)) (Int.toNat (yal IntKind.i64 (↑a1n) 1)) 0 0 (Int.toNat (yal IntKind.i64 (↑a1n) 1)) (ovl 0 (yf7 a1n (Int.toNat (yal IntKind.i64 (↑a1n) 1))) a1 fun x => 0))) (gd (leI 0 (yal IntKind.i64 (↑a0n) 1) && (leI (yal IntKind.i64 (↑a0n) 1) (yal IntKind.i64 (↑a0n) 1) && leI (yal IntKind.i64 (↑a0n) 1) 1099511627776)) (∃ n, nat_sum.l7 (fun y0 y1 y2 y3 => zat y0 y1 y2 y3 fun y0 y1 y2 y3 => K y0 y3) n a1n a1 (Int.toNat (yal IntKind.i64 (↑a0n) 1)) (Int.toNat (yal IntKind.i64 (↑a0n) 1)) 0 0 (Int.toNat (yal IntKind.i64 (↑a0n) 1)) (ovl 0 (yf7 a0n (Int.toNat (yal IntKind.i64 (↑a0n) 1))) a0 fun x => 0)))
noncomputable def nat_sum : Nat → (Nat → Int) → Nat → (Nat → Int) → (Nat → (Nat → Int) → Prop) → Prop := Classical.choose (⟨nat_sum.d, rfl⟩ : ∃ f, f = nat_sum.d)
def zau.l1.step (again : Nat → (Nat → Int) → Prop) (k0 : Nat → (Nat → Int) → Prop) (x0 : Nat) (x1 : Nat → Int) : Prop :=
  br (ltI 0 ↑x0) (gd (leI 0 (yaw IntKind.i64 (↑x0) 1) && ltI (yaw IntKind.i64 (↑x0) 1) ↑x0) (br (eqI (x1 (Int.toNat (yaw IntKind.i64 (↑x0) 1))) 0) (gd (leI 0 (yaw IntKind.i64 (↑x0) 1) && leI (yaw IntKind.i64 (↑x0) 1) ↑x0) (again (Int.toNat (yaw IntKind.i64 (↑x0) 1) - 0) x1)) (k0 x0 x1))) (k0 x0 x1)
def zau.l1 (k0 : Nat → (Nat → Int) → Prop) : Nat → Nat → (Nat → Int) → Prop
  | 0 => fun _ _ => False
  | n + 1 => zau.l1.step (zau.l1 k0 n) k0
def zau.l1.entry : yao := ⟨LV.mk 1 [(0, 1)] 4 0 false, 0, 21, fun vs H K => match vs, H with
  | [EV.rsI IntKind.u32 x0 x1], [] => ∃ n, zau.l1 (fun y0 y1 => K (.exit 0) [EV.rsI IntKind.u32 y0 y1] []) n x0 x1
  | _, _ => False⟩
def zau.d (a0n : Nat) (a0 : Nat → Int) (K : Nat → (Nat → Int) → Prop) : Prop :=
  ∃ n, zau.l1 (fun y0 y1 => K y0 y1) n a0n a0
noncomputable def zau := shut zau.d
theorem zau.is : zau = zau.d := shut_is _
def zaw.l4.step (again : Nat → (Nat → Int) → Nat → Nat → Int → Int → Nat → (Nat → Int) → Prop) (k0 : Nat → Nat → Nat → (Nat → Int) → Prop) (x0 : Nat) (x1 : Nat → Int) (x2 : Nat) (x3 : Nat) (x4 : Int) (x5 : Int) (x6 : Nat) (x7 : Nat → Int) : Prop :=
  br (ltI x5 x4) (gd (leI 0 (ya1 IntKind.i64 x5 4) && ltI (ya1 IntKind.i64 x5 4) ↑x0) (gd (!ltI (cvI IntKind.u64 (ycB IntKind.i64 8 (ycn IntKind.i64 x5 4))) 0) (gd (leI 0 (yaw IntKind.i64 (yaw IntKind.i64 (↑x2) 1) x5) && ltI (yaw IntKind.i64 (yaw IntKind.i64 (↑x2) 1) x5) ↑x2) (again x0 x1 x2 x3 x4 (yal IntKind.i64 x5 1) x6 (upd x7 (Int.toNat (yaw IntKind.i64 (yaw IntKind.i64 (↑x2) 1) x5)) (cvI IntKind.u8 (yaS IntKind.u32 (x1 (Int.toNat (ya1 IntKind.i64 x5 4))) (cvI IntKind.u64 (ycB IntKind.i64 8 (ycn IntKind.i64 x5 4)))))))))) (k0 x2 x3 x6 x7)
def zaw.l4 (k0 : Nat → Nat → Nat → (Nat → Int) → Prop) : Nat → Nat → (Nat → Int) → Nat → Nat → Int → Int → Nat → (Nat → Int) → Prop
  | 0 => fun _ _ _ _ _ _ _ _ => False
  | n + 1 => zaw.l4.step (zaw.l4 k0 n) k0
def zaw.l4.entry : yao := ⟨LV.mk 8 [(0, 8)] 4 0 false, 0, 48, fun vs H K => match vs, H with
  | [EV.rsI IntKind.u32 x0 x1, EV.slice 0 0 x2 (some x3) 1, EV.int IntKind.i64 x4, EV.int IntKind.i64 x5], [some (EV.arr IntKind.u8 x6 x7)] => ∃ n, zaw.l4 (fun y0 y1 y2 y3 => K (.exit 0) [EV.slice 0 0 y0 (some y1) 1] [some (EV.arr IntKind.u8 y2 y3)]) n x0 x1 x2 x3 x4 x5 x6 x7
  | _, _ => False⟩
def zaw.l8.step (again : Nat → Nat → Nat → Nat → (Nat → Int) → Prop) (k0 : Nat → Nat → Nat → Nat → (Nat → Int) → Prop) (x0 : Nat) (x1 : Nat) (x2 : Nat) (x3 : Nat) (x4 : Nat → Int) : Prop :=
  br (ltI 0 ↑x1) (gd (ltI 0 ↑x1) (br (eqI (x4 (ygi x0 0)) 0) (gd (leI 1 ↑x1 && leI ↑x1 ↑x2) (again (ygi x0 1) (Int.toNat ↑x1 - 1) (x2 - 1) x3 x4)) (k0 x0 x1 x2 x3 x4))) (k0 x0 x1 x2 x3 x4)
def zaw.l8 (k0 : Nat → Nat → Nat → Nat → (Nat → Int) → Prop) : Nat → Nat → Nat → Nat → Nat → (Nat → Int) → Prop
  | 0 => fun _ _ _ _ _ => False
  | n + 1 => zaw.l8.step (zaw.l8 k0 n) k0
def zaw.l8.entry : yao := ⟨LV.mk 8 [(2, 8)] 4 0 false, 0, 48, fun vs H K => match vs, H with
  | [EV.slice 0 x0 x1 (some x2) 1], [some (EV.arr IntKind.u8 x3 x4)] => ∃ n, zaw.l8 (fun y0 y1 y2 y3 y4 => K (.exit 2) [EV.slice 0 y0 y1 (some y2) 1] [some (EV.arr IntKind.u8 y3 y4)]) n x0 x1 x2 x3 x4
  | _, _ => False⟩
def zaw.d (a0n : Nat) (a0 : Nat → Int) (K : List UInt8 → Prop) : Prop :=
  zau a0n a0 fun y0 y1 => gd (leI 0 (ycB IntKind.i64 4 ↑y0) && (leI (ycB IntKind.i64 4 ↑y0) (ycB IntKind.i64 4 ↑y0) && leI (ycB IntKind.i64 4 ↑y0) 1099511627776)) (∃ n, zaw.l4 (fun y0 y1 y2 y3 => ∃ n, zaw.l8 (fun y0 y1 y2 y3 y4 => K (yaL y1 (shift y0 y4))) n 0 y0 y1 y2 y3) n y0 y1 (Int.toNat (ycB IntKind.i64 4 ↑y0)) (Int.toNat (ycB IntKind.i64 4 ↑y0)) (↑(Int.toNat (ycB IntKind.i64 4 ↑y0))) 0 (Int.toNat (ycB IntKind.i64 4 ↑y0)) fun x => 0)
noncomputable def zaw := shut zaw.d
theorem zaw.is : zaw = zaw.d := shut_is _
def zba.l3.step (again : List UInt8 → Nat → Nat → Int → Int → Nat → (Nat → Int) → Prop) (k0 : Nat → Nat → Nat → (Nat → Int) → Prop) (x0 : List UInt8) (x1 : Nat) (x2 : Nat) (x3 : Int) (x4 : Int) (x5 : Nat) (x6 : Nat → Int) : Prop :=
  br (ltI x4 x3) (gd (leI 0 (ya1 IntKind.i64 x4 4) && ltI (ya1 IntKind.i64 x4 4) ↑x1) (gd (leI 0 (yaw IntKind.i64 (yaw IntKind.i64 (↑(List.length x0)) 1) x4) && ltI (yaw IntKind.i64 (yaw IntKind.i64 (↑(List.length x0)) 1) x4) ↑(List.length x0)) (gd (!ltI (cvI IntKind.u64 (ycB IntKind.i64 8 (ycn IntKind.i64 x4 4))) 0) (gd (leI 0 (ya1 IntKind.i64 x4 4) && ltI (ya1 IntKind.i64 x4 4) ↑x1) (again x0 x1 x2 x3 (yal IntKind.i64 x4 1) x5 (upd x6 (Int.toNat (ya1 IntKind.i64 x4 4)) (orI IntKind.u32 (x6 (Int.toNat (ya1 IntKind.i64 x4 4))) (yc0 IntKind.u32 (cvI IntKind.u32 (yap x0 (Int.toNat (yaw IntKind.i64 (yaw IntKind.i64 (↑(List.length x0)) 1) x4)))) (cvI IntKind.u64 (ycB IntKind.i64 8 (ycn IntKind.i64 x4 4))))))))))) (k0 x1 x2 x5 x6)
def zba.l3 (k0 : Nat → Nat → Nat → (Nat → Int) → Prop) : Nat → List UInt8 → Nat → Nat → Int → Int → Nat → (Nat → Int) → Prop
  | 0 => fun _ _ _ _ _ _ _ => False
  | n + 1 => zba.l3.step (zba.l3 k0 n) k0
def zba.l3.entry : yao := ⟨LV.mk 8 [(0, 8)] 4 0 false, 0, 37, fun vs H K => match vs, H with
  | [EV.str x0, EV.slice 0 0 x1 (some x2) 1, EV.int IntKind.i64 x3, EV.int IntKind.i64 x4], [some (EV.arr IntKind.u32 x5 x6)] => ∃ n, zba.l3 (fun y0 y1 y2 y3 => K (.exit 0) [EV.slice 0 0 y0 (some y1) 1] [some (EV.arr IntKind.u32 y2 y3)]) n x0 x1 x2 x3 x4 x5 x6
  | _, _ => False⟩
def zba.d (a0 : List UInt8) (K : Nat → (Nat → Int) → Prop) : Prop :=
  gd (leI 0 (ya1 IntKind.i64 (yal IntKind.i64 (↑(List.length a0)) 3) 4) && (leI (ya1 IntKind.i64 (yal IntKind.i64 (↑(List.length a0)) 3) 4) (ya1 IntKind.i64 (yal IntKind.i64 (↑(List.length a0)) 3) 4) && leI (ya1 IntKind.i64 (yal IntKind.i64 (↑(List.length a0)) 3) 4) 1099511627776)) (∃ n, zba.l3 (fun y0 y1 y2 y3 => K y0 y3) n a0 (Int.toNat (ya1 IntKind.i64 (yal IntKind.i64 (↑(List.length a0)) 3) 4)) (Int.toNat (ya1 IntKind.i64 (yal IntKind.i64 (↑(List.length a0)) 3) 4)) (↑(List.length a0)) 0 (Int.toNat (ya1 IntKind.i64 (yal IntKind.i64 (↑(List.length a0)) 3) 4)) fun x => 0)
noncomputable def zba := shut zba.d
theorem zba.is : zba = zba.d := shut_is _
def zar.l6.step (again : Nat → (Nat → Int) → Nat → (Nat → Int) → Int → Prop) (k0 : Int → Prop) (k1 : Prop) (x0 : Nat) (x1 : Nat → Int) (x2 : Nat) (x3 : Nat → Int) (x4 : Int) : Prop :=
  br (leI 0 x4) (gd (leI 0 x4 && ltI x4 ↑x0) (gd (leI 0 x4 && ltI x4 ↑x2) (br (ltI (x1 (Int.toNat x4)) (x3 (Int.toNat x4))) (k0 (-1)) (gd (leI 0 x4 && ltI x4 ↑x0) (gd (leI 0 x4 && ltI x4 ↑x2) (br (ltI (x3 (Int.toNat x4)) (x1 (Int.toNat x4))) (k0 1) (again x0 x1 x2 x3 (yaw IntKind.i64 x4 1)))))))) k1
def zar.l6 (k0 : Int → Prop) (k1 : Prop) : Nat → Nat → (Nat → Int) → Nat → (Nat → Int) → Int → Prop
  | 0 => fun _ _ _ _ _ => False
  | n + 1 => zar.l6.step (zar.l6 k0 k1 n) k0 k1
def zar.l6.entry : yao := ⟨LV.mk 0 [(1, 0)] 16 0 false, 0, 45, fun vs H K => match vs, H with
  | [EV.rsI IntKind.u32 x0 x1, EV.rsI IntKind.u32 x2 x3, EV.int IntKind.i64 x4], [] => ∃ n, zar.l6 (fun y0 => K .ret [EV.int IntKind.i64 y0] []) (K (.exit 1) [] []) n x0 x1 x2 x3 x4
  | _, _ => False⟩
def zar.d (a0n : Nat) (a0 : Nat → Int) (a1n : Nat) (a1 : Nat → Int) (K : Int → Prop) : Prop :=
  br (ltI ↑a0n ↑a1n) (K (-1)) (br (ltI ↑a1n ↑a0n) (K 1) (∃ n, zar.l6 (fun y0 => K y0) (K 0) n a0n a0 a1n a1 (yaw IntKind.i64 (↑a0n) 1)))
noncomputable def zar := shut zar.d
theorem zar.is : zar = zar.d := shut_is _
def zas.l1.step (again : Nat → Nat → (Nat → Int) → Prop) (k0 : Nat → Nat → (Nat → Int) → Prop) (x0 : Nat) (x1 : Nat) (x2 : Nat → Int) : Prop :=
  br (ltI 0 ↑x0) (gd (leI 0 (yaw IntKind.i64 (↑x0) 1) && ltI (yaw IntKind.i64 (↑x0) 1) ↑x0) (br (eqI (x2 (Int.toNat (yaw IntKind.i64 (↑x0) 1))) 0) (gd (leI 0 (yaw IntKind.i64 (↑x0) 1) && leI (yaw IntKind.i64 (↑x0) 1) ↑x0) (again (Int.toNat (yaw IntKind.i64 (↑x0) 1) - 0) x1 x2)) (k0 x0 x1 x2))) (k0 x0 x1 x2)
def zas.l1 (k0 : Nat → Nat → (Nat → Int) → Prop) : Nat → Nat → Nat → (Nat → Int) → Prop
  | 0 => fun _ _ _ => False
  | n + 1 => zas.l1.step (zas.l1 k0 n) k0
def zas.l1.entry : yao := ⟨LV.mk 1 [(0, 1)] 4 1 false, 1, 21, fun vs H K => match vs, H with
  | [EV.slice 0 0 x0 none 1], [some (EV.arr IntKind.u32 x1 x2)] => ∃ n, zas.l1 (fun y0 y1 y2 => K (.exit 0) [EV.slice 0 0 y0 none 1] [some (EV.arr IntKind.u32 y1 y2)]) n x0 x1 x2
  | _, _ => False⟩
def zas.d (a0l : Nat) (a0n : Nat) (a0 : Nat → Int) (K : Nat → Nat → (Nat → Int) → Prop) : Prop :=
  ∃ n, zas.l1 (fun y0 y1 y2 => K y0 y1 y2) n a0l a0n a0
noncomputable def zas := shut zas.d
theorem zas.is : zas = zas.d := shut_is _
def zav.l5.step (again : Nat → (Nat → Int) → Int → Nat → Nat → Int → Int → Nat → (Nat → Int) → Prop) (k0 : Nat → Nat → Nat → (Nat → Int) → Prop) (x0 : Nat) (x1 : Nat → Int) (x2 : Int) (x3 : Nat) (x4 : Nat) (x5 : Int) (x6 : Int) (x7 : Nat) (x8 : Nat → Int) : Prop :=
  br (ltI x6 x5) (gd (leI 0 (yal IntKind.i64 x6 (ya1 IntKind.i64 x2 32)) && ltI (yal IntKind.i64 x6 (ya1 IntKind.i64 x2 32)) ↑x0) (br (ltI (yal IntKind.i64 (yal IntKind.i64 x6 (ya1 IntKind.i64 x2 32)) 1) ↑x0) (gd (leI 0 (yal IntKind.i64 (yal IntKind.i64 x6 (ya1 IntKind.i64 x2 32)) 1) && ltI (yal IntKind.i64 (yal IntKind.i64 x6 (ya1 IntKind.i64 x2 32)) 1) ↑x0) (gd (!ltI (cvI IntKind.u64 (ycn IntKind.i64 x2 32)) 0) (gd (leI 0 x6 && ltI x6 ↑x3) (again x0 x1 x2 x3 x4 x5 (yal IntKind.i64 x6 1) x7 (upd x8 (Int.toNat x6) (cvI IntKind.u32 (yaS IntKind.u64 (orI IntKind.u64 (cvI IntKind.u64 (x1 (Int.toNat (yal IntKind.i64 x6 (ya1 IntKind.i64 x2 32))))) (yc0 IntKind.u64 (cvI IntKind.u64 (x1 (Int.toNat (yal IntKind.i64 (yal IntKind.i64 x6 (ya1 IntKind.i64 x2 32)) 1)))) 32)) (cvI IntKind.u64 (ycn IntKind.i64 x2 32))))))))) (gd (!ltI (cvI IntKind.u64 (ycn IntKind.i64 x2 32)) 0) (gd (leI 0 x6 && ltI x6 ↑x3) (again x0 x1 x2 x3 x4 x5 (yal IntKind.i64 x6 1) x7 (upd x8 (Int.toNat x6) (cvI IntKind.u32 (yaS IntKind.u64 (cvI IntKind.u64 (x1 (Int.toNat (yal IntKind.i64 x6 (ya1 IntKind.i64 x2 32))))) (cvI IntKind.u64 (ycn IntKind.i64 x2 32)))))))))) (k0 x3 x4 x7 x8)
def zav.l5 (k0 : Nat → Nat → Nat → (Nat → Int) → Prop) : Nat → Nat → (Nat → Int) → Int → Nat → Nat → Int → Int → Nat → (Nat → Int) → Prop
  | 0 => fun _ _ _ _ _ _ _ _ _ => False
  | n + 1 => zav.l5.step (zav.l5 k0 n) k0
def zav.l5.entry : yao := ⟨LV.mk 32 [(0, 32)] 16 0 false, 0, 64, fun vs H K => match vs, H with
  | [EV.rsI IntKind.u32 x0 x1, EV.int IntKind.i64 x2, EV.slice 0 0 x3 (some x4) 1, EV.int IntKind.i64 x5, EV.int IntKind.i64 x6], [some (EV.arr IntKind.u32 x7 x8)] => ∃ n, zav.l5 (fun y0 y1 y2 y3 => K (.exit 0) [EV.slice 0 0 y0 (some y1) 1] [some (EV.arr IntKind.u32 y2 y3)]) n x0 x1 x2 x3 x4 x5 x6 x7 x8
  | _, _ => False⟩
def zav.d (a0n : Nat) (a0 : Nat → Int) (a1 : Int) (K : Nat → (Nat → Int) → Prop) : Prop :=
  br (leI (↑a0n) (ya1 IntKind.i64 a1 32)) (K 0 fun x => 0) (gd (leI 0 (yaw IntKind.i64 (↑a0n) (ya1 IntKind.i64 a1 32)) && (leI (yaw IntKind.i64 (↑a0n) (ya1 IntKind.i64 a1 32)) (yaw IntKind.i64 (↑a0n) (ya1 IntKind.i64 a1 32)) && leI (yaw IntKind.i64 (↑a0n) (ya1 IntKind.i64 a1 32)) 1099511627776)) (∃ n, zav.l5 (fun y0 y1 y2 y3 => zat y0 y1 y2 y3 fun y0 y1 y2 y3 => K y0 y3) n a0n a0 a1 (Int.toNat (yaw IntKind.i64 (↑a0n) (ya1 IntKind.i64 a1 32))) (Int.toNat (yaw IntKind.i64 (↑a0n) (ya1 IntKind.i64 a1 32))) (↑(Int.toNat (yaw IntKind.i64 (↑a0n) (ya1 IntKind.i64 a1 32)))) 0 (Int.toNat (yaw IntKind.i64 (↑a0n) (ya1 IntKind.i64 a1 32))) fun x => 0))
noncomputable def zav := shut zav.d
theorem zav.is : zav = zav.d := shut_is _
def zaz.l5.step (again : Int → Nat → Nat → Nat → (Nat → Int) → Int → Int → Nat → (Nat → Int) → Prop) (k0 : Nat → Nat → Nat → (Nat → Int) → Prop) (x0 : Int) (x1 : Nat) (x2 : Nat) (x3 : Nat) (x4 : Nat → Int) (x5 : Int) (x6 : Int) (x7 : Nat) (x8 : Nat → Int) : Prop :=
  br (ltI x6 x5) (gd (leI 0 x6 && ltI x6 ↑x3) (gd (!ltI (cvI IntKind.u64 (ycn IntKind.i64 x0 32)) 0) (gd (leI 0 (yal IntKind.i64 x6 (ya1 IntKind.i64 x0 32)) && ltI (yal IntKind.i64 x6 (ya1 IntKind.i64 x0 32)) ↑x1) (gd (leI 0 (yal IntKind.i64 x6 (ya1 IntKind.i64 x0 32)) && ltI (yal IntKind.i64 x6 (ya1 IntKind.i64 x0 32)) ↑x1) (gd (leI 0 (yal IntKind.i64 (yal IntKind.i64 x6 (ya1 IntKind.i64 x0 32)) 1) && ltI (yal IntKind.i64 (yal IntKind.i64 x6 (ya1 IntKind.i64 x0 32)) 1) ↑x1) (gd (leI 0 (yal IntKind.i64 (yal IntKind.i64 x6 (ya1 IntKind.i64 x0 32)) 1) && ltI (yal IntKind.i64 (yal IntKind.i64 x6 (ya1 IntKind.i64 x0 32)) 1) ↑x1) (again x0 x1 x2 x3 x4 x5 (yal IntKind.i64 x6 1) x7 (upd (upd x8 (Int.toNat (yal IntKind.i64 x6 (ya1 IntKind.i64 x0 32))) (orI IntKind.u32 (x8 (Int.toNat (yal IntKind.i64 x6 (ya1 IntKind.i64 x0 32)))) (cvI IntKind.u32 (yc0 IntKind.u64 (cvI IntKind.u64 (x4 (Int.toNat x6))) (cvI IntKind.u64 (ycn IntKind.i64 x0 32)))))) (Int.toNat (yal IntKind.i64 (yal IntKind.i64 x6 (ya1 IntKind.i64 x0 32)) 1)) (orI IntKind.u32 (upd x8 (Int.toNat (yal IntKind.i64 x6 (ya1 IntKind.i64 x0 32))) (orI IntKind.u32 (x8 (Int.toNat (yal IntKind.i64 x6 (ya1 IntKind.i64 x0 32)))) (cvI IntKind.u32 (yc0 IntKind.u64 (cvI IntKind.u64 (x4 (Int.toNat x6))) (cvI IntKind.u64 (ycn IntKind.i64 x0 32))))) (Int.toNat (yal IntKind.i64 (yal IntKind.i64 x6 (ya1 IntKind.i64 x0 32)) 1))) (cvI IntKind.u32 (yaS IntKind.u64 (yc0 IntKind.u64 (cvI IntKind.u64 (x4 (Int.toNat x6))) (cvI IntKind.u64 (ycn IntKind.i64 x0 32))) 32))))))))))) (k0 x1 x2 x7 x8)
def zaz.l5 (k0 : Nat → Nat → Nat → (Nat → Int) → Prop) : Nat → Int → Nat → Nat → Nat → (Nat → Int) → Int → Int → Nat → (Nat → Int) → Prop
  | 0 => fun _ _ _ _ _ _ _ _ _ => False
  | n + 1 => zaz.l5.step (zaz.l5 k0 n) k0
def zaz.l5.entry : yao := ⟨LV.mk 32 [(0, 32)] 16 0 false, 0, 59, fun vs H K => match vs, H with
  | [EV.int IntKind.i64 x0, EV.slice 0 0 x1 (some x2) 1, EV.rsI IntKind.u32 x3 x4, EV.int IntKind.i64 x5, EV.int IntKind.i64 x6], [some (EV.arr IntKind.u32 x7 x8)] => ∃ n, zaz.l5 (fun y0 y1 y2 y3 => K (.exit 0) [EV.slice 0 0 y0 (some y1) 1] [some (EV.arr IntKind.u32 y2 y3)]) n x0 x1 x2 x3 x4 x5 x6 x7 x8
  | _, _ => False⟩
def zaz.d (a0n : Nat) (a0 : Nat → Int) (a1 : Int) (K0 : Prop) (K1 : Nat → Nat → Nat → (Nat → Int) → Prop) : Prop :=
  br (eqI (↑a0n) 0) K0 (gd (leI 0 (yal IntKind.i64 (yal IntKind.i64 (↑a0n) (ya1 IntKind.i64 a1 32)) 1) && (leI (yal IntKind.i64 (yal IntKind.i64 (↑a0n) (ya1 IntKind.i64 a1 32)) 1) (yal IntKind.i64 (yal IntKind.i64 (↑a0n) (ya1 IntKind.i64 a1 32)) 1) && leI (yal IntKind.i64 (yal IntKind.i64 (↑a0n) (ya1 IntKind.i64 a1 32)) 1) 1099511627776)) (∃ n, zaz.l5 (fun y0 y1 y2 y3 => zat y0 y1 y2 y3 fun y0 y1 y2 y3 => K1 y0 y1 y2 y3) n a1 (Int.toNat (yal IntKind.i64 (yal IntKind.i64 (↑a0n) (ya1 IntKind.i64 a1 32)) 1)) (Int.toNat (yal IntKind.i64 (yal IntKind.i64 (↑a0n) (ya1 IntKind.i64 a1 32)) 1)) a0n a0 (↑a0n) 0 (Int.toNat (yal IntKind.i64 (yal IntKind.i64 (↑a0n) (ya1 IntKind.i64 a1 32)) 1)) fun x => 0))
noncomputable def zaz := shut zaz.d
theorem zaz.is : zaz = zaz.d := shut_is _
def zax.l7.step (again : Nat → (Nat → Int) → Nat → (Nat → Int) → Nat → Int → Int → Nat → (Nat → Int) → Prop) (k0 : Nat → Int → Nat → (Nat → Int) → Prop) (x0 : Nat) (x1 : Nat → Int) (x2 : Nat) (x3 : Nat → Int) (x4 : Nat) (x5 : Int) (x6 : Int) (x7 : Nat) (x8 : Nat → Int) : Prop :=
  br (leI 0 x6) (gd (leI 0 x6 && ltI x6 ↑x0) (gd (ltI 0 ↑x2) (gd (!eqI (cvI IntKind.u64 (x3 0)) 0) (gd (leI 0 x6 && ltI x6 ↑x4) (gd (ltI 0 ↑x2) (gd (!eqI (cvI IntKind.u64 (x3 0)) 0) (again x0 x1 x2 x3 x4 (ycn IntKind.u64 (orI IntKind.u64 (yc0 IntKind.u64 x5 32) (cvI IntKind.u64 (x1 (Int.toNat x6)))) (cvI IntKind.u64 (x3 0))) (yaw IntKind.i64 x6 1) x7 (upd x8 (Int.toNat x6) (cvI IntKind.u32 (ya1 IntKind.u64 (orI IntKind.u64 (yc0 IntKind.u64 x5 32) (cvI IntKind.u64 (x1 (Int.toNat x6)))) (cvI IntKind.u64 (x3 0)))))))))))) (k0 x4 x5 x7 x8)
def zax.l7 (k0 : Nat → Int → Nat → (Nat → Int) → Prop) : Nat → Nat → (Nat → Int) → Nat → (Nat → Int) → Nat → Int → Int → Nat → (Nat → Int) → Prop
  | 0 => fun _ _ _ _ _ _ _ _ _ => False
  | n + 1 => zax.l7.step (zax.l7 k0 n) k0
def zax.l7.entry : yao := ⟨LV.mk 80 [(0, 80)] 48 0 true, 0, 285, fun vs H K => match vs, H with
  | [EV.rsI IntKind.u32 x0 x1, EV.rsI IntKind.u32 x2 x3, EV.slice 0 0 x4 none 1, EV.int IntKind.u64 x5, EV.int IntKind.i64 x6], [some (EV.arr IntKind.u32 x7 x8)] => ∃ n, zax.l7 (fun y0 y1 y2 y3 => K (.exit 0) [EV.slice 0 0 y0 none 1, EV.int IntKind.u64 y1] [some (EV.arr IntKind.u32 y2 y3)]) n x0 x1 x2 x3 x4 x5 x6 x7 x8
  | _, _ => False⟩
def zax.l16.step (again : Nat → (Nat → Int) → Nat → Int → Nat → Nat → Nat → (Nat → Int) → Nat → (Nat → Int) → Nat → (Nat → Int) → Prop) (k0 : Nat → Int → Nat → Nat → Nat → (Nat → Int) → Nat → (Nat → Int) → Nat → (Nat → Int) → Prop) (x0 : Nat) (x1 : Nat → Int) (x2 : Nat) (x3 : Int) (x4 : Nat) (x5 : Nat) (x6 : Nat) (x7 : Nat → Int) (x8 : Nat) (x9 : Nat → Int) (x10 : Nat) (x11 : Nat → Int) : Prop :=
  br (ltI (↑x5) (yal IntKind.i64 (↑x0) 1)) (gd (leN (x5 + 1) 1099511627776) (again x0 x1 x2 x3 x4 (x5 + 1) x6 x7 x8 x9 (x5 + 1) (app x5 x11 (upd (fun x => 0) 0 0)))) (k0 x2 x3 x4 x5 x6 x7 x8 x9 x10 x11)
def zax.l16 (k0 : Nat → Int → Nat → Nat → Nat → (Nat → Int) → Nat → (Nat → Int) → Nat → (Nat → Int) → Prop) : Nat → Nat → (Nat → Int) → Nat → Int → Nat → Nat → Nat → (Nat → Int) → Nat → (Nat → Int) → Nat → (Nat → Int) → Prop
  | 0 => fun _ _ _ _ _ _ _ _ _ _ _ _ => False
  | n + 1 => zax.l16.step (zax.l16 k0 n) k0
def zax.l16.entry : yao := ⟨LV.mk 1808 [(2, 1808)] 48 0 true, 0, 285, fun vs H K => match vs, H with
  | [EV.rsI IntKind.u32 x0 x1, EV.slice 0 0 x2 none 1, EV.int IntKind.i64 x3, EV.slice 1 0 x4 none 1, EV.slice 2 0 x5 none 1], [some (EV.arr IntKind.u32 x6 x7), some (EV.arr IntKind.u32 x8 x9), some (EV.arr IntKind.u32 x10 x11)] => ∃ n, zax.l16 (fun y0 y1 y2 y3 y4 y5 y6 y7 y8 y9 => K (.exit 2) [EV.slice 0 0 y0 none 1, EV.int IntKind.i64 y1, EV.slice 1 0 y2 none 1, EV.slice 2 0 y3 none 1] [some (EV.arr IntKind.u32 y4 y5), some (EV.arr IntKind.u32 y6 y7), some (EV.arr IntKind.u32 y8 y9)]) n x0 x1 x2 x3 x4 x5 x6 x7 x8 x9 x10 x11
  | _, _ => False⟩
def zax.l24.step (again : Nat → Int → Nat → Nat → Int → Int → Int → Int → Nat → (Nat → Int) → Nat → (Nat → Int) → Nat → (Nat → Int) → Prop) (k0 : Nat → Int → Nat → Nat → Int → Int → Int → Nat → (Nat → Int) → Nat → (Nat → Int) → Nat → (Nat → Int) → Prop) (x0 : Nat) (x1 : Int) (x2 : Nat) (x3 : Nat) (x4 : Int) (x5 : Int) (x6 : Int) (x7 : Int) (x8 : Nat) (x9 : Nat → Int) (x10 : Nat) (x11 : Nat → Int) (x12 : Nat) (x13 : Nat → Int) : Prop :=
  br (leI 4294967296 x6) (gd (leI 0 (yaw IntKind.i64 x4 1) && ltI (yaw IntKind.i64 x4 1) ↑x2) (br (leI 4294967296 (yal IntKind.u64 x7 (cvI IntKind.u64 (x11 (Int.toNat (yaw IntKind.i64 x4 1)))))) (k0 x0 x1 x2 x3 x4 x5 (yaw IntKind.u64 x6 1) x8 x9 x10 x11 x12 x13) (again x0 x1 x2 x3 x4 x5 (yaw IntKind.u64 x6 1) (yal IntKind.u64 x7 (cvI IntKind.u64 (x11 (Int.toNat (yaw IntKind.i64 x4 1))))) x8 x9 x10 x11 x12 x13))) (gd (leI 0 (yaw IntKind.i64 x4 2) && ltI (yaw IntKind.i64 x4 2) ↑x2) (gd (leI 0 (yaw IntKind.i64 (yal IntKind.i64 x5 x4) 2) && ltI (yaw IntKind.i64 (yal IntKind.i64 x5 x4) 2) ↑x3) (br (ltI (orI IntKind.u64 (yc0 IntKind.u64 x7 32) (cvI IntKind.u64 (x13 (Int.toNat (yaw IntKind.i64 (yal IntKind.i64 x5 x4) 2))))) (ycB IntKind.u64 x6 (cvI IntKind.u64 (x11 (Int.toNat (yaw IntKind.i64 x4 2)))))) (gd (leI 0 (yaw IntKind.i64 x4 1) && ltI (yaw IntKind.i64 x4 1) ↑x2) (br (leI 4294967296 (yal IntKind.u64 x7 (cvI IntKind.u64 (x11 (Int.toNat (yaw IntKind.i64 x4 1)))))) (k0 x0 x1 x2 x3 x4 x5 (yaw IntKind.u64 x6 1) x8 x9 x10 x11 x12 x13) (again x0 x1 x2 x3 x4 x5 (yaw IntKind.u64 x6 1) (yal IntKind.u64 x7 (cvI IntKind.u64 (x11 (Int.toNat (yaw IntKind.i64 x4 1))))) x8 x9 x10 x11 x12 x13))) (k0 x0 x1 x2 x3 x4 x5 x6 x8 x9 x10 x11 x12 x13))))
def zax.l24 (k0 : Nat → Int → Nat → Nat → Int → Int → Int → Nat → (Nat → Int) → Nat → (Nat → Int) → Nat → (Nat → Int) → Prop) : Nat → Nat → Int → Nat → Nat → Int → Int → Int → Int → Nat → (Nat → Int) → Nat → (Nat → Int) → Nat → (Nat → Int) → Prop
  | 0 => fun _ _ _ _ _ _ _ _ _ _ _ _ _ _ => False
  | n + 1 => zax.l24.step (zax.l24 k0 n) k0
def zax.l24.entry : yao := ⟨LV.mk 24336 [(6, 24336), (5, 7952), (4, 1296)] 48 0 true, 0, 285, fun vs H K => match vs, H with
  | [EV.slice 0 0 x0 none 1, EV.int IntKind.i64 x1, EV.slice 1 0 x2 none 1, EV.slice 2 0 x3 none 1, EV.int IntKind.i64 x4, EV.int IntKind.i64 x5, EV.int IntKind.u64 x6, EV.int IntKind.u64 x7], [some (EV.arr IntKind.u32 x8 x9), some (EV.arr IntKind.u32 x10 x11), some (EV.arr IntKind.u32 x12 x13)] => ∃ n, zax.l24 (fun y0 y1 y2 y3 y4 y5 y6 y7 y8 y9 y10 y11 y12 => K (.exit 6) [EV.slice 0 0 y0 none 1, EV.int IntKind.i64 y1, EV.slice 1 0 y2 none 1, EV.slice 2 0 y3 none 1, EV.int IntKind.i64 y4, EV.int IntKind.i64 y5, EV.int IntKind.u64 y6] [some (EV.arr IntKind.u32 y7 y8), some (EV.arr IntKind.u32 y9 y10), some (EV.arr IntKind.u32 y11 y12)]) n x0 x1 x2 x3 x4 x5 x6 x7 x8 x9 x10 x11 x12 x13
  | _, _ => False⟩
def zax.l31.step (again : Nat → Int → Nat → Nat → Int → Int → Int → Int → Int → Int → Int → Nat → (Nat → Int) → Nat → (Nat → Int) → Nat → (Nat → Int) → Prop) (k0 : Nat → Int → Nat → Nat → Int → Int → Int → Int → Int → Nat → (Nat → Int) → Nat → (Nat → Int) → Nat → (Nat → Int) → Prop) (x0 : Nat) (x1 : Int) (x2 : Nat) (x3 : Nat) (x4 : Int) (x5 : Int) (x6 : Int) (x7 : Int) (x8 : Int) (x9 : Int) (x10 : Int) (x11 : Nat) (x12 : Nat → Int) (x13 : Nat) (x14 : Nat → Int) (x15 : Nat) (x16 : Nat → Int) : Prop :=
  br (ltI x10 x9) (gd (leI 0 x10 && ltI x10 ↑x2) (gd (leI 0 (yal IntKind.i64 x5 x10) && ltI (yal IntKind.i64 x5 x10) ↑x3) (gd (leI 0 (yal IntKind.i64 x5 x10) && ltI (yal IntKind.i64 x5 x10) ↑x3) (again x0 x1 x2 x3 x4 x5 x6 (yaS IntKind.u64 (yal IntKind.u64 x7 (ycB IntKind.u64 x6 (cvI IntKind.u64 (x14 (Int.toNat x10))))) 32) (yaS IntKind.i64 (yal IntKind.i64 x8 (yaw IntKind.i64 (cvI IntKind.i64 (x16 (Int.toNat (yal IntKind.i64 x5 x10)))) (cvI IntKind.i64 (cvI IntKind.u32 (yal IntKind.u64 x7 (ycB IntKind.u64 x6 (cvI IntKind.u64 (x14 (Int.toNat x10))))))))) 32) x9 (yal IntKind.i64 x10 1) x11 x12 x13 x14 x15 (upd x16 (Int.toNat (yal IntKind.i64 x5 x10)) (cvI IntKind.u32 (yal IntKind.i64 x8 (yaw IntKind.i64 (cvI IntKind.i64 (x16 (Int.toNat (yal IntKind.i64 x5 x10)))) (cvI IntKind.i64 (cvI IntKind.u32 (yal IntKind.u64 x7 (ycB IntKind.u64 x6 (cvI IntKind.u64 (x14 (Int.toNat x10))))))))))))))) (k0 x0 x1 x2 x3 x4 x5 x6 x7 x8 x11 x12 x13 x14 x15 x16)
def zax.l31 (k0 : Nat → Int → Nat → Nat → Int → Int → Int → Int → Int → Nat → (Nat → Int) → Nat → (Nat → Int) → Nat → (Nat → Int) → Prop) : Nat → Nat → Int → Nat → Nat → Int → Int → Int → Int → Int → Int → Int → Nat → (Nat → Int) → Nat → (Nat → Int) → Nat → (Nat → Int) → Prop
  | 0 => fun _ _ _ _ _ _ _ _ _ _ _ _ _ _ _ _ _ => False
  | n + 1 => zax.l31.step (zax.l31 k0 n) k0
def zax.l31.entry : yao := ⟨LV.mk 220944 [(8, 220944), (5, 7952), (4, 1296)] 48 0 true, 0, 285, fun vs H K => match vs, H with
  | [EV.slice 0 0 x0 none 1, EV.int IntKind.i64 x1, EV.slice 1 0 x2 none 1, EV.slice 2 0 x3 none 1, EV.int IntKind.i64 x4, EV.int IntKind.i64 x5, EV.int IntKind.u64 x6, EV.int IntKind.u64 x7, EV.int IntKind.i64 x8, EV.int IntKind.i64 x9, EV.int IntKind.i64 x10], [some (EV.arr IntKind.u32 x11 x12), some (EV.arr IntKind.u32 x13 x14), some (EV.arr IntKind.u32 x15 x16)] => ∃ n, zax.l31 (fun y0 y1 y2 y3 y4 y5 y6 y7 y8 y9 y10 y11 y12 y13 y14 => K (.exit 8) [EV.slice 0 0 y0 none 1, EV.int IntKind.i64 y1, EV.slice 1 0 y2 none 1, EV.slice 2 0 y3 none 1, EV.int IntKind.i64 y4, EV.int IntKind.i64 y5, EV.int IntKind.u64 y6, EV.int IntKind.u64 y7, EV.int IntKind.i64 y8] [some (EV.arr IntKind.u32 y9 y10), some (EV.arr IntKind.u32 y11 y12), some (EV.arr IntKind.u32 y13 y14)]) n x0 x1 x2 x3 x4 x5 x6 x7 x8 x9 x10 x11 x12 x13 x14 x15 x16
  | _, _ => False⟩
def zax.l45.step (again : Nat → Int → Nat → Nat → Int → Int → Int → Int → Int → Int → Nat → (Nat → Int) → Nat → (Nat → Int) → Nat → (Nat → Int) → Prop) (k0 : Nat → Int → Nat → Nat → Int → Int → Int → Int → Nat → (Nat → Int) → Nat → (Nat → Int) → Nat → (Nat → Int) → Prop) (x0 : Nat) (x1 : Int) (x2 : Nat) (x3 : Nat) (x4 : Int) (x5 : Int) (x6 : Int) (x7 : Int) (x8 : Int) (x9 : Int) (x10 : Nat) (x11 : Nat → Int) (x12 : Nat) (x13 : Nat → Int) (x14 : Nat) (x15 : Nat → Int) : Prop :=
  br (ltI x9 x8) (gd (leI 0 (yal IntKind.i64 x5 x9) && ltI (yal IntKind.i64 x5 x9) ↑x3) (gd (leI 0 x9 && ltI x9 ↑x2) (gd (leI 0 (yal IntKind.i64 x5 x9) && ltI (yal IntKind.i64 x5 x9) ↑x3) (again x0 x1 x2 x3 x4 x5 x6 (yaS IntKind.u64 (yal IntKind.u64 x7 (yal IntKind.u64 (cvI IntKind.u64 (x15 (Int.toNat (yal IntKind.i64 x5 x9)))) (cvI IntKind.u64 (x13 (Int.toNat x9))))) 32) x8 (yal IntKind.i64 x9 1) x10 x11 x12 x13 x14 (upd x15 (Int.toNat (yal IntKind.i64 x5 x9)) (cvI IntKind.u32 (yal IntKind.u64 x7 (yal IntKind.u64 (cvI IntKind.u64 (x15 (Int.toNat (yal IntKind.i64 x5 x9)))) (cvI IntKind.u64 (x13 (Int.toNat x9))))))))))) (k0 x0 x1 x2 x3 x4 x5 x6 x7 x10 x11 x12 x13 x14 x15)
def zax.l45 (k0 : Nat → Int → Nat → Nat → Int → Int → Int → Int → Nat → (Nat → Int) → Nat → (Nat → Int) → Nat → (Nat → Int) → Prop) : Nat → Nat → Int → Nat → Nat → Int → Int → Int → Int → Int → Int → Nat → (Nat → Int) → Nat → (Nat → Int) → Nat → (Nat → Int) → Prop
  | 0 => fun _ _ _ _ _ _ _ _ _ _ _ _ _ _ _ _ => False
  | n + 1 => zax.l45.step (zax.l45 k0 n) k0
def zax.l45.entry : yao := ⟨LV.mk 89872 [(10, 89872), (5, 7952), (4, 1296)] 48 0 true, 0, 285, fun vs H K => match vs, H with
  | [EV.slice 0 0 x0 none 1, EV.int IntKind.i64 x1, EV.slice 1 0 x2 none 1, EV.slice 2 0 x3 none 1, EV.int IntKind.i64 x4, EV.int IntKind.i64 x5, EV.int IntKind.u64 x6, EV.int IntKind.u64 x7, EV.int IntKind.i64 x8, EV.int IntKind.i64 x9], [some (EV.arr IntKind.u32 x10 x11), some (EV.arr IntKind.u32 x12 x13), some (EV.arr IntKind.u32 x14 x15)] => ∃ n, zax.l45 (fun y0 y1 y2 y3 y4 y5 y6 y7 y8 y9 y10 y11 y12 y13 => K (.exit 10) [EV.slice 0 0 y0 none 1, EV.int IntKind.i64 y1, EV.slice 1 0 y2 none 1, EV.slice 2 0 y3 none 1, EV.int IntKind.i64 y4, EV.int IntKind.i64 y5, EV.int IntKind.u64 y6, EV.int IntKind.u64 y7] [some (EV.arr IntKind.u32 y8 y9), some (EV.arr IntKind.u32 y10 y11), some (EV.arr IntKind.u32 y12 y13)]) n x0 x1 x2 x3 x4 x5 x6 x7 x8 x9 x10 x11 x12 x13 x14 x15
  | _, _ => False⟩
def zax.l20.step (again : Nat → Int → Nat → Nat → Int → Int → Nat → (Nat → Int) → Nat → (Nat → Int) → Nat → (Nat → Int) → Prop) (k0 : Nat → Int → Nat → Nat → (Nat → Int) → Nat → (Nat → Int) → Prop) (x0 : Nat) (x1 : Int) (x2 : Nat) (x3 : Nat) (x4 : Int) (x5 : Int) (x6 : Nat) (x7 : Nat → Int) (x8 : Nat) (x9 : Nat → Int) (x10 : Nat) (x11 : Nat → Int) : Prop :=
  br (leI 0 x5) (gd (leI 0 (yal IntKind.i64 x5 x4) && ltI (yal IntKind.i64 x5 x4) ↑x3) (gd (leI 0 (yaw IntKind.i64 (yal IntKind.i64 x5 x4) 1) && ltI (yaw IntKind.i64 (yal IntKind.i64 x5 x4) 1) ↑x3) (gd (leI 0 (yaw IntKind.i64 x4 1) && ltI (yaw IntKind.i64 x4 1) ↑x2) (gd (!eqI (cvI IntKind.u64 (x9 (Int.toNat (yaw IntKind.i64 x4 1)))) 0) (gd (leI 0 (yaw IntKind.i64 x4 1) && ltI (yaw IntKind.i64 x4 1) ↑x2) (gd (!eqI (cvI IntKind.u64 (x9 (Int.toNat (yaw IntKind.i64 x4 1)))) 0) (∃ n, zax.l24 (fun y0 y1 y2 y3 y4 y5 y6 y7 y8 y9 y10 y11 y12 => ∃ n, zax.l31 (fun y0 y1 y2 y3 y4 y5 y6 y7 y8 y9 y10 y11 y12 y13 y14 => gd (leI 0 (yal IntKind.i64 y5 y4) && ltI (yal IntKind.i64 y5 y4) ↑y3) (gd (leI 0 (yal IntKind.i64 y5 y4) && ltI (yal IntKind.i64 y5 y4) ↑y3) (br (ltI (yal IntKind.i64 y8 (yaw IntKind.i64 (cvI IntKind.i64 (y14 (Int.toNat (yal IntKind.i64 y5 y4)))) (cvI IntKind.i64 y7))) 0) (∃ n, zax.l45 (fun y0 y1 y2 y3 y4 y5 y6 y7 y8 y9 y10 y11 y12 y13 => gd (leI 0 (yal IntKind.i64 y5 y4) && ltI (yal IntKind.i64 y5 y4) ↑y3) (gd (leI 0 (yal IntKind.i64 y5 y4) && ltI (yal IntKind.i64 y5 y4) ↑y3) (gd (leI 0 y5 && ltI y5 ↑y0) (again y0 y1 y2 y3 y4 (yaw IntKind.i64 y5 1) y8 (upd y9 (Int.toNat y5) (cvI IntKind.u32 y6)) y10 y11 y12 (upd y13 (Int.toNat (yal IntKind.i64 y5 y4)) (yal IntKind.u32 (y13 (Int.toNat (yal IntKind.i64 y5 y4))) (cvI IntKind.u32 y7))))))) n y0 y1 y2 y3 y4 y5 (yaw IntKind.u64 y6 1) 0 y4 0 y9 y10 y11 y12 y13 (upd y14 (Int.toNat (yal IntKind.i64 y5 y4)) (cvI IntKind.u32 (yal IntKind.i64 y8 (yaw IntKind.i64 (cvI IntKind.i64 (y14 (Int.toNat (yal IntKind.i64 y5 y4)))) (cvI IntKind.i64 y7)))))) (gd (leI 0 y5 && ltI y5 ↑y0) (again y0 y1 y2 y3 y4 (yaw IntKind.i64 y5 1) y9 (upd y10 (Int.toNat y5) (cvI IntKind.u32 y6)) y11 y12 y13 (upd y14 (Int.toNat (yal IntKind.i64 y5 y4)) (cvI IntKind.u32 (yal IntKind.i64 y8 (yaw IntKind.i64 (cvI IntKind.i64 (y14 (Int.toNat (yal IntKind.i64 y5 y4)))) (cvI IntKind.i64 y7)))))))))) n y0 y1 y2 y3 y4 y5 y6 0 0 y4 0 y7 y8 y9 y10 y11 y12) n x0 x1 x2 x3 x4 x5 (ya1 IntKind.u64 (orI IntKind.u64 (yc0 IntKind.u64 (cvI IntKind.u64 (x11 (Int.toNat (yal IntKind.i64 x5 x4)))) 32) (cvI IntKind.u64 (x11 (Int.toNat (yaw IntKind.i64 (yal IntKind.i64 x5 x4) 1))))) (cvI IntKind.u64 (x9 (Int.toNat (yaw IntKind.i64 x4 1))))) (ycn IntKind.u64 (orI IntKind.u64 (yc0 IntKind.u64 (cvI IntKind.u64 (x11 (Int.toNat (yal IntKind.i64 x5 x4)))) 32) (cvI IntKind.u64 (x11 (Int.toNat (yaw IntKind.i64 (yal IntKind.i64 x5 x4) 1))))) (cvI IntKind.u64 (x9 (Int.toNat (yaw IntKind.i64 x4 1))))) x6 x7 x8 x9 x10 x11))))))) (k0 x0 x1 x3 x6 x7 x10 x11)
def zax.l20 (k0 : Nat → Int → Nat → Nat → (Nat → Int) → Nat → (Nat → Int) → Prop) : Nat → Nat → Int → Nat → Nat → Int → Int → Nat → (Nat → Int) → Nat → (Nat → Int) → Nat → (Nat → Int) → Prop
  | 0 => fun _ _ _ _ _ _ _ _ _ _ _ _ => False
  | n + 1 => zax.l20.step (zax.l20 k0 n) k0
def zax.l20.entry : yao := ⟨LV.mk 1296 [(4, 1296)] 48 0 true, 0, 285, fun vs H K => match vs, H with
  | [EV.slice 0 0 x0 none 1, EV.int IntKind.i64 x1, EV.slice 1 0 x2 none 1, EV.slice 2 0 x3 none 1, EV.int IntKind.i64 x4, EV.int IntKind.i64 x5], [some (EV.arr IntKind.u32 x6 x7), some (EV.arr IntKind.u32 x8 x9), some (EV.arr IntKind.u32 x10 x11)] => ∃ n, zax.l20 (fun y0 y1 y2 y3 y4 y5 y6 => K (.exit 4) [EV.slice 0 0 y0 none 1, EV.int IntKind.i64 y1, EV.slice 1 0 y2 none 1] [some (EV.arr IntKind.u32 y3 y4), some (EV.arr IntKind.u32 y5 y6)]) n x0 x1 x2 x3 x4 x5 x6 x7 x8 x9 x10 x11
  | _, _ => False⟩
def zax.d (a0n : Nat) (a0 : Nat → Int) (a1n : Nat) (a1 : Nat → Int) (K : Nat → (Nat → Int) → Nat → (Nat → Int) → Prop) : Prop :=
  zar a0n a0 a1n a1 fun y0 => br (ltI y0 0) (K 0 (fun x => 0) a0n a0) (gd (leI 0 ↑a0n && (leI ↑a0n ↑a0n && leI (↑a0n) 1099511627776)) (br (eqI (↑a1n) 1) (∃ n, zax.l7 (fun y0 y1 y2 y3 => zas y0 y2 y3 fun y0 y1_1 y2 => zat 1 1 1 (upd (fun x => 0) 0 (cvI IntKind.u32 y1)) fun y0_1 y1 y2_1 y3 => K y0 y2 y0_1 y3) n a0n a0 a1n a1 (Int.toNat ↑a0n) 0 (yaw IntKind.i64 (↑a0n) 1) (Int.toNat ↑a0n) fun x => 0) (gd (leI 0 (yaw IntKind.i64 (↑a1n) 1) && ltI (yaw IntKind.i64 (↑a1n) 1) ↑a1n) (zby (cvI IntKind.u64 (a1 (Int.toNat (yaw IntKind.i64 (↑a1n) 1)))) fun y0 => zaz a1n a1 (yaw IntKind.i64 32 y0) False fun y0_1 y1 y2 y3 => zaz a0n a0 (yaw IntKind.i64 32 y0) False fun y0_2 y1 y2_1 y3_1 => gd (leN (y0_2 + 1) 1099511627776) (∃ n, zax.l16 (fun y0 y1 y2 y3 y4 y5 y6 y7 y8 y9 => ∃ n, zax.l20 (fun y0 y1 y2 y3 y4 y5 y6 => zas y0 y3 y4 fun y0 y1_1 y2_2 => zas y2 y5 y6 fun y0_3 y1_2 y2 => zav y0_3 y2 y1 fun y0_4 y1 => K y0 y2_2 y0_4 y1) n y0 y1 y2 y3 (↑y2) (yaw IntKind.i64 (yaw IntKind.i64 ↑y3 ↑y2) 1) y4 y5 y6 y7 y8 y9) n a0n a0 (Int.toNat ↑a0n) (yaw IntKind.i64 32 y0) y0_1 (y0_2 + 1) (Int.toNat ↑a0n) (fun x => 0) y2 y3 (y0_2 + 1) (app y0_2 y3_1 (upd (fun x => 0) 0 0)))))))
noncomputable def zax := shut zax.d
theorem zax.is : zax = zax.d := shut_is _
def zam.d (a0 : List UInt8) (a1 : List UInt8) (K : List UInt8 → List UInt8 → Int → Prop) : Prop :=
  zay a0 a1 fun y0 => br (!y0) (K [] [] 2) (br (eqS a1 []) (K [] [] 2) (zba a0 fun y0 y1 => zba a1 fun y0_1 y1_1 => zax y0 y1 y0_1 y1_1 fun y0 y1 y2 y3 => zaw y0 y1 fun y0 => zaw y2 y3 fun y0_2 => K y0 y0_2 0))
noncomputable def zam := shut zam.d
theorem zam.is : zam = zam.d := shut_is _
def zan.l4.step (again : Nat → (Nat → Int) → Nat → (Nat → Int) → Prop) (k0 : Nat → (Nat → Int) → Prop) (x0 : Nat) (x1 : Nat → Int) (x2 : Nat) (x3 : Nat → Int) : Prop :=
  br (ltI 0 ↑x2) (zax x0 x1 x2 x3 fun y0 y1 y2 y3 => again x2 x3 y2 y3) (k0 x0 x1)
def zan.l4 (k0 : Nat → (Nat → Int) → Prop) : Nat → Nat → (Nat → Int) → Nat → (Nat → Int) → Prop
  | 0 => fun _ _ _ _ => False
  | n + 1 => zan.l4.step (zan.l4 k0 n) k0
def zan.l4.entry : yao := ⟨LV.mk 64 [(0, 64)] 48 0 false, 0, 31, fun vs H K => match vs, H with
  | [EV.rsI IntKind.u32 x0 x1, EV.rsI IntKind.u32 x2 x3], [] => ∃ n, zan.l4 (fun y0 y1 => K (.exit 0) [EV.rsI IntKind.u32 y0 y1] []) n x0 x1 x2 x3
  | _, _ => False⟩
def zan.d (a0 : List UInt8) (a1 : List UInt8) (K : List UInt8 → Int → Prop) : Prop :=
  zay a0 a1 fun y0 => br (!y0) (K [] 2) (zba a0 fun y0 y1 => zba a1 fun y0_1 y1_1 => ∃ n, zan.l4 (fun y0 y1 => zaw y0 y1 fun y0 => K y0 0) n y0 y1 y0_1 y1_1)
noncomputable def zan := shut zan.d
theorem zan.is : zan = zan.d := shut_is _
def zao.l4.step (again : List UInt8 → Int → Prop) (k0 : Int → Prop) (k1 : Prop) (x0 : List UInt8) (x1 : Int) : Prop :=
  br (leI 0 x1) (gd (leI 0 x1 && ltI x1 ↑(List.length x0)) (br (!eqI (yap x0 (Int.toNat x1)) 0) (gd (leI 0 x1 && ltI x1 ↑(List.length x0)) (zbz (cvI IntKind.u64 (yap x0 (Int.toNat x1))) fun y0 => k0 (yal IntKind.i64 (ycB IntKind.i64 8 (yaw IntKind.i64 (yaw IntKind.i64 (↑(List.length x0)) 1) x1)) y0))) (again x0 (yaw IntKind.i64 x1 1)))) k1
def zao.l4 (k0 : Int → Prop) (k1 : Prop) : Nat → List UInt8 → Int → Prop
  | 0 => fun _ _ => False
  | n + 1 => zao.l4.step (zao.l4 k0 k1 n) k0 k1
def zao.l4.entry : yao := ⟨LV.mk 0 [(0, 0)] 4 0 false, 0, 30, fun vs H K => match vs, H with
  | [EV.str x0, EV.int IntKind.i64 x1], [] => ∃ n, zao.l4 (fun y0 => K .ret [EV.int IntKind.i64 y0] []) (K (.exit 0) [] []) n x0 x1
  | _, _ => False⟩
def zao.d (a0 : List UInt8) (K : Int → Prop) : Prop :=
  zal a0 fun y0 => br (!eqI y0 0) (K 0) (∃ n, zao.l4 (fun y0 => K y0) (K 0) n a0 (yaw IntKind.i64 (↑(List.length a0)) 1))
noncomputable def zao := shut zao.d
theorem zao.is : zao = zao.d := shut_is _
def zap.d (a0 : List UInt8) (a1 : Int) (K : List UInt8 → Bool → Int → Prop) : Prop :=
  zal a0 fun y0 => br (!eqI y0 0) (K [] false 2) (br (ltI a1 0) (K [] false 2) (br (eqS a0 []) (K [] false 0) (zba a0 fun y0 y1 => zav y0 y1 a1 fun y0 y1 => zaw y0 y1 fun y0 => zao a0 fun y0_1 => K y0 (ltI y0_1 a1) 0)))
noncomputable def zap := shut zap.d
theorem zap.is : zap = zap.d := shut_is _
def zaq.l7.step (again : List UInt8 → Nat → Int → Int → Nat → (Nat → Int) → Prop) (k0 : Nat → Nat → (Nat → Int) → Prop) (x0 : List UInt8) (x1 : Nat) (x2 : Int) (x3 : Int) (x4 : Nat) (x5 : Nat → Int) : Prop :=
  br (ltI x3 x2) (br (ltI 0 x3) (gd (leI 0 x3 && ltI x3 ↑(List.length x0)) (gd (leI 0 (yaS IntKind.u8 (yap x0 (Int.toNat x3)) 4) && ltI (yaS IntKind.u8 (yap x0 (Int.toNat x3)) 4) 16) (gd (leN (x1 + 1) 1099511627776) (gd (leI 0 x3 && ltI x3 ↑(List.length x0)) (gd (leI 0 (ydM IntKind.u8 (yap x0 (Int.toNat x3)) 15) && ltI (ydM IntKind.u8 (yap x0 (Int.toNat x3)) 15) 16) (gd (leN (x1 + 1 + 1) 1099511627776) (again x0 (x1 + 1 + 1) x2 (yal IntKind.i64 x3 1) (x1 + 1 + 1) (app (x1 + 1) (app x1 x5 (upd (fun x => 0) 0 (yap [48, 49, 50, 51, 52, 53, 54, 55, 56, 57, 97, 98, 99, 100, 101, 102] (Int.toNat (yaS IntKind.u8 (yap x0 (Int.toNat x3)) 4))))) (upd (fun x => 0) 0 (yap [48, 49, 50, 51, 52, 53, 54, 55, 56, 57, 97, 98, 99, 100, 101, 102] (Int.toNat (ydM IntKind.u8 (yap x0 (Int.toNat x3)) 15)))))))))))) (gd (leI 0 x3 && ltI x3 ↑(List.length x0)) (br (ltI 15 (yap x0 (Int.toNat x3))) (gd (leI 0 x3 && ltI x3 ↑(List.length x0)) (gd (leI 0 (yaS IntKind.u8 (yap x0 (Int.toNat x3)) 4) && ltI (yaS IntKind.u8 (yap x0 (Int.toNat x3)) 4) 16) (gd (leN (x1 + 1) 1099511627776) (gd (leI 0 x3 && ltI x3 ↑(List.length x0)) (gd (leI 0 (ydM IntKind.u8 (yap x0 (Int.toNat x3)) 15) && ltI (ydM IntKind.u8 (yap x0 (Int.toNat x3)) 15) 16) (gd (leN (x1 + 1 + 1) 1099511627776) (again x0 (x1 + 1 + 1) x2 (yal IntKind.i64 x3 1) (x1 + 1 + 1) (app (x1 + 1) (app x1 x5 (upd (fun x => 0) 0 (yap [48, 49, 50, 51, 52, 53, 54, 55, 56, 57, 97, 98, 99, 100, 101, 102] (Int.toNat (yaS IntKind.u8 (yap x0 (Int.toNat x3)) 4))))) (upd (fun x => 0) 0 (yap [48, 49, 50, 51, 52, 53, 54, 55, 56, 57, 97, 98, 99, 100, 101, 102] (Int.toNat (ydM IntKind.u8 (yap x0 (Int.toNat x3)) 15)))))))))))) (gd (leI 0 x3 && ltI x3 ↑(List.length x0)) (gd (leI 0 (ydM IntKind.u8 (yap x0 (Int.toNat x3)) 15) && ltI (ydM IntKind.u8 (yap x0 (Int.toNat x3)) 15) 16) (gd (leN (x1 + 1) 1099511627776) (again x0 (x1 + 1) x2 (yal IntKind.i64 x3 1) (x1 + 1) (app x1 x5 (upd (fun x => 0) 0 (yap [48, 49, 50, 51, 52, 53, 54, 55, 56, 57, 97, 98, 99, 100, 101, 102] (Int.toNat (ydM IntKind.u8 (yap x0 (Int.toNat x3)) 15)))))))))))) (k0 x1 x4 x5)
def zaq.l7 (k0 : Nat → Nat → (Nat → Int) → Prop) : Nat → List UInt8 → Nat → Int → Int → Nat → (Nat → Int) → Prop
  | 0 => fun _ _ _ _ _ _ => False
  | n + 1 => zaq.l7.step (zaq.l7 k0 n) k0
def zaq.l7.entry : yao := ⟨LV.mk 16 [(0, 16)] 12 0 true, 0, 47, fun vs H K => match vs, H with
  | [EV.str x0, EV.slice 0 0 x1 none 1, EV.int IntKind.i64 x2, EV.int IntKind.i64 x3], [some (EV.arr IntKind.u8 x4 x5)] => ∃ n, zaq.l7 (fun y0 y1 y2 => K (.exit 0) [EV.slice 0 0 y0 none 1] [some (EV.arr IntKind.u8 y1 y2)]) n x0 x1 x2 x3 x4 x5
  | _, _ => False⟩
def zaq.d (a0 : List UInt8) (K : List UInt8 → Int → Prop) : Prop :=
  zal a0 fun y0 => br (!eqI y0 0) (K [] 2) (br (eqS a0 []) (K [48] 0) (gd (leI 0 (ycB IntKind.i64 2 ↑(List.length a0)) && leI (ycB IntKind.i64 2 ↑(List.length a0)) 1099511627776) (∃ n, zaq.l7 (fun y0 y1 y2 => K (yaL y0 y2) 0) n a0 0 (↑(List.length a0)) 0 (Int.toNat (ycB IntKind.i64 2 ↑(List.length a0))) fun x => 0)))
noncomputable def zaq := shut zaq.d
theorem zaq.is : zaq = zaq.d := shut_is _
end Go.Ev.S

/- Numbers in decimal digits: what the library's two functions come to. -/
set_option linter.unusedVariables false
set_option linter.unusedSimpArgs false
namespace Go.Ev.S
open Go Go.Ev
def zbx.d (a0 : Int) (K : List UInt8 → Prop) : Prop := (-9223372036854775808 ≤ a0 ∧ a0 ≤ 9223372036854775807) ∧ K (Go.Lib.itoa a0)
noncomputable def zbx := shut zbx.d
theorem zbx.is : zbx = zbx.d := shut_is _
end Go.Ev.S

/- The functions as the evaluator has them: what each comes to. -/
set_option maxRecDepth 100000
set_option linter.unusedVariables false
set_option linter.unusedSimpArgs false
namespace Go.Ev.S
open Go Go.Ev
def zaf.d (K : Bool → List UInt8 → List UInt8 → Int → Prop) : Prop :=
  K false [] [1] 0
noncomputable def zaf := shut zaf.d
theorem zaf.is : zaf = zaf.d := shut_is _
def zag.d (a0 : List UInt8) (K : Bool → Prop) : Prop :=
  br (!eqS a0 []) (gd (leI 0 (yaw IntKind.i64 (↑(List.length a0)) 1) && ltI (yaw IntKind.i64 (↑(List.length a0)) 1) ↑(List.length a0)) (K (eqI (ydM IntKind.u8 (yap a0 (Int.toNat (yaw IntKind.i64 (↑(List.length a0)) 1))) 1) 1))) (K false)
noncomputable def zag := shut zag.d
theorem zag.is : zag = zag.d := shut_is _
def zah.d (a0 : Int) (K : Bool → Prop) : Prop :=
  br (leI (-1048576) a0) (K (leI a0 1048576)) (K false)
noncomputable def zah := shut zah.d
theorem zah.is : zah = zah.d := shut_is _
def zac.d (a0_0 : Bool) (a0_1 : List UInt8) (a0_2 : List UInt8) (a0_3 : Int) (K : Int → Prop) : Prop :=
  zal a0_1 fun y0 => br (!eqI y0 0) (K 2) (zal a0_2 fun y0 => br (!eqI y0 0) (K 2) (zag a0_2 fun y0 => br (!y0) (K 2) (zah a0_3 fun y0 => br (!y0) (K 2) (br (eqS a0_1 []) (zaf fun y0 y1 y2 y3 => br (!(yeP a0_0 y0 && (eqS a0_1 y1 && (eqS a0_2 y2 && eqI a0_3 y3)))) (K 2) (K 0)) (zan a0_1 a0_2 fun y0 y1 => zag a0_1 fun y0_1 => br (!y0_1) (K 2) (br (!eqS y0 [1]) (K 2) (K 0)))))))
noncomputable def zac := shut zac.d
theorem zac.is : zac = zac.d := shut_is _
def zad.d (a0 : Bool) (a1 : List UInt8) (a2 : List UInt8) (a3 : Int) (K : Bool → List UInt8 → List UInt8 → Int → Int → Prop) : Prop :=
  zal a1 fun y0 => br (!eqI y0 0) (K false [] [] 0 2) (zal a2 fun y0 => br (!eqI y0 0) (K false [] [] 0 2) (br (eqS a2 []) (K false [] [] 0 2) (zah a3 fun y0 => br (!y0) (K false [] [] 0 2) (br (eqS a1 []) (zaf fun y0 y1 y2 y3 => K y0 y1 y2 y3 0) (zao a1 fun y0 => zao a2 fun y0_1 => zap a1 y0 fun y0_2 y1 y2 => zap a2 y0_1 fun y0_3 y1 y2 => zan y0_2 y0_3 fun y0_4 y1 => br (!eqS y0_4 [1]) (zam y0_2 y0_4 fun y0_5 y1 y2 => zam y0_3 y0_4 fun y0_6 y1 y2 => zah (yal IntKind.i64 a3 (yaw IntKind.i64 y0 y0_1)) fun y0_7 => br (!y0_7) (K false [] [] 0 4) (K a0 y0_5 y0_6 (yal IntKind.i64 a3 (yaw IntKind.i64 y0 y0_1)) 0)) (zah (yal IntKind.i64 a3 (yaw IntKind.i64 y0 y0_1)) fun y0_5 => br (!y0_5) (K false [] [] 0 4) (K a0 y0_2 y0_3 (yal IntKind.i64 a3 (yaw IntKind.i64 y0 y0_1)) 0)))))))
noncomputable def zad := shut zad.d
theorem zad.is : zad = zad.d := shut_is _
def zae.d (a0_0 : Bool) (a0_1 : List UInt8) (a0_2 : List UInt8) (a0_3 : Int) (K : List UInt8 → Int → Prop) : Prop :=
  zac a0_0 a0_1 a0_2 a0_3 fun y0 => br (!eqI y0 0) (K [] 2) (br a0_0 (zaq a0_1 fun y0 y1 => zaq a0_2 fun y0_1 y1 => gd (leI (1 + ↑(List.length y0)) 9223372036854775807) (gd (leI (↑(List.length ([45] ++ y0)) + 1) 9223372036854775807) (gd (leI (↑(List.length ([45] ++ y0 ++ [47])) + ↑(List.length y0_1)) 9223372036854775807) (gd (leI (↑(List.length ([45] ++ y0 ++ [47] ++ y0_1)) + 1) 9223372036854775807) (zbx a0_3 fun y0_2 => gd (leI (↑(List.length ([45] ++ y0 ++ [47] ++ y0_1 ++ [112])) + ↑(List.length y0_2)) 9223372036854775807) (K ([45] ++ y0 ++ [47] ++ y0_1 ++ [112] ++ y0_2) 0)))))) (zaq a0_1 fun y0 y1 => zaq a0_2 fun y0_1 y1 => gd (leI (0 + ↑(List.length y0)) 9223372036854775807) (gd (leI (↑(List.length ([] ++ y0)) + 1) 9223372036854775807) (gd (leI (↑(List.length ([] ++ y0 ++ [47])) + ↑(List.length y0_1)) 9223372036854775807) (gd (leI (↑(List.length ([] ++ y0 ++ [47] ++ y0_1)) + 1) 9223372036854775807) (zbx a0_3 fun y0_2 => gd (leI (↑(List.length ([] ++ y0 ++ [47] ++ y0_1 ++ [112])) + ↑(List.length y0_2)) 9223372036854775807) (K ([] ++ y0 ++ [47] ++ y0_1 ++ [112] ++ y0_2) 0)))))))
noncomputable def zae := shut zae.d
theorem zae.is : zae = zae.d := shut_is _
end Go.Ev.S

/- The functions as the evaluator has them: what each comes to. -/
set_option maxRecDepth 100000
set_option linter.unusedVariables false
set_option linter.unusedSimpArgs false
namespace Go.Ev.S
open Go Go.Ev
def zbb.d (a0 : Int) (a1 : Int) (K : Bool → Prop) : Prop :=
  br (leI 0 a1) (br (ltI a1 64) (gd (!ltI (cvI IntKind.u64 a1) 0) (K (eqI (ydM IntKind.u64 (yaS IntKind.u64 a0 (cvI IntKind.u64 a1)) 1) 1))) (K false)) (K false)
noncomputable def zbb := shut zbb.d
theorem zbb.is : zbb = zbb.d := shut_is _
def r01_Add.l3.step (again : Int → Int → Bool → Int → Int → Prop) (k0 : Bool → Int → Prop) (x0 : Int) (x1 : Int) (x2 : Bool) (x3 : Int) (x4 : Int) : Prop :=
  br (ltI x4 64) (zbb x0 x4 fun y0 => zbb x1 x4 fun y0_1 => br (!yeP (!yeP y0 y0_1) x2) (gd (!ltI (cvI IntKind.u64 x4) 0) (br y0 (br y0_1 (again x0 x1 true (orI IntKind.u64 x3 (yc0 IntKind.u64 1 (cvI IntKind.u64 x4))) (yal IntKind.i64 x4 1)) (br y0 (br x2 (again x0 x1 true (orI IntKind.u64 x3 (yc0 IntKind.u64 1 (cvI IntKind.u64 x4))) (yal IntKind.i64 x4 1)) (br y0_1 (again x0 x1 x2 (orI IntKind.u64 x3 (yc0 IntKind.u64 1 (cvI IntKind.u64 x4))) (yal IntKind.i64 x4 1)) (again x0 x1 false (orI IntKind.u64 x3 (yc0 IntKind.u64 1 (cvI IntKind.u64 x4))) (yal IntKind.i64 x4 1)))) (br y0_1 (again x0 x1 x2 (orI IntKind.u64 x3 (yc0 IntKind.u64 1 (cvI IntKind.u64 x4))) (yal IntKind.i64 x4 1)) (again x0 x1 false (orI IntKind.u64 x3 (yc0 IntKind.u64 1 (cvI IntKind.u64 x4))) (yal IntKind.i64 x4 1))))) (br y0 (br x2 (again x0 x1 true (orI IntKind.u64 x3 (yc0 IntKind.u64 1 (cvI IntKind.u64 x4))) (yal IntKind.i64 x4 1)) (br y0_1 (again x0 x1 x2 (orI IntKind.u64 x3 (yc0 IntKind.u64 1 (cvI IntKind.u64 x4))) (yal IntKind.i64 x4 1)) (again x0 x1 false (orI IntKind.u64 x3 (yc0 IntKind.u64 1 (cvI IntKind.u64 x4))) (yal IntKind.i64 x4 1)))) (br y0_1 (again x0 x1 x2 (orI IntKind.u64 x3 (yc0 IntKind.u64 1 (cvI IntKind.u64 x4))) (yal IntKind.i64 x4 1)) (again x0 x1 false (orI IntKind.u64 x3 (yc0 IntKind.u64 1 (cvI IntKind.u64 x4))) (yal IntKind.i64 x4 1)))))) (br y0 (br y0_1 (again x0 x1 true x3 (yal IntKind.i64 x4 1)) (br y0 (br x2 (again x0 x1 true x3 (yal IntKind.i64 x4 1)) (br y0_1 (again x0 x1 x2 x3 (yal IntKind.i64 x4 1)) (again x0 x1 false x3 (yal IntKind.i64 x4 1)))) (br y0_1 (again x0 x1 x2 x3 (yal IntKind.i64 x4 1)) (again x0 x1 false x3 (yal IntKind.i64 x4 1))))) (br y0 (br x2 (again x0 x1 true x3 (yal IntKind.i64 x4 1)) (br y0_1 (again x0 x1 x2 x3 (yal IntKind.i64 x4 1)) (again x0 x1 false x3 (yal IntKind.i64 x4 1)))) (br y0_1 (again x0 x1 x2 x3 (yal IntKind.i64 x4 1)) (again x0 x1 false x3 (yal IntKind.i64 x4 1)))))) (k0 x2 x3)
def r01_Add.l3 (k0 : Bool → Int → Prop) : Nat → Int → Int → Bool → Int → Int → Prop
  | 0 => fun _ _ _ _ _ => False
  | n + 1 => r01_Add.l3.step (r01_Add.l3 k0 n) k0
def r01_Add.l3.entry : yao := ⟨LV.mk 260 [(0, 260)] 192 0 false, 0, 50, fun vs H K => match vs, H with
  | [EV.int IntKind.u64 x0, EV.int IntKind.u64 x1, EV.bool x2, EV.int IntKind.u64 x3, EV.int IntKind.i64 x4], [] => ∃ n, r01_Add.l3 (fun y0 y1 => K (.exit 0) [EV.bool y0, EV.int IntKind.u64 y1] []) n x0 x1 x2 x3 x4
  | _, _ => False⟩
def r01_Add.d (a0 : Int) (a1 : Int) (a2 : Bool) (K : Int → Bool → Prop) : Prop :=
  ∃ n, r01_Add.l3 (fun y0 y1 => K y1 y0) n a0 a1 a2 0 0
noncomputable def r01_Add : Int → Int → Bool → (Int → Bool → Prop) → Prop := Classical.choose (⟨r01_Add.d, rfl⟩ : ∃ f, f = r01_Add.d)
def r01_count.d (a0 : Int) (K : Int → Prop) : Prop :=
  br (ltI a0 0) (K 0) (br (ltI 64 a0) (K 64) (K a0))
noncomputable def r01_count : Int → (Int → Prop) → Prop := Classical.choose (⟨r01_count.d, rfl⟩ : ∃ f, f = r01_count.d)
def r01_Left.l2.step (again : Int → Int → Prop) (k0 : Int → Prop) (x0 : Int) (x1 : Int) : Prop :=
  br (ltI 0 x1) (again (ycB IntKind.u64 x0 2) (yaw IntKind.i64 x1 1)) (k0 x0)
def r01_Left.l2 (k0 : Int → Prop) : Nat → Int → Int → Prop
  | 0 => fun _ _ => False
  | n + 1 => r01_Left.l2.step (r01_Left.l2 k0 n) k0
def r01_Left.l2.entry : yao := ⟨LV.mk 1 [(0, 1)] 16 0 false, 0, 15, fun vs H K => match vs, H with
  | [EV.int IntKind.u64 x0, EV.int IntKind.i64 x1], [] => ∃ n, r01_Left.l2 (fun y0 => K (.exit 0) [EV.int IntKind.u64 y0] []) n x0 x1
  | _, _ => False⟩
def r01_Left.d (a0 : Int) (a1 : Int) (K : Int → Prop) : Prop :=
  r01_count a1 fun y0 => ∃ n, r01_Left.l2 (fun y0 => K y0) n a0 y0
noncomputable def r01_Left : Int → Int → (Int → Prop) → Prop := Classical.choose (⟨r01_Left.d, rfl⟩ : ∃ f, f = r01_Left.d)
def zbc.l3.step (again : Int → Int → Int → Prop) (k0 : Int → Prop) (x0 : Int) (x1 : Int) (x2 : Int) : Prop :=
  br (ltI x2 64) (zbb x0 x2 fun y0 => br y0 (again x0 (yal IntKind.i64 x2 1) (yal IntKind.i64 x2 1)) (again x0 x1 (yal IntKind.i64 x2 1))) (k0 x1)
def zbc.l3 (k0 : Int → Prop) : Nat → Int → Int → Int → Prop
  | 0 => fun _ _ _ => False
  | n + 1 => zbc.l3.step (zbc.l3 k0 n) k0
def zbc.l3.entry : yao := ⟨LV.mk 8 [(0, 8)] 4 0 false, 0, 15, fun vs H K => match vs, H with
  | [EV.int IntKind.u64 x0, EV.int IntKind.i64 x1, EV.int IntKind.i64 x2], [] => ∃ n, zbc.l3 (fun y0 => K (.exit 0) [EV.int IntKind.i64 y0] []) n x0 x1 x2
  | _, _ => False⟩
def zbc.d (a0 : Int) (K : Int → Prop) : Prop :=
  ∃ n, zbc.l3 (fun y0 => K y0) n a0 0 0
noncomputable def zbc := shut zbc.d
theorem zbc.is : zbc = zbc.d := shut_is _
def zbd.l2.step (again : Int → Int → Prop) (k0 : Int → Prop) (k1 : Prop) (x0 : Int) (x1 : Int) : Prop :=
  br (ltI x1 64) (zbb x0 x1 fun y0 => br y0 (k0 x1) (again x0 (yal IntKind.i64 x1 1))) k1
def zbd.l2 (k0 : Int → Prop) (k1 : Prop) : Nat → Int → Int → Prop
  | 0 => fun _ _ => False
  | n + 1 => zbd.l2.step (zbd.l2 k0 k1 n) k0 k1
def zbd.l2.entry : yao := ⟨LV.mk 0 [(0, 0)] 4 0 false, 0, 12, fun vs H K => match vs, H with
  | [EV.int IntKind.u64 x0, EV.int IntKind.i64 x1], [] => ∃ n, zbd.l2 (fun y0 => K .ret [EV.int IntKind.i64 y0] []) (K (.exit 0) [] []) n x0 x1
  | _, _ => False⟩
def zbd.d (a0 : Int) (K : Int → Prop) : Prop :=
  ∃ n, zbd.l2 (fun y0 => K y0) (K 64) n a0 0
noncomputable def zbd := shut zbd.d
theorem zbd.is : zbd = zbd.d := shut_is _
end Go.Ev.S

/- The functions as the evaluator has them: what each comes to. -/
set_option maxRecDepth 100000
set_option linter.unusedVariables false
set_option linter.unusedSimpArgs false
namespace Go.Ev.S
open Go Go.Ev
end Go.Ev.S

/- The functions as the evaluator has them: what each comes to. -/
set_option maxRecDepth 100000
set_option linter.unusedVariables false
set_option linter.unusedSimpArgs false
namespace Go.Ev.S
open Go Go.Ev
def zbm.d (a0 : List UInt8) (a1 : Int) (K : Int → Prop) : Prop :=
  br (leI (↑(List.length a0)) a1) (K 0) (gd (leI 0 (yaw IntKind.i64 (yaw IntKind.i64 (↑(List.length a0)) 1) a1) && ltI (yaw IntKind.i64 (yaw IntKind.i64 (↑(List.length a0)) 1) a1) ↑(List.length a0)) (K (cvI IntKind.i64 (yap a0 (Int.toNat (yaw IntKind.i64 (yaw IntKind.i64 (↑(List.length a0)) 1) a1))))))
noncomputable def zbm := shut zbm.d
theorem zbm.is : zbm = zbm.d := shut_is _
def zbp.l2.step (again : Nat → (Nat → Int) → Int → Prop) (k0 : Nat → (Nat → Int) → Int → Prop) (x0 : Nat) (x1 : Nat → Int) (x2 : Int) : Prop :=
  br (ltI 0 x2) (gd (leI 0 (yaw IntKind.i64 x2 1) && ltI (yaw IntKind.i64 x2 1) ↑x0) (br (eqI (x1 (Int.toNat (yaw IntKind.i64 x2 1))) 0) (again x0 x1 (yaw IntKind.i64 x2 1)) (k0 x0 x1 x2))) (k0 x0 x1 x2)
def zbp.l2 (k0 : Nat → (Nat → Int) → Int → Prop) : Nat → Nat → (Nat → Int) → Int → Prop
  | 0 => fun _ _ _ => False
  | n + 1 => zbp.l2.step (zbp.l2 k0 n) k0
def zbp.l2.entry : yao := ⟨LV.mk 9 [(0, 9)] 4 0 false, 0, 39, fun vs H K => match vs, H with
  | [EV.rsI IntKind.u8 x0 x1, EV.int IntKind.i64 x2], [] => ∃ n, zbp.l2 (fun y0 y1 y2 => K (.exit 0) [EV.rsI IntKind.u8 y0 y1, EV.int IntKind.i64 y2] []) n x0 x1 x2
  | _, _ => False⟩
def zbp.l6.step (again : Nat → (Nat → Int) → Int → Nat → Nat → Int → Nat → (Nat → Int) → Prop) (k0 : Nat → Nat → Nat → (Nat → Int) → Prop) (x0 : Nat) (x1 : Nat → Int) (x2 : Int) (x3 : Nat) (x4 : Nat) (x5 : Int) (x6 : Nat) (x7 : Nat → Int) : Prop :=
  br (ltI x5 x2) (gd (leI 0 x5 && ltI x5 ↑x0) (gd (leI 0 (yaw IntKind.i64 (yaw IntKind.i64 x2 1) x5) && ltI (yaw IntKind.i64 (yaw IntKind.i64 x2 1) x5) ↑x3) (again x0 x1 x2 x3 x4 (yal IntKind.i64 x5 1) x6 (upd x7 (Int.toNat (yaw IntKind.i64 (yaw IntKind.i64 x2 1) x5)) (x1 (Int.toNat x5)))))) (k0 x3 x4 x6 x7)
def zbp.l6 (k0 : Nat → Nat → Nat → (Nat → Int) → Prop) : Nat → Nat → (Nat → Int) → Int → Nat → Nat → Int → Nat → (Nat → Int) → Prop
  | 0 => fun _ _ _ _ _ _ _ _ => False
  | n + 1 => zbp.l6.step (zbp.l6 k0 n) k0
def zbp.l6.entry : yao := ⟨LV.mk 16 [(2, 16)] 4 0 false, 0, 39, fun vs H K => match vs, H with
  | [EV.rsI IntKind.u8 x0 x1, EV.int IntKind.i64 x2, EV.slice 0 0 x3 (some x4) 1, EV.int IntKind.i64 x5], [some (EV.arr IntKind.u8 x6 x7)] => ∃ n, zbp.l6 (fun y0 y1 y2 y3 => K (.exit 2) [EV.slice 0 0 y0 (some y1) 1] [some (EV.arr IntKind.u8 y2 y3)]) n x0 x1 x2 x3 x4 x5 x6 x7
  | _, _ => False⟩
def zbp.d (a0n : Nat) (a0 : Nat → Int) (K : List UInt8 → Prop) : Prop :=
  ∃ n, zbp.l2 (fun y0 y1 y2 => gd (leI 0 y2 && (leI y2 y2 && leI y2 1099511627776)) (∃ n, zbp.l6 (fun y0 y1 y2 y3 => K (yaL y0 y3)) n y0 y1 y2 (Int.toNat y2) (Int.toNat y2) 0 (Int.toNat y2) fun x => 0)) n a0n a0 ↑a0n
noncomputable def zbp := shut zbp.d
theorem zbp.is : zbp = zbp.d := shut_is _
def r05_add.l7.step (again : List UInt8 → List UInt8 → Int → Nat → Nat → Int → Int → Nat → (Nat → Int) → Prop) (k0 : Nat → Nat → Nat → (Nat → Int) → Prop) (x0 : List UInt8) (x1 : List UInt8) (x2 : Int) (x3 : Nat) (x4 : Nat) (x5 : Int) (x6 : Int) (x7 : Nat) (x8 : Nat → Int) : Prop :=
  br (leI x6 x2) (zbm x0 x6 fun y0 => zbm x1 x6 fun y0_1 => gd (leI 0 x6 && ltI x6 ↑x3) (again x0 x1 x2 x3 x4 (yaS IntKind.i64 (yal IntKind.i64 (yal IntKind.i64 x5 y0) y0_1) 8) (yal IntKind.i64 x6 1) x7 (upd x8 (Int.toNat x6) (cvI IntKind.u8 (yal IntKind.i64 (yal IntKind.i64 x5 y0) y0_1))))) (k0 x3 x4 x7 x8)
def r05_add.l7 (k0 : Nat → Nat → Nat → (Nat → Int) → Prop) : Nat → List UInt8 → List UInt8 → Int → Nat → Nat → Int → Int → Nat → (Nat → Int) → Prop
  | 0 => fun _ _ _ _ _ _ _ _ _ => False
  | n + 1 => r05_add.l7.step (r05_add.l7 k0 n) k0
def r05_add.l7.entry : yao := ⟨LV.mk 64 [(0, 64)] 16 0 false, 0, 43, fun vs H K => match vs, H with
  | [EV.str x0, EV.str x1, EV.int IntKind.i64 x2, EV.slice 0 0 x3 (some x4) 1, EV.int IntKind.i64 x5, EV.int IntKind.i64 x6], [some (EV.arr IntKind.u8 x7 x8)] => ∃ n, r05_add.l7 (fun y0 y1 y2 y3 => K (.exit 0) [EV.slice 0 0 y0 (some y1) 1] [some (EV.arr IntKind.u8 y2 y3)]) n x0 x1 x2 x3 x4 x5 x6 x7 x8
  | _, _ => False⟩
def r05_add.d (a0 : List UInt8) (a1 : List UInt8) (K : List UInt8 → Prop) : Prop :=
  br (ltI ↑(List.length a0) ↑(List.length a1)) (gd (leI 0 (yal IntKind.i64 (↑(List.length a1)) 1) && (leI (yal IntKind.i64 (↑(List.length a1)) 1) (yal IntKind.i64 (↑(List.length a1)) 1) && leI (yal IntKind.i64 (↑(List.length a1)) 1) 1099511627776)) (∃ n, r05_add.l7 (fun y0 y1 y2 y3 => zbp y0 y3 fun y0 => K y0) n a0 a1 (↑(List.length a1)) (Int.toNat (yal IntKind.i64 (↑(List.length a1)) 1)) (Int.toNat (yal IntKind.i64 (↑(List.length a1)) 1)) 0 0 (Int.toNat (yal IntKind.i64 (↑(List.length a1)) 1)) fun x => 0)) (gd (leI 0 (yal IntKind.i64 (↑(List.length a0)) 1) && (leI (yal IntKind.i64 (↑(List.length a0)) 1) (yal IntKind.i64 (↑(List.length a0)) 1) && leI (yal IntKind.i64 (↑(List.length a0)) 1) 1099511627776)) (∃ n, r05_add.l7 (fun y0 y1 y2 y3 => zbp y0 y3 fun y0 => K y0) n a0 a1 (↑(List.length a0)) (Int.toNat (yal IntKind.i64 (↑(List.length a0)) 1)) (Int.toNat (yal IntKind.i64 (↑(List.length a0)) 1)) 0 0 (Int.toNat (yal IntKind.i64 (↑(List.length a0)) 1)) fun x => 0))
noncomputable def r05_add : List UInt8 → List UInt8 → (List UInt8 → Prop) → Prop := Classical.choose (⟨r05_add.d, rfl⟩ : ∃ f, f = r05_add.d)
def zbe.d (a0 : List UInt8) (a1 : List UInt8) (K : Int → Prop) : Prop :=
  br (!eqI ↑(List.length a0) ↑(List.length a1)) (br (ltI ↑(List.length a0) ↑(List.length a1)) (K (-1)) (K 1)) (br (ltS a0 a1) (K (-1)) (br (!(ltS a0 a1 || eqS a0 a1)) (K 1) (K 0)))
noncomputable def zbe := shut zbe.d
theorem zbe.is : zbe = zbe.d := shut_is _
def zbj.d (a0 : List UInt8) (K : Bool → Prop) : Prop :=
  br (leI (↑(List.length a0)) 16384) (br (eqS a0 []) (K true) (gd (ltI 0 ↑(List.length a0)) (K !eqI (yap a0 0) 0))) (K false)
noncomputable def zbj := shut zbj.d
theorem zbj.is : zbj = zbj.d := shut_is _
def zbh.d (a0 : List UInt8) (K : Int → Prop) : Prop :=
  zbj a0 fun y0 => br (!y0) (K 0) (br (eqS a0 []) (K 0) (gd (ltI 0 ↑(List.length a0)) (zbc (cvI IntKind.u64 (yap a0 0)) fun y0 => K (yal IntKind.i64 (ycB IntKind.i64 8 (yaw IntKind.i64 (↑(List.length a0)) 1)) y0))))
noncomputable def zbh := shut zbh.d
theorem zbh.is : zbh = zbh.d := shut_is _
def zbi.l4.step (again : List UInt8 → Int → Prop) (k0 : Int → Prop) (k1 : Prop) (x0 : List UInt8) (x1 : Int) : Prop :=
  br (ltI x1 ↑(List.length x0)) (zbm x0 x1 fun y0 => br (!eqI y0 0) (zbm x0 x1 fun y0 => zbd (cvI IntKind.u64 y0) fun y0 => k0 (yal IntKind.i64 (ycB IntKind.i64 8 x1) y0)) (again x0 (yal IntKind.i64 x1 1))) k1
def zbi.l4 (k0 : Int → Prop) (k1 : Prop) : Nat → List UInt8 → Int → Prop
  | 0 => fun _ _ => False
  | n + 1 => zbi.l4.step (zbi.l4 k0 k1 n) k0 k1
def zbi.l4.entry : yao := ⟨LV.mk 0 [(0, 0)] 4 0 false, 0, 25, fun vs H K => match vs, H with
  | [EV.str x0, EV.int IntKind.i64 x1], [] => ∃ n, zbi.l4 (fun y0 => K .ret [EV.int IntKind.i64 y0] []) (K (.exit 0) [] []) n x0 x1
  | _, _ => False⟩
def zbi.d (a0 : List UInt8) (K : Int → Prop) : Prop :=
  zbj a0 fun y0 => br (!y0) (K 0) (∃ n, zbi.l4 (fun y0 => K y0) (K 0) n a0 0)
noncomputable def zbi := shut zbi.d
theorem zbi.is : zbi = zbi.d := shut_is _
def zbk.l11.step (again : List UInt8 → Int → Bool → Int → Nat → Nat → Int → Nat → (Nat → Int) → Prop) (k0 : Bool → Nat → Nat → Nat → (Nat → Int) → Prop) (x0 : List UInt8) (x1 : Int) (x2 : Bool) (x3 : Int) (x4 : Nat) (x5 : Nat) (x6 : Int) (x7 : Nat) (x8 : Nat → Int) : Prop :=
  br (ltI x6 x3) (zbm x0 (yal IntKind.i64 x6 (ya1 IntKind.i64 x1 8)) fun y0 => zbm x0 (yal IntKind.i64 (yal IntKind.i64 x6 (ya1 IntKind.i64 x1 8)) 1) fun y0_1 => gd (!ltI (cvI IntKind.u64 (ycn IntKind.i64 x1 8)) 0) (gd (leI 0 x6 && ltI x6 ↑x4) (again x0 x1 x2 x3 x4 x5 (yal IntKind.i64 x6 1) x7 (upd x8 (Int.toNat x6) (cvI IntKind.u8 (yaS IntKind.i64 (orI IntKind.i64 y0 (yc0 IntKind.i64 y0_1 8)) (cvI IntKind.u64 (ycn IntKind.i64 x1 8)))))))) (k0 x2 x4 x5 x7 x8)
def zbk.l11 (k0 : Bool → Nat → Nat → Nat → (Nat → Int) → Prop) : Nat → List UInt8 → Int → Bool → Int → Nat → Nat → Int → Nat → (Nat → Int) → Prop
  | 0 => fun _ _ _ _ _ _ _ _ _ => False
  | n + 1 => zbk.l11.step (zbk.l11 k0 n) k0
def zbk.l11.entry : yao := ⟨LV.mk 640 [(0, 640)] 112 0 false, 0, 65, fun vs H K => match vs, H with
  | [EV.str x0, EV.int IntKind.i64 x1, EV.bool x2, EV.int IntKind.i64 x3, EV.slice 0 0 x4 (some x5) 1, EV.int IntKind.i64 x6], [some (EV.arr IntKind.u8 x7 x8)] => ∃ n, zbk.l11 (fun y0 y1 y2 y3 y4 => K (.exit 0) [EV.bool y0, EV.slice 0 0 y1 (some y2) 1] [some (EV.arr IntKind.u8 y3 y4)]) n x0 x1 x2 x3 x4 x5 x6 x7 x8
  | _, _ => False⟩
def zbk.d (a0 : List UInt8) (a1 : Int) (K : List UInt8 → Bool → Int → Prop) : Prop :=
  br (ltI a1 0) (K [] false 2) (br (eqS a0 []) (K [] false 0) (zbi a0 fun y0 => br (leI (ycB IntKind.i64 8 ↑(List.length a0)) a1) (K [] (ltI y0 a1) 0) (gd (leI 0 (yaw IntKind.i64 (↑(List.length a0)) (ya1 IntKind.i64 a1 8)) && (leI (yaw IntKind.i64 (↑(List.length a0)) (ya1 IntKind.i64 a1 8)) (yaw IntKind.i64 (↑(List.length a0)) (ya1 IntKind.i64 a1 8)) && leI (yaw IntKind.i64 (↑(List.length a0)) (ya1 IntKind.i64 a1 8)) 1099511627776)) (∃ n, zbk.l11 (fun y0 y1 y2 y3 y4 => zbp y1 y4 fun y0_1 => K y0_1 y0 0) n a0 a1 (ltI y0 a1) (yaw IntKind.i64 (↑(List.length a0)) (ya1 IntKind.i64 a1 8)) (Int.toNat (yaw IntKind.i64 (↑(List.length a0)) (ya1 IntKind.i64 a1 8))) (Int.toNat (yaw IntKind.i64 (↑(List.length a0)) (ya1 IntKind.i64 a1 8))) 0 (Int.toNat (yaw IntKind.i64 (↑(List.length a0)) (ya1 IntKind.i64 a1 8))) fun x => 0))))
noncomputable def zbk := shut zbk.d
theorem zbk.is : zbk = zbk.d := shut_is _
def zbn.d (a0 : List UInt8) (a1 : Int) (K : Int → Prop) : Prop :=
  zbm a0 (ya1 IntKind.i64 a1 8) fun y0 => gd (!ltI (cvI IntKind.u64 (ycn IntKind.i64 a1 8)) 0) (K (ydM IntKind.i64 (yaS IntKind.i64 y0 (cvI IntKind.u64 (ycn IntKind.i64 a1 8))) 1))
noncomputable def zbn := shut zbn.d
theorem zbn.is : zbn = zbn.d := shut_is _
def zbo.l4.step (again : List UInt8 → Nat → Nat → Int → Int → Nat → (Nat → Int) → Prop) (k0 : Nat → Nat → Nat → (Nat → Int) → Prop) (x0 : List UInt8) (x1 : Nat) (x2 : Nat) (x3 : Int) (x4 : Int) (x5 : Nat) (x6 : Nat → Int) : Prop :=
  br (leI x4 ↑(List.length x0)) (zbm x0 x4 fun y0 => gd (leI 0 x4 && ltI x4 ↑x1) (again x0 x1 x2 (yaS IntKind.i64 (yal IntKind.i64 x3 (ycB IntKind.i64 2 y0)) 8) (yal IntKind.i64 x4 1) x5 (upd x6 (Int.toNat x4) (cvI IntKind.u8 (yal IntKind.i64 x3 (ycB IntKind.i64 2 y0)))))) (k0 x1 x2 x5 x6)
def zbo.l4 (k0 : Nat → Nat → Nat → (Nat → Int) → Prop) : Nat → List UInt8 → Nat → Nat → Int → Int → Nat → (Nat → Int) → Prop
  | 0 => fun _ _ _ _ _ _ _ => False
  | n + 1 => zbo.l4.step (zbo.l4 k0 n) k0
def zbo.l4.entry : yao := ⟨LV.mk 32 [(0, 32)] 16 0 false, 0, 34, fun vs H K => match vs, H with
  | [EV.str x0, EV.slice 0 0 x1 (some x2) 1, EV.int IntKind.i64 x3, EV.int IntKind.i64 x4], [some (EV.arr IntKind.u8 x5 x6)] => ∃ n, zbo.l4 (fun y0 y1 y2 y3 => K (.exit 0) [EV.slice 0 0 y0 (some y1) 1] [some (EV.arr IntKind.u8 y2 y3)]) n x0 x1 x2 x3 x4 x5 x6
  | _, _ => False⟩
def zbo.d (a0 : List UInt8) (a1 : Int) (K : List UInt8 → Prop) : Prop :=
  gd (leI 0 (yal IntKind.i64 (↑(List.length a0)) 1) && (leI (yal IntKind.i64 (↑(List.length a0)) 1) (yal IntKind.i64 (↑(List.length a0)) 1) && leI (yal IntKind.i64 (↑(List.length a0)) 1) 1099511627776)) (∃ n, zbo.l4 (fun y0 y1 y2 y3 => zbp y0 y3 fun y0 => K y0) n a0 (Int.toNat (yal IntKind.i64 (↑(List.length a0)) 1)) (Int.toNat (yal IntKind.i64 (↑(List.length a0)) 1)) a1 0 (Int.toNat (yal IntKind.i64 (↑(List.length a0)) 1)) fun x => 0)
noncomputable def zbo := shut zbo.d
theorem zbo.is : zbo = zbo.d := shut_is _
def zbq.l4.step (again : List UInt8 → List UInt8 → Nat → Nat → Int → Int → Nat → (Nat → Int) → Prop) (k0 : Nat → Nat → Nat → (Nat → Int) → Prop) (x0 : List UInt8) (x1 : List UInt8) (x2 : Nat) (x3 : Nat) (x4 : Int) (x5 : Int) (x6 : Nat) (x7 : Nat → Int) : Prop :=
  br (ltI x5 ↑(List.length x0)) (zbm x0 x5 fun y0 => zbm x1 x5 fun y0_1 => gd (leI 0 x5 && ltI x5 ↑x2) (br (ltI (yaw IntKind.i64 (yaw IntKind.i64 y0 y0_1) x4) 0) (again x0 x1 x2 x3 1 (yal IntKind.i64 x5 1) x6 (upd x7 (Int.toNat x5) (cvI IntKind.u8 (yaw IntKind.i64 (yaw IntKind.i64 y0 y0_1) x4)))) (again x0 x1 x2 x3 0 (yal IntKind.i64 x5 1) x6 (upd x7 (Int.toNat x5) (cvI IntKind.u8 (yaw IntKind.i64 (yaw IntKind.i64 y0 y0_1) x4)))))) (k0 x2 x3 x6 x7)
def zbq.l4 (k0 : Nat → Nat → Nat → (Nat → Int) → Prop) : Nat → List UInt8 → List UInt8 → Nat → Nat → Int → Int → Nat → (Nat → Int) → Prop
  | 0 => fun _ _ _ _ _ _ _ _ => False
  | n + 1 => zbq.l4.step (zbq.l4 k0 n) k0
def zbq.l4.entry : yao := ⟨LV.mk 32 [(0, 32)] 16 0 false, 0, 35, fun vs H K => match vs, H with
  | [EV.str x0, EV.str x1, EV.slice 0 0 x2 (some x3) 1, EV.int IntKind.i64 x4, EV.int IntKind.i64 x5], [some (EV.arr IntKind.u8 x6 x7)] => ∃ n, zbq.l4 (fun y0 y1 y2 y3 => K (.exit 0) [EV.slice 0 0 y0 (some y1) 1] [some (EV.arr IntKind.u8 y2 y3)]) n x0 x1 x2 x3 x4 x5 x6 x7
  | _, _ => False⟩
def zbq.d (a0 : List UInt8) (a1 : List UInt8) (K : List UInt8 → Prop) : Prop :=
  gd (leI 0 ↑(List.length a0) && (leI ↑(List.length a0) ↑(List.length a0) && leI (↑(List.length a0)) 1099511627776)) (∃ n, zbq.l4 (fun y0 y1 y2 y3 => zbp y0 y3 fun y0 => K y0) n a0 a1 (Int.toNat ↑(List.length a0)) (Int.toNat ↑(List.length a0)) 0 0 (Int.toNat ↑(List.length a0)) fun x => 0)
noncomputable def zbq := shut zbq.d
theorem zbq.is : zbq = zbq.d := shut_is _
def zbf.l10.step (again : List UInt8 → List UInt8 → List UInt8 → Nat → Nat → Int → Nat → (Nat → Int) → Prop) (k0 : List UInt8 → Nat → Nat → Nat → (Nat → Int) → Prop) (x0 : List UInt8) (x1 : List UInt8) (x2 : List UInt8) (x3 : Nat) (x4 : Nat) (x5 : Int) (x6 : Nat) (x7 : Nat → Int) : Prop :=
  br (leI 0 x5) (zbn x0 x5 fun y0 => zbo x2 y0 fun y0 => zbe y0 x1 fun y0_1 => br (leI 0 y0_1) (zbq y0 x1 fun y0 => gd (leI 0 (ya1 IntKind.i64 x5 8) && ltI (ya1 IntKind.i64 x5 8) ↑x3) (gd (!ltI (cvI IntKind.u64 (ycn IntKind.i64 x5 8)) 0) (gd (leI 0 (ya1 IntKind.i64 x5 8) && ltI (ya1 IntKind.i64 x5 8) ↑x3) (again x0 x1 y0 x3 x4 (yaw IntKind.i64 x5 1) x6 (upd x7 (Int.toNat (ya1 IntKind.i64 x5 8)) (orI IntKind.u8 (x7 (Int.toNat (ya1 IntKind.i64 x5 8))) (yc0 IntKind.u8 1 (cvI IntKind.u64 (ycn IntKind.i64 x5 8))))))))) (again x0 x1 y0 x3 x4 (yaw IntKind.i64 x5 1) x6 x7)) (k0 x2 x3 x4 x6 x7)
def zbf.l10 (k0 : List UInt8 → Nat → Nat → Nat → (Nat → Int) → Prop) : Nat → List UInt8 → List UInt8 → List UInt8 → Nat → Nat → Int → Nat → (Nat → Int) → Prop
  | 0 => fun _ _ _ _ _ _ _ _ => False
  | n + 1 => zbf.l10.step (zbf.l10 k0 n) k0
def zbf.l10.entry : yao := ⟨LV.mk 4608 [(0, 4608)] 112 0 false, 0, 76, fun vs H K => match vs, H with
  | [EV.str x0, EV.str x1, EV.str x2, EV.slice 0 0 x3 (some x4) 1, EV.int IntKind.i64 x5], [some (EV.arr IntKind.u8 x6 x7)] => ∃ n, zbf.l10 (fun y0 y1 y2 y3 y4 => K (.exit 0) [EV.str y0, EV.slice 0 0 y1 (some y2) 1] [some (EV.arr IntKind.u8 y3 y4)]) n x0 x1 x2 x3 x4 x5 x6 x7
  | _, _ => False⟩
def zbf.d (a0 : List UInt8) (a1 : List UInt8) (K : List UInt8 → List UInt8 → Int → Prop) : Prop :=
  br (eqS a1 []) (K [] [] 2) (zbe a0 a1 fun y0 => br (ltI y0 0) (K [] a0 0) (zbh a0 fun y0 => zbh a1 fun y0_1 => zbk a0 (yaw IntKind.i64 y0 (yaw IntKind.i64 y0_1 1)) fun y0_2 y1 y2 => gd (leI 0 (yal IntKind.i64 (↑(List.length a0)) 1) && (leI (yal IntKind.i64 (↑(List.length a0)) 1) (yal IntKind.i64 (↑(List.length a0)) 1) && leI (yal IntKind.i64 (↑(List.length a0)) 1) 1099511627776)) (∃ n, zbf.l10 (fun y0 y1 y2 y3 y4 => zbp y1 y4 fun y0_3 => K y0_3 y0 0) n a0 a1 y0_2 (Int.toNat (yal IntKind.i64 (↑(List.length a0)) 1)) (Int.toNat (yal IntKind.i64 (↑(List.length a0)) 1)) (yaw IntKind.i64 (yaw IntKind.i64 y0 (yaw IntKind.i64 y0_1 1)) 1) (Int.toNat (yal IntKind.i64 (↑(List.length a0)) 1)) fun x => 0)))
noncomputable def zbf := shut zbf.d
theorem zbf.is : zbf = zbf.d := shut_is _
def zbg.l1.step (again : List UInt8 → List UInt8 → Prop) (k0 : List UInt8 → Prop) (x0 : List UInt8) (x1 : List UInt8) : Prop :=
  br (!eqS x1 []) (zbf x0 x1 fun y0 y1 y2 => again x1 y1) (k0 x0)
def zbg.l1 (k0 : List UInt8 → Prop) : Nat → List UInt8 → List UInt8 → Prop
  | 0 => fun _ _ => False
  | n + 1 => zbg.l1.step (zbg.l1 k0 n) k0
def zbg.l1.entry : yao := ⟨LV.mk 1 [(0, 1)] 16 0 false, 0, 20, fun vs H K => match vs, H with
  | [EV.str x0, EV.str x1], [] => ∃ n, zbg.l1 (fun y0 => K (.exit 0) [EV.str y0] []) n x0 x1
  | _, _ => False⟩
def zbg.d (a0 : List UInt8) (a1 : List UInt8) (K : List UInt8 → Prop) : Prop :=
  ∃ n, zbg.l1 (fun y0 => K y0) n a0 a1
noncomputable def zbg := shut zbg.d
theorem zbg.is : zbg = zbg.d := shut_is _
def zbl.l5.step (again : List UInt8 → Nat → Int → Nat → (Nat → Int) → Prop) (k0 : Nat → Nat → (Nat → Int) → Prop) (x0 : List UInt8) (x1 : Nat) (x2 : Int) (x3 : Nat) (x4 : Nat → Int) : Prop :=
  br (ltI x2 ↑(List.length x0)) (gd (leI 0 x2 && ltI x2 ↑(List.length x0)) (gd (leI 0 x2 && ltI x2 ↑(List.length x0)) (br (ltI 0 x2) (gd (leI 0 (yaS IntKind.u8 (yap x0 (Int.toNat x2)) 4) && ltI (yaS IntKind.u8 (yap x0 (Int.toNat x2)) 4) 16) (gd (leN (x1 + 1) 1099511627776) (gd (leI 0 (ydM IntKind.u8 (yap x0 (Int.toNat x2)) 15) && ltI (ydM IntKind.u8 (yap x0 (Int.toNat x2)) 15) 16) (gd (leN (x1 + 1 + 1) 1099511627776) (again x0 (x1 + 1 + 1) (yal IntKind.i64 x2 1) (x1 + 1 + 1) (app (x1 + 1) (app x1 x4 (upd (fun x => 0) 0 (yap [48, 49, 50, 51, 52, 53, 54, 55, 56, 57, 97, 98, 99, 100, 101, 102] (Int.toNat (yaS IntKind.u8 (yap x0 (Int.toNat x2)) 4))))) (upd (fun x => 0) 0 (yap [48, 49, 50, 51, 52, 53, 54, 55, 56, 57, 97, 98, 99, 100, 101, 102] (Int.toNat (ydM IntKind.u8 (yap x0 (Int.toNat x2)) 15)))))))))) (br (ltI 0 (yaS IntKind.u8 (yap x0 (Int.toNat x2)) 4)) (gd (leI 0 (yaS IntKind.u8 (yap x0 (Int.toNat x2)) 4) && ltI (yaS IntKind.u8 (yap x0 (Int.toNat x2)) 4) 16) (gd (leN (x1 + 1) 1099511627776) (gd (leI 0 (ydM IntKind.u8 (yap x0 (Int.toNat x2)) 15) && ltI (ydM IntKind.u8 (yap x0 (Int.toNat x2)) 15) 16) (gd (leN (x1 + 1 + 1) 1099511627776) (again x0 (x1 + 1 + 1) (yal IntKind.i64 x2 1) (x1 + 1 + 1) (app (x1 + 1) (app x1 x4 (upd (fun x => 0) 0 (yap [48, 49, 50, 51, 52, 53, 54, 55, 56, 57, 97, 98, 99, 100, 101, 102] (Int.toNat (yaS IntKind.u8 (yap x0 (Int.toNat x2)) 4))))) (upd (fun x => 0) 0 (yap [48, 49, 50, 51, 52, 53, 54, 55, 56, 57, 97, 98, 99, 100, 101, 102] (Int.toNat (ydM IntKind.u8 (yap x0 (Int.toNat x2)) 15)))))))))) (gd (leI 0 (ydM IntKind.u8 (yap x0 (Int.toNat x2)) 15) && ltI (ydM IntKind.u8 (yap x0 (Int.toNat x2)) 15) 16) (gd (leN (x1 + 1) 1099511627776) (again x0 (x1 + 1) (yal IntKind.i64 x2 1) (x1 + 1) (app x1 x4 (upd (fun x => 0) 0 (yap [48, 49, 50, 51, 52, 53, 54, 55, 56, 57, 97, 98, 99, 100, 101, 102] (Int.toNat (ydM IntKind.u8 (yap x0 (Int.toNat x2)) 15)))))))))))) (k0 x1 x3 x4)
def zbl.l5 (k0 : Nat → Nat → (Nat → Int) → Prop) : Nat → List UInt8 → Nat → Int → Nat → (Nat → Int) → Prop
  | 0 => fun _ _ _ _ _ => False
  | n + 1 => zbl.l5.step (zbl.l5 k0 n) k0
def zbl.l5.entry : yao := ⟨LV.mk 8 [(0, 8)] 4 0 true, 0, 45, fun vs H K => match vs, H with
  | [EV.str x0, EV.slice 0 0 x1 none 1, EV.int IntKind.i64 x2], [some (EV.arr IntKind.u8 x3 x4)] => ∃ n, zbl.l5 (fun y0 y1 y2 => K (.exit 0) [EV.slice 0 0 y0 none 1] [some (EV.arr IntKind.u8 y1 y2)]) n x0 x1 x2 x3 x4
  | _, _ => False⟩
def zbl.d (a0 : List UInt8) (K : List UInt8 → Prop) : Prop :=
  br (eqS a0 []) (K [48]) (gd (leI 0 (ycB IntKind.i64 2 ↑(List.length a0)) && leI (ycB IntKind.i64 2 ↑(List.length a0)) 1099511627776) (∃ n, zbl.l5 (fun y0 y1 y2 => K (yaL y0 y2)) n a0 0 0 (Int.toNat (ycB IntKind.i64 2 ↑(List.length a0))) fun x => 0))
noncomputable def zbl := shut zbl.d
theorem zbl.is : zbl = zbl.d := shut_is _
end Go.Ev.S

/- The functions as the evaluator has them: what each comes to. -/
set_option maxRecDepth 100000
set_option linter.unusedVariables false
set_option linter.unusedSimpArgs false
namespace Go.Ev.S
open Go Go.Ev
def zbs.d (K : Bool → List UInt8 → List UInt8 → Int → Prop) : Prop :=
  K false [] [1] 0
noncomputable def zbs := shut zbs.d
theorem zbs.is : zbs = zbs.d := shut_is _
def zbw.d (a0 : List UInt8) (K : Bool → Prop) : Prop :=
  br (!eqS a0 []) (gd (leI 0 (yaw IntKind.i64 (↑(List.length a0)) 1) && ltI (yaw IntKind.i64 (↑(List.length a0)) 1) ↑(List.length a0)) (K (eqI (ydM IntKind.u8 (yap a0 (Int.toNat (yaw IntKind.i64 (↑(List.length a0)) 1))) 1) 1))) (K false)
noncomputable def zbw := shut zbw.d
theorem zbw.is : zbw = zbw.d := shut_is _
def zbr.d (a0_0 : Bool) (a0_1 : List UInt8) (a0_2 : List UInt8) (a0_3 : Int) (K : Bool → Prop) : Prop :=
  zbj a0_1 fun y0 => br (!y0) (K false) (zbj a0_2 fun y0 => br (!y0) (K false) (zbw a0_2 fun y0 => br (!y0) (K false) (br (ltI a0_3 (-1048576)) (K false) (br (ltI 1048576 a0_3) (K false) (br (eqS a0_1 []) (zbs fun y0 y1 y2 y3 => K (yeP a0_0 y0 && (eqS a0_1 y1 && (eqS a0_2 y2 && eqI a0_3 y3)))) (zbw a0_1 fun y0 => br y0 (zbg a0_1 a0_2 fun y0 => K (eqS y0 [1])) (K false)))))))
noncomputable def zbr := shut zbr.d
theorem zbr.is : zbr = zbr.d := shut_is _
def zbv.l4.step (again : Int → List UInt8 → Prop) (k0 : Int → List UInt8 → Prop) (x0 : Int) (x1 : List UInt8) : Prop :=
  br (ltI 9 x0) (gd (leI 0 (ycn IntKind.i64 x0 10) && (leI (ycn IntKind.i64 x0 10) (yal IntKind.i64 (ycn IntKind.i64 x0 10) 1) && leI (yal IntKind.i64 (ycn IntKind.i64 x0 10) 1) 10)) (gd (leI (↑(List.length (ync [48, 49, 50, 51, 52, 53, 54, 55, 56, 57] (Int.toNat (ycn IntKind.i64 x0 10)) (Int.toNat (yal IntKind.i64 (ycn IntKind.i64 x0 10) 1)))) + ↑(List.length x1)) 9223372036854775807) (again (ya1 IntKind.i64 x0 10) (ync [48, 49, 50, 51, 52, 53, 54, 55, 56, 57] (Int.toNat (ycn IntKind.i64 x0 10)) (Int.toNat (yal IntKind.i64 (ycn IntKind.i64 x0 10) 1)) ++ x1)))) (k0 x0 x1)
def zbv.l4 (k0 : Int → List UInt8 → Prop) : Nat → Int → List UInt8 → Prop
  | 0 => fun _ _ => False
  | n + 1 => zbv.l4.step (zbv.l4 k0 n) k0
def zbv.l4.entry : yao := ⟨LV.mk 9 [(0, 9)] 4 0 false, 0, 28, fun vs H K => match vs, H with
  | [EV.int IntKind.i64 x0, EV.str x1], [] => ∃ n, zbv.l4 (fun y0 y1 => K (.exit 0) [EV.int IntKind.i64 y0, EV.str y1] []) n x0 x1
  | _, _ => False⟩
def zbv.d (a0 : Int) (K : List UInt8 → Prop) : Prop :=
  br (ltI a0 0) False (∃ n, zbv.l4 (fun y0 y1 => gd (leI 0 y0 && (leI y0 (yal IntKind.i64 y0 1) && leI (yal IntKind.i64 y0 1) 10)) (gd (leI (↑(List.length (ync [48, 49, 50, 51, 52, 53, 54, 55, 56, 57] (Int.toNat y0) (Int.toNat (yal IntKind.i64 y0 1)))) + ↑(List.length y1)) 9223372036854775807) (K (ync [48, 49, 50, 51, 52, 53, 54, 55, 56, 57] (Int.toNat y0) (Int.toNat (yal IntKind.i64 y0 1)) ++ y1)))) n a0 [])
noncomputable def zbv := shut zbv.d
theorem zbv.is : zbv = zbv.d := shut_is _
def zbu.l4.step (again : Int → List UInt8 → Prop) (k0 : Int → List UInt8 → Prop) (x0 : Int) (x1 : List UInt8) : Prop :=
  br (ltI 9 x0) (gd (leI 0 (ycn IntKind.i64 x0 10) && (leI (ycn IntKind.i64 x0 10) (yal IntKind.i64 (ycn IntKind.i64 x0 10) 1) && leI (yal IntKind.i64 (ycn IntKind.i64 x0 10) 1) 10)) (gd (leI (↑(List.length (ync [48, 49, 50, 51, 52, 53, 54, 55, 56, 57] (Int.toNat (ycn IntKind.i64 x0 10)) (Int.toNat (yal IntKind.i64 (ycn IntKind.i64 x0 10) 1)))) + ↑(List.length x1)) 9223372036854775807) (again (ya1 IntKind.i64 x0 10) (ync [48, 49, 50, 51, 52, 53, 54, 55, 56, 57] (Int.toNat (ycn IntKind.i64 x0 10)) (Int.toNat (yal IntKind.i64 (ycn IntKind.i64 x0 10) 1)) ++ x1)))) (k0 x0 x1)
def zbu.l4 (k0 : Int → List UInt8 → Prop) : Nat → Int → List UInt8 → Prop
  | 0 => fun _ _ => False
  | n + 1 => zbu.l4.step (zbu.l4 k0 n) k0
def zbu.l4.entry : yao := ⟨LV.mk 9 [(0, 9)] 4 0 false, 0, 28, fun vs H K => match vs, H with
  | [EV.int IntKind.i64 x0, EV.str x1], [] => ∃ n, zbu.l4 (fun y0 y1 => K (.exit 0) [EV.int IntKind.i64 y0, EV.str y1] []) n x0 x1
  | _, _ => False⟩
def zbu.d (a0 : Int) (K : List UInt8 → Prop) : Prop :=
  br (ltI a0 0) (zbv (yoU IntKind.i64 a0) fun y0 => gd (leI (1 + ↑(List.length y0)) 9223372036854775807) (K ([45] ++ y0))) (∃ n, zbu.l4 (fun y0 y1 => gd (leI 0 y0 && (leI y0 (yal IntKind.i64 y0 1) && leI (yal IntKind.i64 y0 1) 10)) (gd (leI (↑(List.length (ync [48, 49, 50, 51, 52, 53, 54, 55, 56, 57] (Int.toNat y0) (Int.toNat (yal IntKind.i64 y0 1)))) + ↑(List.length y1)) 9223372036854775807) (K (ync [48, 49, 50, 51, 52, 53, 54, 55, 56, 57] (Int.toNat y0) (Int.toNat (yal IntKind.i64 y0 1)) ++ y1)))) n a0 [])
noncomputable def zbu := shut zbu.d
theorem zbu.is : zbu = zbu.d := shut_is _
def zbt.d (a0_0 : Bool) (a0_1 : List UInt8) (a0_2 : List UInt8) (a0_3 : Int) (K : List UInt8 → Prop) : Prop :=
  br a0_0 (zbl a0_1 fun y0 => gd (leI (1 + ↑(List.length y0)) 9223372036854775807) (gd (leI (↑(List.length ([45] ++ y0)) + 1) 9223372036854775807) (zbl a0_2 fun y0_1 => gd (leI (↑(List.length ([45] ++ y0 ++ [47])) + ↑(List.length y0_1)) 9223372036854775807) (gd (leI (↑(List.length ([45] ++ y0 ++ [47] ++ y0_1)) + 1) 9223372036854775807) (zbu a0_3 fun y0_2 => gd (leI (↑(List.length ([45] ++ y0 ++ [47] ++ y0_1 ++ [112])) + ↑(List.length y0_2)) 9223372036854775807) (K ([45] ++ y0 ++ [47] ++ y0_1 ++ [112] ++ y0_2))))))) (zbl a0_1 fun y0 => gd (leI (0 + ↑(List.length y0)) 9223372036854775807) (gd (leI (↑(List.length ([] ++ y0)) + 1) 9223372036854775807) (zbl a0_2 fun y0_1 => gd (leI (↑(List.length ([] ++ y0 ++ [47])) + ↑(List.length y0_1)) 9223372036854775807) (gd (leI (↑(List.length ([] ++ y0 ++ [47] ++ y0_1)) + 1) 9223372036854775807) (zbu a0_3 fun y0_2 => gd (leI (↑(List.length ([] ++ y0 ++ [47] ++ y0_1 ++ [112])) + ↑(List.length y0_2)) 9223372036854775807) (K ([] ++ y0 ++ [47] ++ y0_1 ++ [112] ++ y0_2)))))))
noncomputable def zbt := shut zbt.d
theorem zbt.is : zbt = zbt.d := shut_is _
end Go.Ev.S

/- The functions as the evaluator has them: what each comes to. -/
set_option maxRecDepth 100000
set_option linter.unusedVariables false
set_option linter.unusedSimpArgs false
namespace Go.Ev.S
open Go Go.Ev
def zaj.d (K : Bool → Prop) : Prop :=
  zad false [6] [4] 0 fun y0 y1 y2 y3 y4 => zad false [1] [] 0 fun y0_1 y1_1 y2_1 y3_1 y4_1 => br (eqI y4 0) (br (yeP y0 false && (eqS y1 [3] && (eqS y2 [1] && eqI y3 (-1)))) (K (eqI y4_1 2)) (K false)) (K false)
noncomputable def zaj := shut zaj.d
theorem zaj.is : zaj = zaj.d := shut_is _
def zak.d (a0_0 : Bool) (a0_1 : List UInt8) (a0_2 : List UInt8) (a0_3 : Int) (a1 : Int) (K : Bool → Prop) : Prop :=
  br (leI (↑(List.length a0_1)) a1) (K (leI (↑(List.length a0_2)) a1)) (K false)
noncomputable def zak := shut zak.d
theorem zak.is : zak = zak.d := shut_is _
def zai.d (a0_0 : Bool) (a0_1 : List UInt8) (a0_2 : List UInt8) (a0_3 : Int) (K : Bool → Prop) : Prop :=
  zak a0_0 a0_1 a0_2 a0_3 80 fun y0 => br (!y0) (zaj fun y0 => K y0) (zae a0_0 a0_1 a0_2 a0_3 fun y0 y1 => zbr a0_0 a0_1 a0_2 a0_3 fun y0_1 => br (!y0_1) (br (eqS y0 []) (br (eqI y1 2) (zaj fun y0 => K y0) (K false)) (K false)) (zbt a0_0 a0_1 a0_2 a0_3 fun y0_2 => br (eqS y0 y0_2) (br (eqI y1 0) (zaj fun y0 => K y0) (K false)) (K false)))
noncomputable def zai := shut zai.d
theorem zai.is : zai = zai.d := shut_is _
end Go.Ev.S

/- The functions as the evaluator has them: what each comes to. -/
set_option maxRecDepth 100000
set_option linter.unusedVariables false
set_option linter.unusedSimpArgs false
namespace Go.Ev.S
open Go Go.Ev
end Go.Ev.S

/- The functions as the evaluator has them: what each comes to. -/
set_option maxRecDepth 100000
set_option linter.unusedVariables false
set_option linter.unusedSimpArgs false
namespace Go.Ev.S
open Go Go.Ev
end Go.Ev.S

/- The functions as the evaluator has them: what each comes to. -/
set_option maxRecDepth 100000
set_option linter.unusedVariables false
set_option linter.unusedSimpArgs false
namespace Go.Ev.S
open Go Go.Ev
end Go.Ev.S

/- The functions as the evaluator has them: what each comes to. -/
set_option maxRecDepth 100000
set_option linter.unusedVariables false
set_option linter.unusedSimpArgs false
namespace Go.Ev.S
open Go Go.Ev
end Go.Ev.S

/- The functions as the evaluator has them: what each comes to. -/
set_option maxRecDepth 100000
set_option linter.unusedVariables false
set_option linter.unusedSimpArgs false
namespace Go.Ev.S
open Go Go.Ev
end Go.Ev.S

/- The functions as the evaluator has them: what each comes to. -/
set_option maxRecDepth 100000
set_option linter.unusedVariables false
set_option linter.unusedSimpArgs false
namespace Go.Ev.S
open Go Go.Ev
end Go.Ev.S

/- The functions as the evaluator has them: what each comes to. -/
set_option maxRecDepth 100000
set_option linter.unusedVariables false
set_option linter.unusedSimpArgs false
namespace Go.Ev.S
open Go Go.Ev
end Go.Ev.S

/- The functions as the evaluator has them: what each comes to. -/
set_option maxRecDepth 100000
set_option linter.unusedVariables false
set_option linter.unusedSimpArgs false
namespace Go.Ev.S
open Go Go.Ev
end Go.Ev.S

/- The functions as the evaluator has them: what each comes to. -/
set_option maxRecDepth 100000
set_option linter.unusedVariables false
set_option linter.unusedSimpArgs false
namespace Go.Ev.S
open Go Go.Ev
end Go.Ev.S

/- The functions as the evaluator has them: what each comes to. -/
set_option maxRecDepth 100000
set_option linter.unusedVariables false
set_option linter.unusedSimpArgs false
namespace Go.Ev.S
open Go Go.Ev
end Go.Ev.S

/- The functions as the evaluator has them: what each comes to. -/
set_option maxRecDepth 100000
set_option linter.unusedVariables false
set_option linter.unusedSimpArgs false
namespace Go.Ev.S
open Go Go.Ev
end Go.Ev.S

/- The functions as the evaluator has them: what each comes to. -/
set_option maxRecDepth 100000
set_option linter.unusedVariables false
set_option linter.unusedSimpArgs false
namespace Go.Ev.S
open Go Go.Ev
end Go.Ev.S

/- The functions as the evaluator has them: what each comes to. -/
set_option maxRecDepth 100000
set_option linter.unusedVariables false
set_option linter.unusedSimpArgs false
namespace Go.Ev.S
open Go Go.Ev
end Go.Ev.S

/- The functions as the evaluator has them: what each comes to. -/
set_option maxRecDepth 100000
set_option linter.unusedVariables false
set_option linter.unusedSimpArgs false
namespace Go.Ev.S
open Go Go.Ev
end Go.Ev.S

/- The functions as the evaluator has them: what each comes to. -/
set_option maxRecDepth 100000
set_option linter.unusedVariables false
set_option linter.unusedSimpArgs false
namespace Go.Ev.S
open Go Go.Ev
end Go.Ev.S
