/- The functions as the evaluator has them: what each comes to. -/
import Derived.Test.YtnomdgcpklbcfaaDoorEvC
set_option maxRecDepth 100000
set_option linter.unusedVariables false
set_option linter.unusedSimpArgs false
namespace Go.Ev.S
open Go Go.Ev
noncomputable def shut {α : Type} (d : α) : α := Classical.choose (⟨d, rfl⟩ : ∃ f, f = d)
theorem shut_is {α : Type} (d : α) : shut d = d := Classical.choose_spec (⟨d, rfl⟩ : ∃ f, f = d)
def zaa.d (a0 : Int) (K : Int → Prop) : Prop :=
  br (leI 4294967296 a0) (br (leI 65536 (shrI IntKind.u64 a0 32)) (br (leI 256 (shrI IntKind.u64 (shrI IntKind.u64 a0 32) 16)) (gd (leI 0 (cvI IntKind.u8 (shrI IntKind.u64 (shrI IntKind.u64 (shrI IntKind.u64 a0 32) 16) 8)) && ltI (cvI IntKind.u8 (shrI IntKind.u64 (shrI IntKind.u64 (shrI IntKind.u64 a0 32) 16) 8)) 256) (K (addI IntKind.i64 56 (cvI IntKind.i64 (byteAt [0, 1, 2, 2, 3, 3, 3, 3, 4, 4, 4, 4, 4, 4, 4, 4, 5, 5, 5, 5, 5, 5, 5, 5, 5, 5, 5, 5, 5, 5, 5, 5, 6, 6, 6, 6, 6, 6, 6, 6, 6, 6, 6, 6, 6, 6, 6, 6, 6, 6, 6, 6, 6, 6, 6, 6, 6, 6, 6, 6, 6, 6, 6, 6, 7, 7, 7, 7, 7, 7, 7, 7, 7, 7, 7, 7, 7, 7, 7, 7, 7, 7, 7, 7, 7, 7, 7, 7, 7, 7, 7, 7, 7, 7, 7, 7, 7, 7, 7, 7, 7, 7, 7, 7, 7, 7, 7, 7, 7, 7, 7, 7, 7, 7, 7, 7, 7, 7, 7, 7, 7, 7, 7, 7, 7, 7, 7, 7, 8, 8, 8, 8, 8, 8, 8, 8, 8, 8, 8, 8, 8, 8, 8, 8, 8, 8, 8, 8, 8, 8, 8, 8, 8, 8, 8, 8, 8, 8, 8, 8, 8, 8, 8, 8, 8, 8, 8, 8, 8, 8, 8, 8, 8, 8, 8, 8, 8, 8, 8, 8, 8, 8, 8, 8, 8, 8, 8, 8, 8, 8, 8, 8, 8, 8, 8, 8, 8, 8, 8, 8, 8, 8, 8, 8, 8, 8, 8, 8, 8, 8, 8, 8, 8, 8, 8, 8, 8, 8, 8, 8, 8, 8, 8, 8, 8, 8, 8, 8, 8, 8, 8, 8, 8, 8, 8, 8, 8, 8, 8, 8, 8, 8, 8, 8, 8, 8, 8, 8, 8, 8, 8, 8, 8, 8, 8, 8] (Int.toNat (cvI IntKind.u8 (shrI IntKind.u64 (shrI IntKind.u64 (shrI IntKind.u64 a0 32) 16) 8)))))))) (gd (leI 0 (cvI IntKind.u8 (shrI IntKind.u64 (shrI IntKind.u64 a0 32) 16)) && ltI (cvI IntKind.u8 (shrI IntKind.u64 (shrI IntKind.u64 a0 32) 16)) 256) (K (addI IntKind.i64 48 (cvI IntKind.i64 (byteAt [0, 1, 2, 2, 3, 3, 3, 3, 4, 4, 4, 4, 4, 4, 4, 4, 5, 5, 5, 5, 5, 5, 5, 5, 5, 5, 5, 5, 5, 5, 5, 5, 6, 6, 6, 6, 6, 6, 6, 6, 6, 6, 6, 6, 6, 6, 6, 6, 6, 6, 6, 6, 6, 6, 6, 6, 6, 6, 6, 6, 6, 6, 6, 6, 7, 7, 7, 7, 7, 7, 7, 7, 7, 7, 7, 7, 7, 7, 7, 7, 7, 7, 7, 7, 7, 7, 7, 7, 7, 7, 7, 7, 7, 7, 7, 7, 7, 7, 7, 7, 7, 7, 7, 7, 7, 7, 7, 7, 7, 7, 7, 7, 7, 7, 7, 7, 7, 7, 7, 7, 7, 7, 7, 7, 7, 7, 7, 7, 8, 8, 8, 8, 8, 8, 8, 8, 8, 8, 8, 8, 8, 8, 8, 8, 8, 8, 8, 8, 8, 8, 8, 8, 8, 8, 8, 8, 8, 8, 8, 8, 8, 8, 8, 8, 8, 8, 8, 8, 8, 8, 8, 8, 8, 8, 8, 8, 8, 8, 8, 8, 8, 8, 8, 8, 8, 8, 8, 8, 8, 8, 8, 8, 8, 8, 8, 8, 8, 8, 8, 8, 8, 8, 8, 8, 8, 8, 8, 8, 8, 8, 8, 8, 8, 8, 8, 8, 8, 8, 8, 8, 8, 8, 8, 8, 8, 8, 8, 8, 8, 8, 8, 8, 8, 8, 8, 8, 8, 8, 8, 8, 8, 8, 8, 8, 8, 8, 8, 8, 8, 8, 8, 8, 8, 8, 8, 8] (Int.toNat (cvI IntKind.u8 (shrI IntKind.u64 (shrI IntKind.u64 a0 32) 16))))))))) (br (leI 256 (shrI IntKind.u64 a0 32)) (gd (leI 0 (cvI IntKind.u8 (shrI IntKind.u64 (shrI IntKind.u64 a0 32) 8)) && ltI (cvI IntKind.u8 (shrI IntKind.u64 (shrI IntKind.u64 a0 32) 8)) 256) (K (addI IntKind.i64 40 (cvI IntKind.i64 (byteAt [0, 1, 2, 2, 3, 3, 3, 3, 4, 4, 4, 4, 4, 4, 4, 4, 5, 5, 5, 5, 5, 5, 5, 5, 5, 5, 5, 5, 5, 5, 5, 5, 6, 6, 6, 6, 6, 6, 6, 6, 6, 6, 6, 6, 6, 6, 6, 6, 6, 6, 6, 6, 6, 6, 6, 6, 6, 6, 6, 6, 6, 6, 6, 6, 7, 7, 7, 7, 7, 7, 7, 7, 7, 7, 7, 7, 7, 7, 7, 7, 7, 7, 7, 7, 7, 7, 7, 7, 7, 7, 7, 7, 7, 7, 7, 7, 7, 7, 7, 7, 7, 7, 7, 7, 7, 7, 7, 7, 7, 7, 7, 7, 7, 7, 7, 7, 7, 7, 7, 7, 7, 7, 7, 7, 7, 7, 7, 7, 8, 8, 8, 8, 8, 8, 8, 8, 8, 8, 8, 8, 8, 8, 8, 8, 8, 8, 8, 8, 8, 8, 8, 8, 8, 8, 8, 8, 8, 8, 8, 8, 8, 8, 8, 8, 8, 8, 8, 8, 8, 8, 8, 8, 8, 8, 8, 8, 8, 8, 8, 8, 8, 8, 8, 8, 8, 8, 8, 8, 8, 8, 8, 8, 8, 8, 8, 8, 8, 8, 8, 8, 8, 8, 8, 8, 8, 8, 8, 8, 8, 8, 8, 8, 8, 8, 8, 8, 8, 8, 8, 8, 8, 8, 8, 8, 8, 8, 8, 8, 8, 8, 8, 8, 8, 8, 8, 8, 8, 8, 8, 8, 8, 8, 8, 8, 8, 8, 8, 8, 8, 8, 8, 8, 8, 8, 8, 8] (Int.toNat (cvI IntKind.u8 (shrI IntKind.u64 (shrI IntKind.u64 a0 32) 8)))))))) (gd (leI 0 (cvI IntKind.u8 (shrI IntKind.u64 a0 32)) && ltI (cvI IntKind.u8 (shrI IntKind.u64 a0 32)) 256) (K (addI IntKind.i64 32 (cvI IntKind.i64 (byteAt [0, 1, 2, 2, 3, 3, 3, 3, 4, 4, 4, 4, 4, 4, 4, 4, 5, 5, 5, 5, 5, 5, 5, 5, 5, 5, 5, 5, 5, 5, 5, 5, 6, 6, 6, 6, 6, 6, 6, 6, 6, 6, 6, 6, 6, 6, 6, 6, 6, 6, 6, 6, 6, 6, 6, 6, 6, 6, 6, 6, 6, 6, 6, 6, 7, 7, 7, 7, 7, 7, 7, 7, 7, 7, 7, 7, 7, 7, 7, 7, 7, 7, 7, 7, 7, 7, 7, 7, 7, 7, 7, 7, 7, 7, 7, 7, 7, 7, 7, 7, 7, 7, 7, 7, 7, 7, 7, 7, 7, 7, 7, 7, 7, 7, 7, 7, 7, 7, 7, 7, 7, 7, 7, 7, 7, 7, 7, 7, 8, 8, 8, 8, 8, 8, 8, 8, 8, 8, 8, 8, 8, 8, 8, 8, 8, 8, 8, 8, 8, 8, 8, 8, 8, 8, 8, 8, 8, 8, 8, 8, 8, 8, 8, 8, 8, 8, 8, 8, 8, 8, 8, 8, 8, 8, 8, 8, 8, 8, 8, 8, 8, 8, 8, 8, 8, 8, 8, 8, 8, 8, 8, 8, 8, 8, 8, 8, 8, 8, 8, 8, 8, 8, 8, 8, 8, 8, 8, 8, 8, 8, 8, 8, 8, 8, 8, 8, 8, 8, 8, 8, 8, 8, 8, 8, 8, 8, 8, 8, 8, 8, 8, 8, 8, 8, 8, 8, 8, 8, 8, 8, 8, 8, 8, 8, 8, 8, 8, 8, 8, 8, 8, 8, 8, 8, 8, 8] (Int.toNat (cvI IntKind.u8 (shrI IntKind.u64 a0 32)))))))))) (br (leI 65536 a0) (br (leI 256 (shrI IntKind.u64 a0 16)) (gd (leI 0 (cvI IntKind.u8 (shrI IntKind.u64 (shrI IntKind.u64 a0 16) 8)) && ltI (cvI IntKind.u8 (shrI IntKind.u64 (shrI IntKind.u64 a0 16) 8)) 256) (K (addI IntKind.i64 24 (cvI IntKind.i64 (byteAt [0, 1, 2, 2, 3, 3, 3, 3, 4, 4, 4, 4, 4, 4, 4, 4, 5, 5, 5, 5, 5, 5, 5, 5, 5, 5, 5, 5, 5, 5, 5, 5, 6, 6, 6, 6, 6, 6, 6, 6, 6, 6, 6, 6, 6, 6, 6, 6, 6, 6, 6, 6, 6, 6, 6, 6, 6, 6, 6, 6, 6, 6, 6, 6, 7, 7, 7, 7, 7, 7, 7, 7, 7, 7, 7, 7, 7, 7, 7, 7, 7, 7, 7, 7, 7, 7, 7, 7, 7, 7, 7, 7, 7, 7, 7, 7, 7, 7, 7, 7, 7, 7, 7, 7, 7, 7, 7, 7, 7, 7, 7, 7, 7, 7, 7, 7, 7, 7, 7, 7, 7, 7, 7, 7, 7, 7, 7, 7, 8, 8, 8, 8, 8, 8, 8, 8, 8, 8, 8, 8, 8, 8, 8, 8, 8, 8, 8, 8, 8, 8, 8, 8, 8, 8, 8, 8, 8, 8, 8, 8, 8, 8, 8, 8, 8, 8, 8, 8, 8, 8, 8, 8, 8, 8, 8, 8, 8, 8, 8, 8, 8, 8, 8, 8, 8, 8, 8, 8, 8, 8, 8, 8, 8, 8, 8, 8, 8, 8, 8, 8, 8, 8, 8, 8, 8, 8, 8, 8, 8, 8, 8, 8, 8, 8, 8, 8, 8, 8, 8, 8, 8, 8, 8, 8, 8, 8, 8, 8, 8, 8, 8, 8, 8, 8, 8, 8, 8, 8, 8, 8, 8, 8, 8, 8, 8, 8, 8, 8, 8, 8, 8, 8, 8, 8, 8, 8] (Int.toNat (cvI IntKind.u8 (shrI IntKind.u64 (shrI IntKind.u64 a0 16) 8)))))))) (gd (leI 0 (cvI IntKind.u8 (shrI IntKind.u64 a0 16)) && ltI (cvI IntKind.u8 (shrI IntKind.u64 a0 16)) 256) (K (addI IntKind.i64 16 (cvI IntKind.i64 (byteAt [0, 1, 2, 2, 3, 3, 3, 3, 4, 4, 4, 4, 4, 4, 4, 4, 5, 5, 5, 5, 5, 5, 5, 5, 5, 5, 5, 5, 5, 5, 5, 5, 6, 6, 6, 6, 6, 6, 6, 6, 6, 6, 6, 6, 6, 6, 6, 6, 6, 6, 6, 6, 6, 6, 6, 6, 6, 6, 6, 6, 6, 6, 6, 6, 7, 7, 7, 7, 7, 7, 7, 7, 7, 7, 7, 7, 7, 7, 7, 7, 7, 7, 7, 7, 7, 7, 7, 7, 7, 7, 7, 7, 7, 7, 7, 7, 7, 7, 7, 7, 7, 7, 7, 7, 7, 7, 7, 7, 7, 7, 7, 7, 7, 7, 7, 7, 7, 7, 7, 7, 7, 7, 7, 7, 7, 7, 7, 7, 8, 8, 8, 8, 8, 8, 8, 8, 8, 8, 8, 8, 8, 8, 8, 8, 8, 8, 8, 8, 8, 8, 8, 8, 8, 8, 8, 8, 8, 8, 8, 8, 8, 8, 8, 8, 8, 8, 8, 8, 8, 8, 8, 8, 8, 8, 8, 8, 8, 8, 8, 8, 8, 8, 8, 8, 8, 8, 8, 8, 8, 8, 8, 8, 8, 8, 8, 8, 8, 8, 8, 8, 8, 8, 8, 8, 8, 8, 8, 8, 8, 8, 8, 8, 8, 8, 8, 8, 8, 8, 8, 8, 8, 8, 8, 8, 8, 8, 8, 8, 8, 8, 8, 8, 8, 8, 8, 8, 8, 8, 8, 8, 8, 8, 8, 8, 8, 8, 8, 8, 8, 8, 8, 8, 8, 8, 8, 8] (Int.toNat (cvI IntKind.u8 (shrI IntKind.u64 a0 16))))))))) (br (leI 256 a0) (gd (leI 0 (cvI IntKind.u8 (shrI IntKind.u64 a0 8)) && ltI (cvI IntKind.u8 (shrI IntKind.u64 a0 8)) 256) (K (addI IntKind.i64 8 (cvI IntKind.i64 (byteAt [0, 1, 2, 2, 3, 3, 3, 3, 4, 4, 4, 4, 4, 4, 4, 4, 5, 5, 5, 5, 5, 5, 5, 5, 5, 5, 5, 5, 5, 5, 5, 5, 6, 6, 6, 6, 6, 6, 6, 6, 6, 6, 6, 6, 6, 6, 6, 6, 6, 6, 6, 6, 6, 6, 6, 6, 6, 6, 6, 6, 6, 6, 6, 6, 7, 7, 7, 7, 7, 7, 7, 7, 7, 7, 7, 7, 7, 7, 7, 7, 7, 7, 7, 7, 7, 7, 7, 7, 7, 7, 7, 7, 7, 7, 7, 7, 7, 7, 7, 7, 7, 7, 7, 7, 7, 7, 7, 7, 7, 7, 7, 7, 7, 7, 7, 7, 7, 7, 7, 7, 7, 7, 7, 7, 7, 7, 7, 7, 8, 8, 8, 8, 8, 8, 8, 8, 8, 8, 8, 8, 8, 8, 8, 8, 8, 8, 8, 8, 8, 8, 8, 8, 8, 8, 8, 8, 8, 8, 8, 8, 8, 8, 8, 8, 8, 8, 8, 8, 8, 8, 8, 8, 8, 8, 8, 8, 8, 8, 8, 8, 8, 8, 8, 8, 8, 8, 8, 8, 8, 8, 8, 8, 8, 8, 8, 8, 8, 8, 8, 8, 8, 8, 8, 8, 8, 8, 8, 8, 8, 8, 8, 8, 8, 8, 8, 8, 8, 8, 8, 8, 8, 8, 8, 8, 8, 8, 8, 8, 8, 8, 8, 8, 8, 8, 8, 8, 8, 8, 8, 8, 8, 8, 8, 8, 8, 8, 8, 8, 8, 8, 8, 8, 8, 8, 8, 8] (Int.toNat (cvI IntKind.u8 (shrI IntKind.u64 a0 8)))))))) (gd (leI 0 (cvI IntKind.u8 a0) && ltI (cvI IntKind.u8 a0) 256) (K (addI IntKind.i64 0 (cvI IntKind.i64 (byteAt [0, 1, 2, 2, 3, 3, 3, 3, 4, 4, 4, 4, 4, 4, 4, 4, 5, 5, 5, 5, 5, 5, 5, 5, 5, 5, 5, 5, 5, 5, 5, 5, 6, 6, 6, 6, 6, 6, 6, 6, 6, 6, 6, 6, 6, 6, 6, 6, 6, 6, 6, 6, 6, 6, 6, 6, 6, 6, 6, 6, 6, 6, 6, 6, 7, 7, 7, 7, 7, 7, 7, 7, 7, 7, 7, 7, 7, 7, 7, 7, 7, 7, 7, 7, 7, 7, 7, 7, 7, 7, 7, 7, 7, 7, 7, 7, 7, 7, 7, 7, 7, 7, 7, 7, 7, 7, 7, 7, 7, 7, 7, 7, 7, 7, 7, 7, 7, 7, 7, 7, 7, 7, 7, 7, 7, 7, 7, 7, 8, 8, 8, 8, 8, 8, 8, 8, 8, 8, 8, 8, 8, 8, 8, 8, 8, 8, 8, 8, 8, 8, 8, 8, 8, 8, 8, 8, 8, 8, 8, 8, 8, 8, 8, 8, 8, 8, 8, 8, 8, 8, 8, 8, 8, 8, 8, 8, 8, 8, 8, 8, 8, 8, 8, 8, 8, 8, 8, 8, 8, 8, 8, 8, 8, 8, 8, 8, 8, 8, 8, 8, 8, 8, 8, 8, 8, 8, 8, 8, 8, 8, 8, 8, 8, 8, 8, 8, 8, 8, 8, 8, 8, 8, 8, 8, 8, 8, 8, 8, 8, 8, 8, 8, 8, 8, 8, 8, 8, 8, 8, 8, 8, 8, 8, 8, 8, 8, 8, 8, 8, 8, 8, 8, 8, 8, 8, 8] (Int.toNat (cvI IntKind.u8 a0)))))))))
noncomputable def zaa := shut zaa.d
theorem zaa.is : zaa = zaa.d := shut_is _
def zab.d (a0 : Int) (K : Int → Prop) : Prop :=
  br (eqI a0 0) (K 64) ((leI 0 (shrI IntKind.u64 (mulI IntKind.u64 (andI IntKind.u64 a0 (negI IntKind.u64 a0)) 285870213051353865) 58) && ltI (shrI IntKind.u64 (mulI IntKind.u64 (andI IntKind.u64 a0 (negI IntKind.u64 a0)) 285870213051353865) 58) 64) = true ∧ K (cvI IntKind.i64 (tab_deBruijn64tab (Int.toNat (shrI IntKind.u64 (mulI IntKind.u64 (andI IntKind.u64 a0 (negI IntKind.u64 a0)) 285870213051353865) 58)))))
noncomputable def zab := shut zab.d
theorem zab.is : zab = zab.d := shut_is _
end Go.Ev.S

/- The functions as the evaluator has them: what each comes to. -/
set_option maxRecDepth 100000
set_option linter.unusedVariables false
set_option linter.unusedSimpArgs false
namespace Go.Ev.S
open Go Go.Ev
def zdt.d (a0 : Int) (K : Int → Prop) : Prop :=
  zaa a0 fun y0 => K y0
noncomputable def zdt := shut zdt.d
theorem zdt.is : zdt = zdt.d := shut_is _
def zdu.d (a0 : Int) (K : Int → Prop) : Prop :=
  zab a0 fun y0 => K y0
noncomputable def zdu := shut zdu.d
theorem zdu.is : zdu = zdu.d := shut_is _
def zdw.d (a0 : Int) (K : Int → Prop) : Prop :=
  K (cvI IntKind.u64 (minI (maxI a0 0) 64))
noncomputable def zdw := shut zdw.d
theorem zdw.is : zdw = zdw.d := shut_is _
def zdv.d (a0 : Int) (K : Int → Prop) : Prop :=
  zdw a0 fun y0 => gd (!ltI y0 0) (K (subI IntKind.u64 (shlI IntKind.u64 1 y0) 1))
noncomputable def zdv := shut zdv.d
theorem zdv.is : zdv = zdv.d := shut_is _
end Go.Ev.S

/- The functions as the evaluator has them: what each comes to. -/
set_option maxRecDepth 100000
set_option linter.unusedVariables false
set_option linter.unusedSimpArgs false
namespace Go.Ev.S
open Go Go.Ev
def zdk.l2.step (again : Int → (Nat → Int) → (Nat → Int) → (Nat → Int) → Prop) (k0 : (Nat → Int) → (Nat → Int) → Prop) (x0 : Int) (x1 : Nat → Int) (x2 : Nat → Int) (x3 : Nat → Int) : Prop :=
  br (ltI x0 6) (gd (leI 0 x0 && ltI x0 6) (gd (leI 0 x0 && ltI x0 6) (gd (leI 0 x0 && ltI x0 6) (again (addI IntKind.i64 x0 1) (upd x1 (Int.toNat x0) (andI IntKind.u64 (x1 (Int.toNat x0)) (x2 (Int.toNat x0)))) x2 x3)))) (k0 x1 x3)
def zdk.l2 (k0 : (Nat → Int) → (Nat → Int) → Prop) : Nat → Int → (Nat → Int) → (Nat → Int) → (Nat → Int) → Prop
  | 0 => fun _ _ _ _ => False
  | n + 1 => zdk.l2.step (zdk.l2 k0 n) k0
def zdk.l2.entry : LoopEntry := ⟨LV.mk 20 [(0, 20)] 16 0 false, 0, 19, fun vs H K => match vs, H with
  | [EV.ptr 0 [], EV.ptr 1 [], EV.ptr 2 [], EV.int IntKind.i64 x0], [some (EV.arr IntKind.u64 6 x1), some (EV.arr IntKind.u64 6 x2), some (EV.arr IntKind.u64 6 x3)] => ∃ n, zdk.l2 (fun y0 y1 => K (.exit 0) [EV.ptr 0 [], EV.ptr 1 []] [some (EV.arr IntKind.u64 6 y0), some (EV.arr IntKind.u64 6 y1)]) n x0 x1 x2 x3
  | _, _ => False⟩
def zdk.d (a0 : Nat → Int) (a1 : Nat → Int) (K : (Nat → Int) → Prop) : Prop :=
  ∃ n, zdk.l2 (fun y0 y1 => K y0) n 0 a0 a1 fun x => 0
noncomputable def zdk := shut zdk.d
theorem zdk.is : zdk = zdk.d := shut_is _
def zdl.d (a0 : Nat → Int) (a1 : Int) (K : Bool → Prop) : Prop :=
  br (leI 0 a1) (br (ltI a1 384) (gd (leI 0 (quoI IntKind.i64 a1 64) && ltI (quoI IntKind.i64 a1 64) 6) (gd (!ltI (cvI IntKind.u64 (remI IntKind.i64 a1 64)) 0) (K (eqI (andI IntKind.u64 (shrI IntKind.u64 (a0 (Int.toNat (quoI IntKind.i64 a1 64))) (cvI IntKind.u64 (remI IntKind.i64 a1 64))) 1) 1)))) (K false)) (K false)
noncomputable def zdl := shut zdl.d
theorem zdl.is : zdl = zdl.d := shut_is _
def zdn.l2.step (again : Int → (Nat → Int) → Prop) (k0 : Int → Prop) (k1 : Prop) (x0 : Int) (x1 : Nat → Int) : Prop :=
  br (leI 0 x0) (gd (leI 0 x0 && ltI x0 6) (br (!eqI (x1 (Int.toNat x0)) 0) (gd (leI 0 x0 && ltI x0 6) (zdt (x1 (Int.toNat x0)) fun y0 => k0 (addI IntKind.i64 (mulI IntKind.i64 64 x0) y0))) (again (subI IntKind.i64 x0 1) x1))) k1
def zdn.l2 (k0 : Int → Prop) (k1 : Prop) : Nat → Int → (Nat → Int) → Prop
  | 0 => fun _ _ => False
  | n + 1 => zdn.l2.step (zdn.l2 k0 k1 n) k0 k1
def zdn.l2.entry : LoopEntry := ⟨LV.mk 0 [(0, 0)] 4 0 false, 0, 19, fun vs H K => match vs, H with
  | [EV.ptr 0 [], EV.int IntKind.i64 x0], [some (EV.arr IntKind.u64 6 x1)] => ∃ n, zdn.l2 (fun y0 => K .ret [EV.int IntKind.i64 y0] []) (K (.exit 0) [] []) n x0 x1
  | _, _ => False⟩
def zdn.d (a0 : Nat → Int) (K : Int → Prop) : Prop :=
  ∃ n, zdn.l2 (fun y0 => K y0) (K 0) n 5 a0
noncomputable def zdn := shut zdn.d
theorem zdn.is : zdn = zdn.d := shut_is _
def zds.d (a0 : Int) (K : Int → Prop) : Prop :=
  K (minI (maxI a0 0) 384)
noncomputable def zds := shut zds.d
theorem zds.is : zds = zds.d := shut_is _
def zdm.l5.step (again : Bool → Int → Int → Int → (Nat → Int) → (Nat → Int) → Prop) (k0 : Bool → (Nat → Int) → Prop) (x0 : Bool) (x1 : Int) (x2 : Int) (x3 : Int) (x4 : Nat → Int) (x5 : Nat → Int) : Prop :=
  br (leI x1 x3) (gd (leI 0 (subI IntKind.i64 x3 x1) && ltI (subI IntKind.i64 x3 x1) 6) (gd (!ltI x2 0) (gd (leI 0 x3 && ltI x3 6) (br (ltI x1 x3) (gd (leI 0 x3 && ltI x3 6) (gd (leI 0 (subI IntKind.i64 (subI IntKind.i64 x3 x1) 1) && ltI (subI IntKind.i64 (subI IntKind.i64 x3 x1) 1) 6) (gd (!ltI (subI IntKind.u64 64 x2) 0) (gd (leI 0 x3 && ltI x3 6) (again x0 x1 x2 (subI IntKind.i64 x3 1) x4 (upd (upd x5 (Int.toNat x3) (shlI IntKind.u64 (x4 (Int.toNat (subI IntKind.i64 x3 x1))) x2)) (Int.toNat x3) (orI IntKind.u64 (upd x5 (Int.toNat x3) (shlI IntKind.u64 (x4 (Int.toNat (subI IntKind.i64 x3 x1))) x2) (Int.toNat x3)) (shrI IntKind.u64 (x4 (Int.toNat (subI IntKind.i64 (subI IntKind.i64 x3 x1) 1))) (subI IntKind.u64 64 x2))))))))) (again x0 x1 x2 (subI IntKind.i64 x3 1) x4 (upd x5 (Int.toNat x3) (shlI IntKind.u64 (x4 (Int.toNat (subI IntKind.i64 x3 x1))) x2))))))) (k0 x0 x5)
def zdm.l5 (k0 : Bool → (Nat → Int) → Prop) : Nat → Bool → Int → Int → Int → (Nat → Int) → (Nat → Int) → Prop
  | 0 => fun _ _ _ _ _ _ => False
  | n + 1 => zdm.l5.step (zdm.l5 k0 n) k0
def zdm.l5.entry : LoopEntry := ⟨LV.mk 48 [(0, 48)] 48 0 false, 0, 59, fun vs H K => match vs, H with
  | [EV.ptr 0 [], EV.ptr 1 [], EV.bool x0, EV.int IntKind.i64 x1, EV.int IntKind.u64 x2, EV.int IntKind.i64 x3], [some (EV.arr IntKind.u64 6 x4), some (EV.arr IntKind.u64 6 x5)] => ∃ n, zdm.l5 (fun y0 y1 => K (.exit 0) [EV.ptr 0 [], EV.bool y0] [some (EV.arr IntKind.u64 6 y1)]) n x0 x1 x2 x3 x4 x5
  | _, _ => False⟩
def zdm.d (a0 : Nat → Int) (a1 : Int) (K : (Nat → Int) → Bool → Prop) : Prop :=
  zds a1 fun y0 => zdn a0 fun y0_1 => br (ltI 384 (addI IntKind.i64 y0_1 y0)) (∃ n, zdm.l5 (fun y0 y1 => K y1 y0) n (!eqN 6 a0 fun x => 0) (quoI IntKind.i64 y0 64) (cvI IntKind.u64 (remI IntKind.i64 y0 64)) 5 a0 fun x => 0) (∃ n, zdm.l5 (fun y0 y1 => K y1 y0) n false (quoI IntKind.i64 y0 64) (cvI IntKind.u64 (remI IntKind.i64 y0 64)) 5 a0 fun x => 0)
noncomputable def zdm := shut zdm.d
theorem zdm.is : zdm = zdm.d := shut_is _
def zdo.l4.step (again : Int → Int → (Nat → Int) → (Nat → Int) → Prop) (k0 : (Nat → Int) → (Nat → Int) → Prop) (x0 : Int) (x1 : Int) (x2 : Nat → Int) (x3 : Nat → Int) : Prop :=
  br (ltI x1 6) (zdv (subI IntKind.i64 x0 (mulI IntKind.i64 64 x1)) fun y0 => gd (leI 0 x1 && ltI x1 6) (again x0 (addI IntKind.i64 x1 1) x2 (upd x3 (Int.toNat x1) y0))) (k0 x2 x3)
def zdo.l4 (k0 : (Nat → Int) → (Nat → Int) → Prop) : Nat → Int → Int → (Nat → Int) → (Nat → Int) → Prop
  | 0 => fun _ _ _ _ => False
  | n + 1 => zdo.l4.step (zdo.l4 k0 n) k0
def zdo.l4.entry : LoopEntry := ⟨LV.mk 12 [(0, 12)] 4 0 false, 0, 19, fun vs H K => match vs, H with
  | [EV.int IntKind.i64 x0, EV.ptr 0 [], EV.ptr 1 [], EV.int IntKind.i64 x1], [some (EV.arr IntKind.u64 6 x2), some (EV.arr IntKind.u64 6 x3)] => ∃ n, zdo.l4 (fun y0 y1 => K (.exit 0) [EV.ptr 0 [], EV.ptr 1 []] [some (EV.arr IntKind.u64 6 y0), some (EV.arr IntKind.u64 6 y1)]) n x0 x1 x2 x3
  | _, _ => False⟩
def zdo.d (a0 : Int) (K : (Nat → Int) → Prop) : Prop :=
  zds a0 fun y0 => ∃ n, zdo.l4 (fun y0 y1 => K y1) n y0 0 (fun x => 0) fun x => 0
noncomputable def zdo := shut zdo.d
theorem zdo.is : zdo = zdo.d := shut_is _
def zdp.d (a0 : Int) (K : (Nat → Int) → Prop) : Prop :=
  K (upd (fun x => 0) 0 a0)
noncomputable def zdp := shut zdp.d
theorem zdp.is : zdp = zdp.d := shut_is _
def zdq.l2.step (again : Int → (Nat → Int) → (Nat → Int) → (Nat → Int) → Prop) (k0 : (Nat → Int) → (Nat → Int) → Prop) (x0 : Int) (x1 : Nat → Int) (x2 : Nat → Int) (x3 : Nat → Int) : Prop :=
  br (ltI x0 6) (gd (leI 0 x0 && ltI x0 6) (gd (leI 0 x0 && ltI x0 6) (gd (leI 0 x0 && ltI x0 6) (again (addI IntKind.i64 x0 1) (upd x1 (Int.toNat x0) (orI IntKind.u64 (x1 (Int.toNat x0)) (x2 (Int.toNat x0)))) x2 x3)))) (k0 x1 x3)
def zdq.l2 (k0 : (Nat → Int) → (Nat → Int) → Prop) : Nat → Int → (Nat → Int) → (Nat → Int) → (Nat → Int) → Prop
  | 0 => fun _ _ _ _ => False
  | n + 1 => zdq.l2.step (zdq.l2 k0 n) k0
def zdq.l2.entry : LoopEntry := ⟨LV.mk 20 [(0, 20)] 16 0 false, 0, 19, fun vs H K => match vs, H with
  | [EV.ptr 0 [], EV.ptr 1 [], EV.ptr 2 [], EV.int IntKind.i64 x0], [some (EV.arr IntKind.u64 6 x1), some (EV.arr IntKind.u64 6 x2), some (EV.arr IntKind.u64 6 x3)] => ∃ n, zdq.l2 (fun y0 y1 => K (.exit 0) [EV.ptr 0 [], EV.ptr 1 []] [some (EV.arr IntKind.u64 6 y0), some (EV.arr IntKind.u64 6 y1)]) n x0 x1 x2 x3
  | _, _ => False⟩
def zdq.d (a0 : Nat → Int) (a1 : Nat → Int) (K : (Nat → Int) → Prop) : Prop :=
  ∃ n, zdq.l2 (fun y0 y1 => K y0) n 0 a0 a1 fun x => 0
noncomputable def zdq := shut zdq.d
theorem zdq.is : zdq = zdq.d := shut_is _
def zdr.d (a0 : Nat → Int) (K : Int → Int → Bool → Prop) : Prop :=
  br (!eqI (orI IntKind.u64 (orI IntKind.u64 (orI IntKind.u64 (a0 2) (a0 3)) (a0 4)) (a0 5)) 0) (K 0 0 false) (K (a0 1) (a0 0) true)
noncomputable def zdr := shut zdr.d
theorem zdr.is : zdr = zdr.d := shut_is _
end Go.Ev.S

/- The functions as the evaluator has them: what each comes to. -/
set_option maxRecDepth 100000
set_option linter.unusedVariables false
set_option linter.unusedSimpArgs false
namespace Go.Ev.S
open Go Go.Ev
def zau.d (a0 : List UInt8) (K : Int → Prop) : Prop :=
  br (ltI 16384 ↑(List.length a0)) (K 2) (br (!eqS a0 []) (gd (ltI 0 ↑(List.length a0)) (br (eqI (byteAt a0 0) 0) (K 2) (K 0))) (K 0))
noncomputable def zau := shut zau.d
theorem zau.is : zau = zau.d := shut_is _
def zbn.d (a0 : List UInt8) (a1 : List UInt8) (K : Bool → Prop) : Prop :=
  zau a0 fun y0 => br (eqI y0 0) (zau a1 fun y0 => K (eqI y0 0)) (K false)
noncomputable def zbn := shut zbn.d
theorem zbn.is : zbn = zbn.d := shut_is _
def zbg.l1.step (again : Nat → Nat → Nat → (Nat → Int) → Prop) (k0 : Nat → Nat → Nat → (Nat → Int) → Prop) (x0 : Nat) (x1 : Nat) (x2 : Nat) (x3 : Nat → Int) : Prop :=
  br (ltI 0 ↑x0) (gd (leI 0 (subI IntKind.i64 (↑x0) 1) && ltI (subI IntKind.i64 (↑x0) 1) ↑x0) (br (eqI (x3 (Int.toNat (subI IntKind.i64 (↑x0) 1))) 0) (gd (leI 0 (subI IntKind.i64 (↑x0) 1) && leI (subI IntKind.i64 (↑x0) 1) ↑x1) (again (Int.toNat (subI IntKind.i64 (↑x0) 1) - 0) (x1 - 0) x2 x3)) (k0 x0 x1 x2 x3))) (k0 x0 x1 x2 x3)
def zbg.l1 (k0 : Nat → Nat → Nat → (Nat → Int) → Prop) : Nat → Nat → Nat → Nat → (Nat → Int) → Prop
  | 0 => fun _ _ _ _ => False
  | n + 1 => zbg.l1.step (zbg.l1 k0 n) k0
def zbg.l1.entry : LoopEntry := ⟨LV.mk 1 [(0, 1)] 4 1 false, 1, 21, fun vs H K => match vs, H with
  | [EV.slice 0 0 x0 (some x1) 1], [some (EV.arr IntKind.u32 x2 x3)] => ∃ n, zbg.l1 (fun y0 y1 y2 y3 => K (.exit 0) [EV.slice 0 0 y0 (some y1) 1] [some (EV.arr IntKind.u32 y2 y3)]) n x0 x1 x2 x3
  | _, _ => False⟩
def zbg.d (a0l : Nat) (a0c : Nat) (a0n : Nat) (a0 : Nat → Int) (K : Nat → Nat → Nat → (Nat → Int) → Prop) : Prop :=
  ∃ n, zbg.l1 (fun y0 y1 y2 y3 => K y0 y1 y2 y3) n a0l a0c a0n a0
noncomputable def zbg := shut zbg.d
theorem zbg.is : zbg = zbg.d := shut_is _
def zbo.l7.step (again : Nat → (Nat → Int) → Nat → Nat → Int → Int → Nat → (Nat → Int) → Prop) (k0 : Nat → Nat → Nat → (Nat → Int) → Prop) (x0 : Nat) (x1 : Nat → Int) (x2 : Nat) (x3 : Nat) (x4 : Int) (x5 : Int) (x6 : Nat) (x7 : Nat → Int) : Prop :=
  br (ltI x5 ↑x0) (gd (leI 0 x5 && ltI x5 ↑x2) (br (ltI x5 ↑x0) (gd (leI 0 x5 && ltI x5 ↑x0) (gd (leI 0 x5 && ltI x5 ↑x2) (again x0 x1 x2 x3 (shrI IntKind.u64 (addI IntKind.u64 (addI IntKind.u64 x4 (cvI IntKind.u64 (x7 (Int.toNat x5)))) (cvI IntKind.u64 (x1 (Int.toNat x5)))) 32) (addI IntKind.i64 x5 1) x6 (upd x7 (Int.toNat x5) (cvI IntKind.u32 (addI IntKind.u64 (addI IntKind.u64 x4 (cvI IntKind.u64 (x7 (Int.toNat x5)))) (cvI IntKind.u64 (x1 (Int.toNat x5))))))))) (gd (leI 0 x5 && ltI x5 ↑x2) (again x0 x1 x2 x3 (shrI IntKind.u64 (addI IntKind.u64 x4 (cvI IntKind.u64 (x7 (Int.toNat x5)))) 32) (addI IntKind.i64 x5 1) x6 (upd x7 (Int.toNat x5) (cvI IntKind.u32 (addI IntKind.u64 x4 (cvI IntKind.u64 (x7 (Int.toNat x5)))))))))) (br (ltI 0 x4) (gd (leI 0 x5 && ltI x5 ↑x2) (br (ltI x5 ↑x0) (gd (leI 0 x5 && ltI x5 ↑x0) (gd (leI 0 x5 && ltI x5 ↑x2) (again x0 x1 x2 x3 (shrI IntKind.u64 (addI IntKind.u64 (addI IntKind.u64 x4 (cvI IntKind.u64 (x7 (Int.toNat x5)))) (cvI IntKind.u64 (x1 (Int.toNat x5)))) 32) (addI IntKind.i64 x5 1) x6 (upd x7 (Int.toNat x5) (cvI IntKind.u32 (addI IntKind.u64 (addI IntKind.u64 x4 (cvI IntKind.u64 (x7 (Int.toNat x5)))) (cvI IntKind.u64 (x1 (Int.toNat x5))))))))) (gd (leI 0 x5 && ltI x5 ↑x2) (again x0 x1 x2 x3 (shrI IntKind.u64 (addI IntKind.u64 x4 (cvI IntKind.u64 (x7 (Int.toNat x5)))) 32) (addI IntKind.i64 x5 1) x6 (upd x7 (Int.toNat x5) (cvI IntKind.u32 (addI IntKind.u64 x4 (cvI IntKind.u64 (x7 (Int.toNat x5)))))))))) (k0 x2 x3 x6 x7))
def zbo.l7 (k0 : Nat → Nat → Nat → (Nat → Int) → Prop) : Nat → Nat → (Nat → Int) → Nat → Nat → Int → Int → Nat → (Nat → Int) → Prop
  | 0 => fun _ _ _ _ _ _ _ _ => False
  | n + 1 => zbo.l7.step (zbo.l7 k0 n) k0
def zbo.l7.entry : LoopEntry := ⟨LV.mk 32 [(0, 32)] 16 0 false, 0, 59, fun vs H K => match vs, H with
  | [EV.rsI IntKind.u32 x0 x1, EV.slice 0 0 x2 (some x3) 1, EV.int IntKind.u64 x4, EV.int IntKind.i64 x5], [some (EV.arr IntKind.u32 x6 x7)] => ∃ n, zbo.l7 (fun y0 y1 y2 y3 => K (.exit 0) [EV.slice 0 0 y0 (some y1) 1] [some (EV.arr IntKind.u32 y2 y3)]) n x0 x1 x2 x3 x4 x5 x6 x7
  | _, _ => False⟩
def zbo.d (a0n : Nat) (a0 : Nat → Int) (a1n : Nat) (a1 : Nat → Int) (K : Nat → (Nat → Int) → Prop) : Prop :=
  br (ltI ↑a0n ↑a1n) (gd (leI 0 (addI IntKind.i64 (↑a1n) 1) && (leI (addI IntKind.i64 (↑a1n) 1) (addI IntKind.i64 (↑a1n) 1) && leI (addI IntKind.i64 (↑a1n) 1) 1099511627776)) (∃ n, zbo.l7 (fun y0 y1 y2 y3 => zbg y0 y1 y2 y3 fun y0 y1 y2 y3 => K y0 y3) n a0n a0 (Int.toNat (addI IntKind.i64 (↑a1n) 1)) (Int.toNat (addI IntKind.i64 (↑a1n) 1)) 0 0 (Int.toNat (addI IntKind.i64 (↑a1n) 1)) (ovl 0 (minN a1n (Int.toNat (addI IntKind.i64 (↑a1n) 1))) a1 fun x => 0))) (gd (leI 0 (addI IntKind.i64 (↑a0n) 1) && (leI (addI IntKind.i64 (↑a0n) 1) (addI IntKind.i64 (↑a0n) 1) && leI (addI IntKind.i64 (↑a0n) 1) 1099511627776)) (∃ n, zbo.l7 (fun y0 y1 y2 y3 => zbg y0 y1 y2 y3 fun y0 y1 y2 y3 => K y0 y3) n a1n a1 (Int.toNat (addI IntKind.i64 (↑a0n) 1)) (Int.toNat (addI IntKind.i64 (↑a0n) 1)) 0 0 (Int.toNat (addI IntKind.i64 (↑a0n) 1)) (ovl 0 (minN a0n (Int.toNat (addI IntKind.i64 (↑a0n) 1))) a0 fun x => 0)))
noncomputable def zbo := shut zbo.d
theorem zbo.is : zbo = zbo.d := shut_is _
def zbh.l1.step (again : Nat → (Nat → Int) → Prop) (k0 : Nat → (Nat → Int) → Prop) (x0 : Nat) (x1 : Nat → Int) : Prop :=
  br (ltI 0 ↑x0) (gd (leI 0 (subI IntKind.i64 (↑x0) 1) && ltI (subI IntKind.i64 (↑x0) 1) ↑x0) (br (eqI (x1 (Int.toNat (subI IntKind.i64 (↑x0) 1))) 0) (gd (leI 0 (subI IntKind.i64 (↑x0) 1) && leI (subI IntKind.i64 (↑x0) 1) ↑x0) (again (Int.toNat (subI IntKind.i64 (↑x0) 1) - 0) x1)) (k0 x0 x1))) (k0 x0 x1)
def zbh.l1 (k0 : Nat → (Nat → Int) → Prop) : Nat → Nat → (Nat → Int) → Prop
  | 0 => fun _ _ => False
  | n + 1 => zbh.l1.step (zbh.l1 k0 n) k0
def zbh.l1.entry : LoopEntry := ⟨LV.mk 1 [(0, 1)] 4 0 false, 0, 21, fun vs H K => match vs, H with
  | [EV.rsI IntKind.u32 x0 x1], [] => ∃ n, zbh.l1 (fun y0 y1 => K (.exit 0) [EV.rsI IntKind.u32 y0 y1] []) n x0 x1
  | _, _ => False⟩
def zbh.d (a0n : Nat) (a0 : Nat → Int) (K : Nat → (Nat → Int) → Prop) : Prop :=
  ∃ n, zbh.l1 (fun y0 y1 => K y0 y1) n a0n a0
noncomputable def zbh := shut zbh.d
theorem zbh.is : zbh = zbh.d := shut_is _
def zbl.l4.step (again : Nat → (Nat → Int) → Nat → Nat → Int → Int → Nat → (Nat → Int) → Prop) (k0 : Nat → Nat → Nat → (Nat → Int) → Prop) (x0 : Nat) (x1 : Nat → Int) (x2 : Nat) (x3 : Nat) (x4 : Int) (x5 : Int) (x6 : Nat) (x7 : Nat → Int) : Prop :=
  br (ltI x5 x4) (gd (leI 0 (quoI IntKind.i64 x5 4) && ltI (quoI IntKind.i64 x5 4) ↑x0) (gd (!ltI (cvI IntKind.u64 (mulI IntKind.i64 8 (remI IntKind.i64 x5 4))) 0) (gd (leI 0 (subI IntKind.i64 (subI IntKind.i64 (↑x2) 1) x5) && ltI (subI IntKind.i64 (subI IntKind.i64 (↑x2) 1) x5) ↑x2) (again x0 x1 x2 x3 x4 (addI IntKind.i64 x5 1) x6 (upd x7 (Int.toNat (subI IntKind.i64 (subI IntKind.i64 (↑x2) 1) x5)) (cvI IntKind.u8 (shrI IntKind.u32 (x1 (Int.toNat (quoI IntKind.i64 x5 4))) (cvI IntKind.u64 (mulI IntKind.i64 8 (remI IntKind.i64 x5 4)))))))))) (k0 x2 x3 x6 x7)
def zbl.l4 (k0 : Nat → Nat → Nat → (Nat → Int) → Prop) : Nat → Nat → (Nat → Int) → Nat → Nat → Int → Int → Nat → (Nat → Int) → Prop
  | 0 => fun _ _ _ _ _ _ _ _ => False
  | n + 1 => zbl.l4.step (zbl.l4 k0 n) k0
def zbl.l4.entry : LoopEntry := ⟨LV.mk 8 [(0, 8)] 4 0 false, 0, 48, fun vs H K => match vs, H with
  | [EV.rsI IntKind.u32 x0 x1, EV.slice 0 0 x2 (some x3) 1, EV.int IntKind.i64 x4, EV.int IntKind.i64 x5], [some (EV.arr IntKind.u8 x6 x7)] => ∃ n, zbl.l4 (fun y0 y1 y2 y3 => K (.exit 0) [EV.slice 0 0 y0 (some y1) 1] [some (EV.arr IntKind.u8 y2 y3)]) n x0 x1 x2 x3 x4 x5 x6 x7
  | _, _ => False⟩
def zbl.l8.step (again : Nat → Nat → Nat → Nat → (Nat → Int) → Prop) (k0 : Nat → Nat → Nat → Nat → (Nat → Int) → Prop) (x0 : Nat) (x1 : Nat) (x2 : Nat) (x3 : Nat) (x4 : Nat → Int) : Prop :=
  br (ltI 0 ↑x1) (gd (ltI 0 ↑x1) (br (eqI (x4 (addOff x0 0)) 0) (gd (leI 1 ↑x1 && leI ↑x1 ↑x2) (again (addOff x0 1) (Int.toNat ↑x1 - 1) (x2 - 1) x3 x4)) (k0 x0 x1 x2 x3 x4))) (k0 x0 x1 x2 x3 x4)
def zbl.l8 (k0 : Nat → Nat → Nat → Nat → (Nat → Int) → Prop) : Nat → Nat → Nat → Nat → Nat → (Nat → Int) → Prop
  | 0 => fun _ _ _ _ _ => False
  | n + 1 => zbl.l8.step (zbl.l8 k0 n) k0
def zbl.l8.entry : LoopEntry := ⟨LV.mk 8 [(2, 8)] 4 0 false, 0, 48, fun vs H K => match vs, H with
  | [EV.slice 0 x0 x1 (some x2) 1], [some (EV.arr IntKind.u8 x3 x4)] => ∃ n, zbl.l8 (fun y0 y1 y2 y3 y4 => K (.exit 2) [EV.slice 0 y0 y1 (some y2) 1] [some (EV.arr IntKind.u8 y3 y4)]) n x0 x1 x2 x3 x4
  | _, _ => False⟩
def zbl.d (a0n : Nat) (a0 : Nat → Int) (K : List UInt8 → Prop) : Prop :=
  zbh a0n a0 fun y0 y1 => gd (leI 0 (mulI IntKind.i64 4 ↑y0) && (leI (mulI IntKind.i64 4 ↑y0) (mulI IntKind.i64 4 ↑y0) && leI (mulI IntKind.i64 4 ↑y0) 1099511627776)) (∃ n, zbl.l4 (fun y0 y1 y2 y3 => ∃ n, zbl.l8 (fun y0 y1 y2 y3 y4 => K (bytesOf y1 (shift y0 y4))) n 0 y0 y1 y2 y3) n y0 y1 (Int.toNat (mulI IntKind.i64 4 ↑y0)) (Int.toNat (mulI IntKind.i64 4 ↑y0)) (↑(Int.toNat (mulI IntKind.i64 4 ↑y0))) 0 (Int.toNat (mulI IntKind.i64 4 ↑y0)) fun x => 0)
noncomputable def zbl := shut zbl.d
theorem zbl.is : zbl = zbl.d := shut_is _
def zbq.d (a0n : Nat) (a0 : Nat → Int) (K : List UInt8 → Int → Prop) : Prop :=
  zbl a0n a0 fun y0 => br (ltI 16384 ↑(List.length y0)) (K [] 4) (K y0 0)
noncomputable def zbq := shut zbq.d
theorem zbq.is : zbq = zbq.d := shut_is _
def zbt.l3.step (again : List UInt8 → Nat → Nat → Int → Int → Nat → (Nat → Int) → Prop) (k0 : Nat → Nat → Nat → (Nat → Int) → Prop) (x0 : List UInt8) (x1 : Nat) (x2 : Nat) (x3 : Int) (x4 : Int) (x5 : Nat) (x6 : Nat → Int) : Prop :=
  br (ltI x4 x3) (gd (leI 0 (quoI IntKind.i64 x4 4) && ltI (quoI IntKind.i64 x4 4) ↑x1) (gd (leI 0 (subI IntKind.i64 (subI IntKind.i64 (↑(List.length x0)) 1) x4) && ltI (subI IntKind.i64 (subI IntKind.i64 (↑(List.length x0)) 1) x4) ↑(List.length x0)) (gd (!ltI (cvI IntKind.u64 (mulI IntKind.i64 8 (remI IntKind.i64 x4 4))) 0) (gd (leI 0 (quoI IntKind.i64 x4 4) && ltI (quoI IntKind.i64 x4 4) ↑x1) (again x0 x1 x2 x3 (addI IntKind.i64 x4 1) x5 (upd x6 (Int.toNat (quoI IntKind.i64 x4 4)) (orI IntKind.u32 (x6 (Int.toNat (quoI IntKind.i64 x4 4))) (shlI IntKind.u32 (cvI IntKind.u32 (byteAt x0 (Int.toNat (subI IntKind.i64 (subI IntKind.i64 (↑(List.length x0)) 1) x4)))) (cvI IntKind.u64 (mulI IntKind.i64 8 (remI IntKind.i64 x4 4))))))))))) (k0 x1 x2 x5 x6)
def zbt.l3 (k0 : Nat → Nat → Nat → (Nat → Int) → Prop) : Nat → List UInt8 → Nat → Nat → Int → Int → Nat → (Nat → Int) → Prop
  | 0 => fun _ _ _ _ _ _ _ => False
  | n + 1 => zbt.l3.step (zbt.l3 k0 n) k0
def zbt.l3.entry : LoopEntry := ⟨LV.mk 8 [(0, 8)] 4 0 false, 0, 37, fun vs H K => match vs, H with
  | [EV.str x0, EV.slice 0 0 x1 (some x2) 1, EV.int IntKind.i64 x3, EV.int IntKind.i64 x4], [some (EV.arr IntKind.u32 x5 x6)] => ∃ n, zbt.l3 (fun y0 y1 y2 y3 => K (.exit 0) [EV.slice 0 0 y0 (some y1) 1] [some (EV.arr IntKind.u32 y2 y3)]) n x0 x1 x2 x3 x4 x5 x6
  | _, _ => False⟩
def zbt.d (a0 : List UInt8) (K : Nat → (Nat → Int) → Prop) : Prop :=
  gd (leI 0 (quoI IntKind.i64 (addI IntKind.i64 (↑(List.length a0)) 3) 4) && (leI (quoI IntKind.i64 (addI IntKind.i64 (↑(List.length a0)) 3) 4) (quoI IntKind.i64 (addI IntKind.i64 (↑(List.length a0)) 3) 4) && leI (quoI IntKind.i64 (addI IntKind.i64 (↑(List.length a0)) 3) 4) 1099511627776)) (∃ n, zbt.l3 (fun y0 y1 y2 y3 => K y0 y3) n a0 (Int.toNat (quoI IntKind.i64 (addI IntKind.i64 (↑(List.length a0)) 3) 4)) (Int.toNat (quoI IntKind.i64 (addI IntKind.i64 (↑(List.length a0)) 3) 4)) (↑(List.length a0)) 0 (Int.toNat (quoI IntKind.i64 (addI IntKind.i64 (↑(List.length a0)) 3) 4)) fun x => 0)
noncomputable def zbt := shut zbt.d
theorem zbt.is : zbt = zbt.d := shut_is _
def zat.d (a0 : List UInt8) (a1 : List UInt8) (K : List UInt8 → Int → Prop) : Prop :=
  zbn a0 a1 fun y0 => br (!y0) (K [] 2) (zbt a0 fun y0 y1 => zbt a1 fun y0_1 y1_1 => zbo y0 y1 y0_1 y1_1 fun y0 y1 => zbq y0 y1 fun y0 y1 => K y0 y1)
noncomputable def zat := shut zat.d
theorem zat.is : zat = zat.d := shut_is _
def zbe.l6.step (again : Nat → (Nat → Int) → Nat → (Nat → Int) → Int → Prop) (k0 : Int → Prop) (k1 : Prop) (x0 : Nat) (x1 : Nat → Int) (x2 : Nat) (x3 : Nat → Int) (x4 : Int) : Prop :=
  br (leI 0 x4) (gd (leI 0 x4 && ltI x4 ↑x0) (gd (leI 0 x4 && ltI x4 ↑x2) (br (ltI (x1 (Int.toNat x4)) (x3 (Int.toNat x4))) (k0 (-1)) (gd (leI 0 x4 && ltI x4 ↑x0) (gd (leI 0 x4 && ltI x4 ↑x2) (br (ltI (x3 (Int.toNat x4)) (x1 (Int.toNat x4))) (k0 1) (again x0 x1 x2 x3 (subI IntKind.i64 x4 1)))))))) k1
def zbe.l6 (k0 : Int → Prop) (k1 : Prop) : Nat → Nat → (Nat → Int) → Nat → (Nat → Int) → Int → Prop
  | 0 => fun _ _ _ _ _ => False
  | n + 1 => zbe.l6.step (zbe.l6 k0 k1 n) k0 k1
def zbe.l6.entry : LoopEntry := ⟨LV.mk 0 [(1, 0)] 16 0 false, 0, 45, fun vs H K => match vs, H with
  | [EV.rsI IntKind.u32 x0 x1, EV.rsI IntKind.u32 x2 x3, EV.int IntKind.i64 x4], [] => ∃ n, zbe.l6 (fun y0 => K .ret [EV.int IntKind.i64 y0] []) (K (.exit 1) [] []) n x0 x1 x2 x3 x4
  | _, _ => False⟩
def zbe.d (a0n : Nat) (a0 : Nat → Int) (a1n : Nat) (a1 : Nat → Int) (K : Int → Prop) : Prop :=
  br (ltI ↑a0n ↑a1n) (K (-1)) (br (ltI ↑a1n ↑a0n) (K 1) (∃ n, zbe.l6 (fun y0 => K y0) (K 0) n a0n a0 a1n a1 (subI IntKind.i64 (↑a0n) 1)))
noncomputable def zbe := shut zbe.d
theorem zbe.is : zbe = zbe.d := shut_is _
def zav.d (a0 : List UInt8) (a1 : List UInt8) (K : Int → Int → Prop) : Prop :=
  zbn a0 a1 fun y0 => br (!y0) (K 0 2) (zbt a0 fun y0 y1 => zbt a1 fun y0_1 y1_1 => zbe y0 y1 y0_1 y1_1 fun y0 => K y0 0)
noncomputable def zav := shut zav.d
theorem zav.is : zav = zav.d := shut_is _
def zbf.l1.step (again : Nat → Nat → (Nat → Int) → Prop) (k0 : Nat → Nat → (Nat → Int) → Prop) (x0 : Nat) (x1 : Nat) (x2 : Nat → Int) : Prop :=
  br (ltI 0 ↑x0) (gd (leI 0 (subI IntKind.i64 (↑x0) 1) && ltI (subI IntKind.i64 (↑x0) 1) ↑x0) (br (eqI (x2 (Int.toNat (subI IntKind.i64 (↑x0) 1))) 0) (gd (leI 0 (subI IntKind.i64 (↑x0) 1) && leI (subI IntKind.i64 (↑x0) 1) ↑x0) (again (Int.toNat (subI IntKind.i64 (↑x0) 1) - 0) x1 x2)) (k0 x0 x1 x2))) (k0 x0 x1 x2)
def zbf.l1 (k0 : Nat → Nat → (Nat → Int) → Prop) : Nat → Nat → Nat → (Nat → Int) → Prop
  | 0 => fun _ _ _ => False
  | n + 1 => zbf.l1.step (zbf.l1 k0 n) k0
def zbf.l1.entry : LoopEntry := ⟨LV.mk 1 [(0, 1)] 4 1 false, 1, 21, fun vs H K => match vs, H with
  | [EV.slice 0 0 x0 none 1], [some (EV.arr IntKind.u32 x1 x2)] => ∃ n, zbf.l1 (fun y0 y1 y2 => K (.exit 0) [EV.slice 0 0 y0 none 1] [some (EV.arr IntKind.u32 y1 y2)]) n x0 x1 x2
  | _, _ => False⟩
def zbf.d (a0l : Nat) (a0n : Nat) (a0 : Nat → Int) (K : Nat → Nat → (Nat → Int) → Prop) : Prop :=
  ∃ n, zbf.l1 (fun y0 y1 y2 => K y0 y1 y2) n a0l a0n a0
noncomputable def zbf := shut zbf.d
theorem zbf.is : zbf = zbf.d := shut_is _
def zbi.l5.step (again : Nat → (Nat → Int) → Int → Nat → Nat → Int → Int → Nat → (Nat → Int) → Prop) (k0 : Nat → Nat → Nat → (Nat → Int) → Prop) (x0 : Nat) (x1 : Nat → Int) (x2 : Int) (x3 : Nat) (x4 : Nat) (x5 : Int) (x6 : Int) (x7 : Nat) (x8 : Nat → Int) : Prop :=
  br (ltI x6 x5) (gd (leI 0 (addI IntKind.i64 x6 (quoI IntKind.i64 x2 32)) && ltI (addI IntKind.i64 x6 (quoI IntKind.i64 x2 32)) ↑x0) (br (ltI (addI IntKind.i64 (addI IntKind.i64 x6 (quoI IntKind.i64 x2 32)) 1) ↑x0) (gd (leI 0 (addI IntKind.i64 (addI IntKind.i64 x6 (quoI IntKind.i64 x2 32)) 1) && ltI (addI IntKind.i64 (addI IntKind.i64 x6 (quoI IntKind.i64 x2 32)) 1) ↑x0) (gd (!ltI (cvI IntKind.u64 (remI IntKind.i64 x2 32)) 0) (gd (leI 0 x6 && ltI x6 ↑x3) (again x0 x1 x2 x3 x4 x5 (addI IntKind.i64 x6 1) x7 (upd x8 (Int.toNat x6) (cvI IntKind.u32 (shrI IntKind.u64 (orI IntKind.u64 (cvI IntKind.u64 (x1 (Int.toNat (addI IntKind.i64 x6 (quoI IntKind.i64 x2 32))))) (shlI IntKind.u64 (cvI IntKind.u64 (x1 (Int.toNat (addI IntKind.i64 (addI IntKind.i64 x6 (quoI IntKind.i64 x2 32)) 1)))) 32)) (cvI IntKind.u64 (remI IntKind.i64 x2 32))))))))) (gd (!ltI (cvI IntKind.u64 (remI IntKind.i64 x2 32)) 0) (gd (leI 0 x6 && ltI x6 ↑x3) (again x0 x1 x2 x3 x4 x5 (addI IntKind.i64 x6 1) x7 (upd x8 (Int.toNat x6) (cvI IntKind.u32 (shrI IntKind.u64 (cvI IntKind.u64 (x1 (Int.toNat (addI IntKind.i64 x6 (quoI IntKind.i64 x2 32))))) (cvI IntKind.u64 (remI IntKind.i64 x2 32)))))))))) (k0 x3 x4 x7 x8)
def zbi.l5 (k0 : Nat → Nat → Nat → (Nat → Int) → Prop) : Nat → Nat → (Nat → Int) → Int → Nat → Nat → Int → Int → Nat → (Nat → Int) → Prop
  | 0 => fun _ _ _ _ _ _ _ _ _ => False
  | n + 1 => zbi.l5.step (zbi.l5 k0 n) k0
def zbi.l5.entry : LoopEntry := ⟨LV.mk 32 [(0, 32)] 16 0 false, 0, 64, fun vs H K => match vs, H with
  | [EV.rsI IntKind.u32 x0 x1, EV.int IntKind.i64 x2, EV.slice 0 0 x3 (some x4) 1, EV.int IntKind.i64 x5, EV.int IntKind.i64 x6], [some (EV.arr IntKind.u32 x7 x8)] => ∃ n, zbi.l5 (fun y0 y1 y2 y3 => K (.exit 0) [EV.slice 0 0 y0 (some y1) 1] [some (EV.arr IntKind.u32 y2 y3)]) n x0 x1 x2 x3 x4 x5 x6 x7 x8
  | _, _ => False⟩
def zbi.d (a0n : Nat) (a0 : Nat → Int) (a1 : Int) (K : Nat → (Nat → Int) → Prop) : Prop :=
  br (leI (↑a0n) (quoI IntKind.i64 a1 32)) (K 0 fun x => 0) (gd (leI 0 (subI IntKind.i64 (↑a0n) (quoI IntKind.i64 a1 32)) && (leI (subI IntKind.i64 (↑a0n) (quoI IntKind.i64 a1 32)) (subI IntKind.i64 (↑a0n) (quoI IntKind.i64 a1 32)) && leI (subI IntKind.i64 (↑a0n) (quoI IntKind.i64 a1 32)) 1099511627776)) (∃ n, zbi.l5 (fun y0 y1 y2 y3 => zbg y0 y1 y2 y3 fun y0 y1 y2 y3 => K y0 y3) n a0n a0 a1 (Int.toNat (subI IntKind.i64 (↑a0n) (quoI IntKind.i64 a1 32))) (Int.toNat (subI IntKind.i64 (↑a0n) (quoI IntKind.i64 a1 32))) (↑(Int.toNat (subI IntKind.i64 (↑a0n) (quoI IntKind.i64 a1 32)))) 0 (Int.toNat (subI IntKind.i64 (↑a0n) (quoI IntKind.i64 a1 32))) fun x => 0))
noncomputable def zbi := shut zbi.d
theorem zbi.is : zbi = zbi.d := shut_is _
def zbr.l5.step (again : Int → Nat → Nat → Nat → (Nat → Int) → Int → Int → Nat → (Nat → Int) → Prop) (k0 : Nat → Nat → Nat → (Nat → Int) → Prop) (x0 : Int) (x1 : Nat) (x2 : Nat) (x3 : Nat) (x4 : Nat → Int) (x5 : Int) (x6 : Int) (x7 : Nat) (x8 : Nat → Int) : Prop :=
  br (ltI x6 x5) (gd (leI 0 x6 && ltI x6 ↑x3) (gd (!ltI (cvI IntKind.u64 (remI IntKind.i64 x0 32)) 0) (gd (leI 0 (addI IntKind.i64 x6 (quoI IntKind.i64 x0 32)) && ltI (addI IntKind.i64 x6 (quoI IntKind.i64 x0 32)) ↑x1) (gd (leI 0 (addI IntKind.i64 x6 (quoI IntKind.i64 x0 32)) && ltI (addI IntKind.i64 x6 (quoI IntKind.i64 x0 32)) ↑x1) (gd (leI 0 (addI IntKind.i64 (addI IntKind.i64 x6 (quoI IntKind.i64 x0 32)) 1) && ltI (addI IntKind.i64 (addI IntKind.i64 x6 (quoI IntKind.i64 x0 32)) 1) ↑x1) (gd (leI 0 (addI IntKind.i64 (addI IntKind.i64 x6 (quoI IntKind.i64 x0 32)) 1) && ltI (addI IntKind.i64 (addI IntKind.i64 x6 (quoI IntKind.i64 x0 32)) 1) ↑x1) (again x0 x1 x2 x3 x4 x5 (addI IntKind.i64 x6 1) x7 (upd (upd x8 (Int.toNat (addI IntKind.i64 x6 (quoI IntKind.i64 x0 32))) (orI IntKind.u32 (x8 (Int.toNat (addI IntKind.i64 x6 (quoI IntKind.i64 x0 32)))) (cvI IntKind.u32 (shlI IntKind.u64 (cvI IntKind.u64 (x4 (Int.toNat x6))) (cvI IntKind.u64 (remI IntKind.i64 x0 32)))))) (Int.toNat (addI IntKind.i64 (addI IntKind.i64 x6 (quoI IntKind.i64 x0 32)) 1)) (orI IntKind.u32 (upd x8 (Int.toNat (addI IntKind.i64 x6 (quoI IntKind.i64 x0 32))) (orI IntKind.u32 (x8 (Int.toNat (addI IntKind.i64 x6 (quoI IntKind.i64 x0 32)))) (cvI IntKind.u32 (shlI IntKind.u64 (cvI IntKind.u64 (x4 (Int.toNat x6))) (cvI IntKind.u64 (remI IntKind.i64 x0 32))))) (Int.toNat (addI IntKind.i64 (addI IntKind.i64 x6 (quoI IntKind.i64 x0 32)) 1))) (cvI IntKind.u32 (shrI IntKind.u64 (shlI IntKind.u64 (cvI IntKind.u64 (x4 (Int.toNat x6))) (cvI IntKind.u64 (remI IntKind.i64 x0 32))) 32))))))))))) (k0 x1 x2 x7 x8)
def zbr.l5 (k0 : Nat → Nat → Nat → (Nat → Int) → Prop) : Nat → Int → Nat → Nat → Nat → (Nat → Int) → Int → Int → Nat → (Nat → Int) → Prop
  | 0 => fun _ _ _ _ _ _ _ _ _ => False
  | n + 1 => zbr.l5.step (zbr.l5 k0 n) k0
def zbr.l5.entry : LoopEntry := ⟨LV.mk 32 [(0, 32)] 16 0 false, 0, 59, fun vs H K => match vs, H with
  | [EV.int IntKind.i64 x0, EV.slice 0 0 x1 (some x2) 1, EV.rsI IntKind.u32 x3 x4, EV.int IntKind.i64 x5, EV.int IntKind.i64 x6], [some (EV.arr IntKind.u32 x7 x8)] => ∃ n, zbr.l5 (fun y0 y1 y2 y3 => K (.exit 0) [EV.slice 0 0 y0 (some y1) 1] [some (EV.arr IntKind.u32 y2 y3)]) n x0 x1 x2 x3 x4 x5 x6 x7 x8
  | _, _ => False⟩
def zbr.d (a0n : Nat) (a0 : Nat → Int) (a1 : Int) (K0 : Prop) (K1 : Nat → Nat → Nat → (Nat → Int) → Prop) : Prop :=
  br (eqI (↑a0n) 0) K0 (gd (leI 0 (addI IntKind.i64 (addI IntKind.i64 (↑a0n) (quoI IntKind.i64 a1 32)) 1) && (leI (addI IntKind.i64 (addI IntKind.i64 (↑a0n) (quoI IntKind.i64 a1 32)) 1) (addI IntKind.i64 (addI IntKind.i64 (↑a0n) (quoI IntKind.i64 a1 32)) 1) && leI (addI IntKind.i64 (addI IntKind.i64 (↑a0n) (quoI IntKind.i64 a1 32)) 1) 1099511627776)) (∃ n, zbr.l5 (fun y0 y1 y2 y3 => zbg y0 y1 y2 y3 fun y0 y1 y2 y3 => K1 y0 y1 y2 y3) n a1 (Int.toNat (addI IntKind.i64 (addI IntKind.i64 (↑a0n) (quoI IntKind.i64 a1 32)) 1)) (Int.toNat (addI IntKind.i64 (addI IntKind.i64 (↑a0n) (quoI IntKind.i64 a1 32)) 1)) a0n a0 (↑a0n) 0 (Int.toNat (addI IntKind.i64 (addI IntKind.i64 (↑a0n) (quoI IntKind.i64 a1 32)) 1)) fun x => 0))
noncomputable def zbr := shut zbr.d
theorem zbr.is : zbr = zbr.d := shut_is _
def zbm.l7.step (again : Nat → (Nat → Int) → Nat → (Nat → Int) → Nat → Int → Int → Nat → (Nat → Int) → Prop) (k0 : Nat → Int → Nat → (Nat → Int) → Prop) (x0 : Nat) (x1 : Nat → Int) (x2 : Nat) (x3 : Nat → Int) (x4 : Nat) (x5 : Int) (x6 : Int) (x7 : Nat) (x8 : Nat → Int) : Prop :=
  br (leI 0 x6) (gd (leI 0 x6 && ltI x6 ↑x0) (gd (ltI 0 ↑x2) (gd (!eqI (cvI IntKind.u64 (x3 0)) 0) (gd (leI 0 x6 && ltI x6 ↑x4) (gd (ltI 0 ↑x2) (gd (!eqI (cvI IntKind.u64 (x3 0)) 0) (again x0 x1 x2 x3 x4 (remI IntKind.u64 (orI IntKind.u64 (shlI IntKind.u64 x5 32) (cvI IntKind.u64 (x1 (Int.toNat x6)))) (cvI IntKind.u64 (x3 0))) (subI IntKind.i64 x6 1) x7 (upd x8 (Int.toNat x6) (cvI IntKind.u32 (quoI IntKind.u64 (orI IntKind.u64 (shlI IntKind.u64 x5 32) (cvI IntKind.u64 (x1 (Int.toNat x6)))) (cvI IntKind.u64 (x3 0)))))))))))) (k0 x4 x5 x7 x8)
def zbm.l7 (k0 : Nat → Int → Nat → (Nat → Int) → Prop) : Nat → Nat → (Nat → Int) → Nat → (Nat → Int) → Nat → Int → Int → Nat → (Nat → Int) → Prop
  | 0 => fun _ _ _ _ _ _ _ _ _ => False
  | n + 1 => zbm.l7.step (zbm.l7 k0 n) k0
def zbm.l7.entry : LoopEntry := ⟨LV.mk 80 [(0, 80)] 48 0 true, 0, 285, fun vs H K => match vs, H with
  | [EV.rsI IntKind.u32 x0 x1, EV.rsI IntKind.u32 x2 x3, EV.slice 0 0 x4 none 1, EV.int IntKind.u64 x5, EV.int IntKind.i64 x6], [some (EV.arr IntKind.u32 x7 x8)] => ∃ n, zbm.l7 (fun y0 y1 y2 y3 => K (.exit 0) [EV.slice 0 0 y0 none 1, EV.int IntKind.u64 y1] [some (EV.arr IntKind.u32 y2 y3)]) n x0 x1 x2 x3 x4 x5 x6 x7 x8
  | _, _ => False⟩
def zbm.l16.step (again : Nat → (Nat → Int) → Nat → Int → Nat → Nat → Nat → (Nat → Int) → Nat → (Nat → Int) → Nat → (Nat → Int) → Prop) (k0 : Nat → Int → Nat → Nat → Nat → (Nat → Int) → Nat → (Nat → Int) → Nat → (Nat → Int) → Prop) (x0 : Nat) (x1 : Nat → Int) (x2 : Nat) (x3 : Int) (x4 : Nat) (x5 : Nat) (x6 : Nat) (x7 : Nat → Int) (x8 : Nat) (x9 : Nat → Int) (x10 : Nat) (x11 : Nat → Int) : Prop :=
  br (ltI (↑x5) (addI IntKind.i64 (↑x0) 1)) (gd (leN (x5 + 1) 1099511627776) (again x0 x1 x2 x3 x4 (x5 + 1) x6 x7 x8 x9 (x5 + 1) (app x5 x11 (upd (fun x => 0) 0 0)))) (k0 x2 x3 x4 x5 x6 x7 x8 x9 x10 x11)
def zbm.l16 (k0 : Nat → Int → Nat → Nat → Nat → (Nat → Int) → Nat → (Nat → Int) → Nat → (Nat → Int) → Prop) : Nat → Nat → (Nat → Int) → Nat → Int → Nat → Nat → Nat → (Nat → Int) → Nat → (Nat → Int) → Nat → (Nat → Int) → Prop
  | 0 => fun _ _ _ _ _ _ _ _ _ _ _ _ => False
  | n + 1 => zbm.l16.step (zbm.l16 k0 n) k0
def zbm.l16.entry : LoopEntry := ⟨LV.mk 1808 [(2, 1808)] 48 0 true, 0, 285, fun vs H K => match vs, H with
  | [EV.rsI IntKind.u32 x0 x1, EV.slice 0 0 x2 none 1, EV.int IntKind.i64 x3, EV.slice 1 0 x4 none 1, EV.slice 2 0 x5 none 1], [some (EV.arr IntKind.u32 x6 x7), some (EV.arr IntKind.u32 x8 x9), some (EV.arr IntKind.u32 x10 x11)] => ∃ n, zbm.l16 (fun y0 y1 y2 y3 y4 y5 y6 y7 y8 y9 => K (.exit 2) [EV.slice 0 0 y0 none 1, EV.int IntKind.i64 y1, EV.slice 1 0 y2 none 1, EV.slice 2 0 y3 none 1] [some (EV.arr IntKind.u32 y4 y5), some (EV.arr IntKind.u32 y6 y7), some (EV.arr IntKind.u32 y8 y9)]) n x0 x1 x2 x3 x4 x5 x6 x7 x8 x9 x10 x11
  | _, _ => False⟩
def zbm.l24.step (again : Nat → Int → Nat → Nat → Int → Int → Int → Int → Nat → (Nat → Int) → Nat → (Nat → Int) → Nat → (Nat → Int) → Prop) (k0 : Nat → Int → Nat → Nat → Int → Int → Int → Nat → (Nat → Int) → Nat → (Nat → Int) → Nat → (Nat → Int) → Prop) (x0 : Nat) (x1 : Int) (x2 : Nat) (x3 : Nat) (x4 : Int) (x5 : Int) (x6 : Int) (x7 : Int) (x8 : Nat) (x9 : Nat → Int) (x10 : Nat) (x11 : Nat → Int) (x12 : Nat) (x13 : Nat → Int) : Prop :=
  br (leI 4294967296 x6) (gd (leI 0 (subI IntKind.i64 x4 1) && ltI (subI IntKind.i64 x4 1) ↑x2) (br (leI 4294967296 (addI IntKind.u64 x7 (cvI IntKind.u64 (x11 (Int.toNat (subI IntKind.i64 x4 1)))))) (k0 x0 x1 x2 x3 x4 x5 (subI IntKind.u64 x6 1) x8 x9 x10 x11 x12 x13) (again x0 x1 x2 x3 x4 x5 (subI IntKind.u64 x6 1) (addI IntKind.u64 x7 (cvI IntKind.u64 (x11 (Int.toNat (subI IntKind.i64 x4 1))))) x8 x9 x10 x11 x12 x13))) (gd (leI 0 (subI IntKind.i64 x4 2) && ltI (subI IntKind.i64 x4 2) ↑x2) (gd (leI 0 (subI IntKind.i64 (addI IntKind.i64 x5 x4) 2) && ltI (subI IntKind.i64 (addI IntKind.i64 x5 x4) 2) ↑x3) (br (ltI (orI IntKind.u64 (shlI IntKind.u64 x7 32) (cvI IntKind.u64 (x13 (Int.toNat (subI IntKind.i64 (addI IntKind.i64 x5 x4) 2))))) (mulI IntKind.u64 x6 (cvI IntKind.u64 (x11 (Int.toNat (subI IntKind.i64 x4 2)))))) (gd (leI 0 (subI IntKind.i64 x4 1) && ltI (subI IntKind.i64 x4 1) ↑x2) (br (leI 4294967296 (addI IntKind.u64 x7 (cvI IntKind.u64 (x11 (Int.toNat (subI IntKind.i64 x4 1)))))) (k0 x0 x1 x2 x3 x4 x5 (subI IntKind.u64 x6 1) x8 x9 x10 x11 x12 x13) (again x0 x1 x2 x3 x4 x5 (subI IntKind.u64 x6 1) (addI IntKind.u64 x7 (cvI IntKind.u64 (x11 (Int.toNat (subI IntKind.i64 x4 1))))) x8 x9 x10 x11 x12 x13))) (k0 x0 x1 x2 x3 x4 x5 x6 x8 x9 x10 x11 x12 x13))))
def zbm.l24 (k0 : Nat → Int → Nat → Nat → Int → Int → Int → Nat → (Nat → Int) → Nat → (Nat → Int) → Nat → (Nat → Int) → Prop) : Nat → Nat → Int → Nat → Nat → Int → Int → Int → Int → Nat → (Nat → Int) → Nat → (Nat → Int) → Nat → (Nat → Int) → Prop
  | 0 => fun _ _ _ _ _ _ _ _ _ _ _ _ _ _ => False
  | n + 1 => zbm.l24.step (zbm.l24 k0 n) k0
def zbm.l24.entry : LoopEntry := ⟨LV.mk 24336 [(6, 24336), (5, 7952), (4, 1296)] 48 0 true, 0, 285, fun vs H K => match vs, H with
  | [EV.slice 0 0 x0 none 1, EV.int IntKind.i64 x1, EV.slice 1 0 x2 none 1, EV.slice 2 0 x3 none 1, EV.int IntKind.i64 x4, EV.int IntKind.i64 x5, EV.int IntKind.u64 x6, EV.int IntKind.u64 x7], [some (EV.arr IntKind.u32 x8 x9), some (EV.arr IntKind.u32 x10 x11), some (EV.arr IntKind.u32 x12 x13)] => ∃ n, zbm.l24 (fun y0 y1 y2 y3 y4 y5 y6 y7 y8 y9 y10 y11 y12 => K (.exit 6) [EV.slice 0 0 y0 none 1, EV.int IntKind.i64 y1, EV.slice 1 0 y2 none 1, EV.slice 2 0 y3 none 1, EV.int IntKind.i64 y4, EV.int IntKind.i64 y5, EV.int IntKind.u64 y6] [some (EV.arr IntKind.u32 y7 y8), some (EV.arr IntKind.u32 y9 y10), some (EV.arr IntKind.u32 y11 y12)]) n x0 x1 x2 x3 x4 x5 x6 x7 x8 x9 x10 x11 x12 x13
  | _, _ => False⟩
def zbm.l31.step (again : Nat → Int → Nat → Nat → Int → Int → Int → Int → Int → Int → Int → Nat → (Nat → Int) → Nat → (Nat → Int) → Nat → (Nat → Int) → Prop) (k0 : Nat → Int → Nat → Nat → Int → Int → Int → Int → Int → Nat → (Nat → Int) → Nat → (Nat → Int) → Nat → (Nat → Int) → Prop) (x0 : Nat) (x1 : Int) (x2 : Nat) (x3 : Nat) (x4 : Int) (x5 : Int) (x6 : Int) (x7 : Int) (x8 : Int) (x9 : Int) (x10 : Int) (x11 : Nat) (x12 : Nat → Int) (x13 : Nat) (x14 : Nat → Int) (x15 : Nat) (x16 : Nat → Int) : Prop :=
  br (ltI x10 x9) (gd (leI 0 x10 && ltI x10 ↑x2) (gd (leI 0 (addI IntKind.i64 x5 x10) && ltI (addI IntKind.i64 x5 x10) ↑x3) (gd (leI 0 (addI IntKind.i64 x5 x10) && ltI (addI IntKind.i64 x5 x10) ↑x3) (again x0 x1 x2 x3 x4 x5 x6 (shrI IntKind.u64 (addI IntKind.u64 x7 (mulI IntKind.u64 x6 (cvI IntKind.u64 (x14 (Int.toNat x10))))) 32) (shrI IntKind.i64 (addI IntKind.i64 x8 (subI IntKind.i64 (cvI IntKind.i64 (x16 (Int.toNat (addI IntKind.i64 x5 x10)))) (cvI IntKind.i64 (cvI IntKind.u32 (addI IntKind.u64 x7 (mulI IntKind.u64 x6 (cvI IntKind.u64 (x14 (Int.toNat x10))))))))) 32) x9 (addI IntKind.i64 x10 1) x11 x12 x13 x14 x15 (upd x16 (Int.toNat (addI IntKind.i64 x5 x10)) (cvI IntKind.u32 (addI IntKind.i64 x8 (subI IntKind.i64 (cvI IntKind.i64 (x16 (Int.toNat (addI IntKind.i64 x5 x10)))) (cvI IntKind.i64 (cvI IntKind.u32 (addI IntKind.u64 x7 (mulI IntKind.u64 x6 (cvI IntKind.u64 (x14 (Int.toNat x10))))))))))))))) (k0 x0 x1 x2 x3 x4 x5 x6 x7 x8 x11 x12 x13 x14 x15 x16)
def zbm.l31 (k0 : Nat → Int → Nat → Nat → Int → Int → Int → Int → Int → Nat → (Nat → Int) → Nat → (Nat → Int) → Nat → (Nat → Int) → Prop) : Nat → Nat → Int → Nat → Nat → Int → Int → Int → Int → Int → Int → Int → Nat → (Nat → Int) → Nat → (Nat → Int) → Nat → (Nat → Int) → Prop
  | 0 => fun _ _ _ _ _ _ _ _ _ _ _ _ _ _ _ _ _ => False
  | n + 1 => zbm.l31.step (zbm.l31 k0 n) k0
def zbm.l31.entry : LoopEntry := ⟨LV.mk 220944 [(8, 220944), (5, 7952), (4, 1296)] 48 0 true, 0, 285, fun vs H K => match vs, H with
  | [EV.slice 0 0 x0 none 1, EV.int IntKind.i64 x1, EV.slice 1 0 x2 none 1, EV.slice 2 0 x3 none 1, EV.int IntKind.i64 x4, EV.int IntKind.i64 x5, EV.int IntKind.u64 x6, EV.int IntKind.u64 x7, EV.int IntKind.i64 x8, EV.int IntKind.i64 x9, EV.int IntKind.i64 x10], [some (EV.arr IntKind.u32 x11 x12), some (EV.arr IntKind.u32 x13 x14), some (EV.arr IntKind.u32 x15 x16)] => ∃ n, zbm.l31 (fun y0 y1 y2 y3 y4 y5 y6 y7 y8 y9 y10 y11 y12 y13 y14 => K (.exit 8) [EV.slice 0 0 y0 none 1, EV.int IntKind.i64 y1, EV.slice 1 0 y2 none 1, EV.slice 2 0 y3 none 1, EV.int IntKind.i64 y4, EV.int IntKind.i64 y5, EV.int IntKind.u64 y6, EV.int IntKind.u64 y7, EV.int IntKind.i64 y8] [some (EV.arr IntKind.u32 y9 y10), some (EV.arr IntKind.u32 y11 y12), some (EV.arr IntKind.u32 y13 y14)]) n x0 x1 x2 x3 x4 x5 x6 x7 x8 x9 x10 x11 x12 x13 x14 x15 x16
  | _, _ => False⟩
def zbm.l45.step (again : Nat → Int → Nat → Nat → Int → Int → Int → Int → Int → Int → Nat → (Nat → Int) → Nat → (Nat → Int) → Nat → (Nat → Int) → Prop) (k0 : Nat → Int → Nat → Nat → Int → Int → Int → Int → Nat → (Nat → Int) → Nat → (Nat → Int) → Nat → (Nat → Int) → Prop) (x0 : Nat) (x1 : Int) (x2 : Nat) (x3 : Nat) (x4 : Int) (x5 : Int) (x6 : Int) (x7 : Int) (x8 : Int) (x9 : Int) (x10 : Nat) (x11 : Nat → Int) (x12 : Nat) (x13 : Nat → Int) (x14 : Nat) (x15 : Nat → Int) : Prop :=
  br (ltI x9 x8) (gd (leI 0 (addI IntKind.i64 x5 x9) && ltI (addI IntKind.i64 x5 x9) ↑x3) (gd (leI 0 x9 && ltI x9 ↑x2) (gd (leI 0 (addI IntKind.i64 x5 x9) && ltI (addI IntKind.i64 x5 x9) ↑x3) (again x0 x1 x2 x3 x4 x5 x6 (shrI IntKind.u64 (addI IntKind.u64 x7 (addI IntKind.u64 (cvI IntKind.u64 (x15 (Int.toNat (addI IntKind.i64 x5 x9)))) (cvI IntKind.u64 (x13 (Int.toNat x9))))) 32) x8 (addI IntKind.i64 x9 1) x10 x11 x12 x13 x14 (upd x15 (Int.toNat (addI IntKind.i64 x5 x9)) (cvI IntKind.u32 (addI IntKind.u64 x7 (addI IntKind.u64 (cvI IntKind.u64 (x15 (Int.toNat (addI IntKind.i64 x5 x9)))) (cvI IntKind.u64 (x13 (Int.toNat x9))))))))))) (k0 x0 x1 x2 x3 x4 x5 x6 x7 x10 x11 x12 x13 x14 x15)
def zbm.l45 (k0 : Nat → Int → Nat → Nat → Int → Int → Int → Int → Nat → (Nat → Int) → Nat → (Nat → Int) → Nat → (Nat → Int) → Prop) : Nat → Nat → Int → Nat → Nat → Int → Int → Int → Int → Int → Int → Nat → (Nat → Int) → Nat → (Nat → Int) → Nat → (Nat → Int) → Prop
  | 0 => fun _ _ _ _ _ _ _ _ _ _ _ _ _ _ _ _ => False
  | n + 1 => zbm.l45.step (zbm.l45 k0 n) k0
def zbm.l45.entry : LoopEntry := ⟨LV.mk 89872 [(10, 89872), (5, 7952), (4, 1296)] 48 0 true, 0, 285, fun vs H K => match vs, H with
  | [EV.slice 0 0 x0 none 1, EV.int IntKind.i64 x1, EV.slice 1 0 x2 none 1, EV.slice 2 0 x3 none 1, EV.int IntKind.i64 x4, EV.int IntKind.i64 x5, EV.int IntKind.u64 x6, EV.int IntKind.u64 x7, EV.int IntKind.i64 x8, EV.int IntKind.i64 x9], [some (EV.arr IntKind.u32 x10 x11), some (EV.arr IntKind.u32 x12 x13), some (EV.arr IntKind.u32 x14 x15)] => ∃ n, zbm.l45 (fun y0 y1 y2 y3 y4 y5 y6 y7 y8 y9 y10 y11 y12 y13 => K (.exit 10) [EV.slice 0 0 y0 none 1, EV.int IntKind.i64 y1, EV.slice 1 0 y2 none 1, EV.slice 2 0 y3 none 1, EV.int IntKind.i64 y4, EV.int IntKind.i64 y5, EV.int IntKind.u64 y6, EV.int IntKind.u64 y7] [some (EV.arr IntKind.u32 y8 y9), some (EV.arr IntKind.u32 y10 y11), some (EV.arr IntKind.u32 y12 y13)]) n x0 x1 x2 x3 x4 x5 x6 x7 x8 x9 x10 x11 x12 x13 x14 x15
  | _, _ => False⟩
def zbm.l20.step (again : Nat → Int → Nat → Nat → Int → Int → Nat → (Nat → Int) → Nat → (Nat → Int) → Nat → (Nat → Int) → Prop) (k0 : Nat → Int → Nat → Nat → (Nat → Int) → Nat → (Nat → Int) → Prop) (x0 : Nat) (x1 : Int) (x2 : Nat) (x3 : Nat) (x4 : Int) (x5 : Int) (x6 : Nat) (x7 : Nat → Int) (x8 : Nat) (x9 : Nat → Int) (x10 : Nat) (x11 : Nat → Int) : Prop :=
  br (leI 0 x5) (gd (leI 0 (addI IntKind.i64 x5 x4) && ltI (addI IntKind.i64 x5 x4) ↑x3) (gd (leI 0 (subI IntKind.i64 (addI IntKind.i64 x5 x4) 1) && ltI (subI IntKind.i64 (addI IntKind.i64 x5 x4) 1) ↑x3) (gd (leI 0 (subI IntKind.i64 x4 1) && ltI (subI IntKind.i64 x4 1) ↑x2) (gd (!eqI (cvI IntKind.u64 (x9 (Int.toNat (subI IntKind.i64 x4 1)))) 0) (gd (leI 0 (subI IntKind.i64 x4 1) && ltI (subI IntKind.i64 x4 1) ↑x2) (gd (!eqI (cvI IntKind.u64 (x9 (Int.toNat (subI IntKind.i64 x4 1)))) 0) (∃ n, zbm.l24 (fun y0 y1 y2 y3 y4 y5 y6 y7 y8 y9 y10 y11 y12 => ∃ n, zbm.l31 (fun y0 y1 y2 y3 y4 y5 y6 y7 y8 y9 y10 y11 y12 y13 y14 => gd (leI 0 (addI IntKind.i64 y5 y4) && ltI (addI IntKind.i64 y5 y4) ↑y3) (gd (leI 0 (addI IntKind.i64 y5 y4) && ltI (addI IntKind.i64 y5 y4) ↑y3) (br (ltI (addI IntKind.i64 y8 (subI IntKind.i64 (cvI IntKind.i64 (y14 (Int.toNat (addI IntKind.i64 y5 y4)))) (cvI IntKind.i64 y7))) 0) (∃ n, zbm.l45 (fun y0 y1 y2 y3 y4 y5 y6 y7 y8 y9 y10 y11 y12 y13 => gd (leI 0 (addI IntKind.i64 y5 y4) && ltI (addI IntKind.i64 y5 y4) ↑y3) (gd (leI 0 (addI IntKind.i64 y5 y4) && ltI (addI IntKind.i64 y5 y4) ↑y3) (gd (leI 0 y5 && ltI y5 ↑y0) (again y0 y1 y2 y3 y4 (subI IntKind.i64 y5 1) y8 (upd y9 (Int.toNat y5) (cvI IntKind.u32 y6)) y10 y11 y12 (upd y13 (Int.toNat (addI IntKind.i64 y5 y4)) (addI IntKind.u32 (y13 (Int.toNat (addI IntKind.i64 y5 y4))) (cvI IntKind.u32 y7))))))) n y0 y1 y2 y3 y4 y5 (subI IntKind.u64 y6 1) 0 y4 0 y9 y10 y11 y12 y13 (upd y14 (Int.toNat (addI IntKind.i64 y5 y4)) (cvI IntKind.u32 (addI IntKind.i64 y8 (subI IntKind.i64 (cvI IntKind.i64 (y14 (Int.toNat (addI IntKind.i64 y5 y4)))) (cvI IntKind.i64 y7)))))) (gd (leI 0 y5 && ltI y5 ↑y0) (again y0 y1 y2 y3 y4 (subI IntKind.i64 y5 1) y9 (upd y10 (Int.toNat y5) (cvI IntKind.u32 y6)) y11 y12 y13 (upd y14 (Int.toNat (addI IntKind.i64 y5 y4)) (cvI IntKind.u32 (addI IntKind.i64 y8 (subI IntKind.i64 (cvI IntKind.i64 (y14 (Int.toNat (addI IntKind.i64 y5 y4)))) (cvI IntKind.i64 y7)))))))))) n y0 y1 y2 y3 y4 y5 y6 0 0 y4 0 y7 y8 y9 y10 y11 y12) n x0 x1 x2 x3 x4 x5 (quoI IntKind.u64 (orI IntKind.u64 (shlI IntKind.u64 (cvI IntKind.u64 (x11 (Int.toNat (addI IntKind.i64 x5 x4)))) 32) (cvI IntKind.u64 (x11 (Int.toNat (subI IntKind.i64 (addI IntKind.i64 x5 x4) 1))))) (cvI IntKind.u64 (x9 (Int.toNat (subI IntKind.i64 x4 1))))) (remI IntKind.u64 (orI IntKind.u64 (shlI IntKind.u64 (cvI IntKind.u64 (x11 (Int.toNat (addI IntKind.i64 x5 x4)))) 32) (cvI IntKind.u64 (x11 (Int.toNat (subI IntKind.i64 (addI IntKind.i64 x5 x4) 1))))) (cvI IntKind.u64 (x9 (Int.toNat (subI IntKind.i64 x4 1))))) x6 x7 x8 x9 x10 x11))))))) (k0 x0 x1 x3 x6 x7 x10 x11)
def zbm.l20 (k0 : Nat → Int → Nat → Nat → (Nat → Int) → Nat → (Nat → Int) → Prop) : Nat → Nat → Int → Nat → Nat → Int → Int → Nat → (Nat → Int) → Nat → (Nat → Int) → Nat → (Nat → Int) → Prop
  | 0 => fun _ _ _ _ _ _ _ _ _ _ _ _ => False
  | n + 1 => zbm.l20.step (zbm.l20 k0 n) k0
def zbm.l20.entry : LoopEntry := ⟨LV.mk 1296 [(4, 1296)] 48 0 true, 0, 285, fun vs H K => match vs, H with
  | [EV.slice 0 0 x0 none 1, EV.int IntKind.i64 x1, EV.slice 1 0 x2 none 1, EV.slice 2 0 x3 none 1, EV.int IntKind.i64 x4, EV.int IntKind.i64 x5], [some (EV.arr IntKind.u32 x6 x7), some (EV.arr IntKind.u32 x8 x9), some (EV.arr IntKind.u32 x10 x11)] => ∃ n, zbm.l20 (fun y0 y1 y2 y3 y4 y5 y6 => K (.exit 4) [EV.slice 0 0 y0 none 1, EV.int IntKind.i64 y1, EV.slice 1 0 y2 none 1] [some (EV.arr IntKind.u32 y3 y4), some (EV.arr IntKind.u32 y5 y6)]) n x0 x1 x2 x3 x4 x5 x6 x7 x8 x9 x10 x11
  | _, _ => False⟩
def zbm.d (a0n : Nat) (a0 : Nat → Int) (a1n : Nat) (a1 : Nat → Int) (K : Nat → (Nat → Int) → Nat → (Nat → Int) → Prop) : Prop :=
  zbe a0n a0 a1n a1 fun y0 => br (ltI y0 0) (K 0 (fun x => 0) a0n a0) (gd (leI 0 ↑a0n && (leI ↑a0n ↑a0n && leI (↑a0n) 1099511627776)) (br (eqI (↑a1n) 1) (∃ n, zbm.l7 (fun y0 y1 y2 y3 => zbf y0 y2 y3 fun y0 y1_1 y2 => zbg 1 1 1 (upd (fun x => 0) 0 (cvI IntKind.u32 y1)) fun y0_1 y1 y2_1 y3 => K y0 y2 y0_1 y3) n a0n a0 a1n a1 (Int.toNat ↑a0n) 0 (subI IntKind.i64 (↑a0n) 1) (Int.toNat ↑a0n) fun x => 0) (gd (leI 0 (subI IntKind.i64 (↑a1n) 1) && ltI (subI IntKind.i64 (↑a1n) 1) ↑a1n) (zdt (cvI IntKind.u64 (a1 (Int.toNat (subI IntKind.i64 (↑a1n) 1)))) fun y0 => zbr a1n a1 (subI IntKind.i64 32 y0) False fun y0_1 y1 y2 y3 => zbr a0n a0 (subI IntKind.i64 32 y0) False fun y0_2 y1 y2_1 y3_1 => gd (leN (y0_2 + 1) 1099511627776) (∃ n, zbm.l16 (fun y0 y1 y2 y3 y4 y5 y6 y7 y8 y9 => ∃ n, zbm.l20 (fun y0 y1 y2 y3 y4 y5 y6 => zbf y0 y3 y4 fun y0 y1_1 y2_2 => zbf y2 y5 y6 fun y0_3 y1_2 y2 => zbi y0_3 y2 y1 fun y0_4 y1 => K y0 y2_2 y0_4 y1) n y0 y1 y2 y3 (↑y2) (subI IntKind.i64 (subI IntKind.i64 ↑y3 ↑y2) 1) y4 y5 y6 y7 y8 y9) n a0n a0 (Int.toNat ↑a0n) (subI IntKind.i64 32 y0) y0_1 (y0_2 + 1) (Int.toNat ↑a0n) (fun x => 0) y2 y3 (y0_2 + 1) (app y0_2 y3_1 (upd (fun x => 0) 0 0)))))))
noncomputable def zbm := shut zbm.d
theorem zbm.is : zbm = zbm.d := shut_is _
def zaw.d (a0 : List UInt8) (a1 : List UInt8) (K : List UInt8 → List UInt8 → Int → Prop) : Prop :=
  zbn a0 a1 fun y0 => br (!y0) (K [] [] 2) (br (eqS a1 []) (K [] [] 2) (zbt a0 fun y0 y1 => zbt a1 fun y0_1 y1_1 => zbm y0 y1 y0_1 y1_1 fun y0 y1 y2 y3 => zbl y0 y1 fun y0 => zbl y2 y3 fun y0_2 => K y0 y0_2 0))
noncomputable def zaw := shut zaw.d
theorem zaw.is : zaw = zaw.d := shut_is _
def zax.l4.step (again : Nat → (Nat → Int) → Nat → (Nat → Int) → Prop) (k0 : Nat → (Nat → Int) → Prop) (x0 : Nat) (x1 : Nat → Int) (x2 : Nat) (x3 : Nat → Int) : Prop :=
  br (ltI 0 ↑x2) (zbm x0 x1 x2 x3 fun y0 y1 y2 y3 => again x2 x3 y2 y3) (k0 x0 x1)
def zax.l4 (k0 : Nat → (Nat → Int) → Prop) : Nat → Nat → (Nat → Int) → Nat → (Nat → Int) → Prop
  | 0 => fun _ _ _ _ => False
  | n + 1 => zax.l4.step (zax.l4 k0 n) k0
def zax.l4.entry : LoopEntry := ⟨LV.mk 64 [(0, 64)] 48 0 false, 0, 31, fun vs H K => match vs, H with
  | [EV.rsI IntKind.u32 x0 x1, EV.rsI IntKind.u32 x2 x3], [] => ∃ n, zax.l4 (fun y0 y1 => K (.exit 0) [EV.rsI IntKind.u32 y0 y1] []) n x0 x1 x2 x3
  | _, _ => False⟩
def zax.d (a0 : List UInt8) (a1 : List UInt8) (K : List UInt8 → Int → Prop) : Prop :=
  zbn a0 a1 fun y0 => br (!y0) (K [] 2) (zbt a0 fun y0 y1 => zbt a1 fun y0_1 y1_1 => ∃ n, zax.l4 (fun y0 y1 => zbl y0 y1 fun y0 => K y0 0) n y0 y1 y0_1 y1_1)
noncomputable def zax := shut zax.d
theorem zax.is : zax = zax.d := shut_is _
def zaz.d (a0 : List UInt8) (K : Int → Prop) : Prop :=
  zau a0 fun y0 => br (!eqI y0 0) (K 0) (br (eqS a0 []) (K 0) (gd (ltI 0 ↑(List.length a0)) (zdt (cvI IntKind.u64 (byteAt a0 0)) fun y0 => K (addI IntKind.i64 (mulI IntKind.i64 8 (subI IntKind.i64 (↑(List.length a0)) 1)) y0))))
noncomputable def zaz := shut zaz.d
theorem zaz.is : zaz = zaz.d := shut_is _
def zay.d (a0 : List UInt8) (a1 : Int) (K : List UInt8 → Int → Prop) : Prop :=
  zau a0 fun y0 => br (!eqI y0 0) (K [] 2) (br (ltI a1 0) (K [] 2) (br (eqS a0 []) (K [] 0) (zaz a0 fun y0 => br (ltI (subI IntKind.i64 131072 y0) a1) (K [] 4) (zbt a0 fun y0 y1 => zbr y0 y1 a1 (zbq 0 (fun x => 0) fun y0 y1 => K y0 y1) fun y0 y1 y2 y3 => zbq y0 y3 fun y0 y1 => K y0 y1))))
noncomputable def zay := shut zay.d
theorem zay.is : zay = zay.d := shut_is _
def zba.l4.step (again : List UInt8 → Int → Prop) (k0 : Int → Prop) (k1 : Prop) (x0 : List UInt8) (x1 : Int) : Prop :=
  br (leI 0 x1) (gd (leI 0 x1 && ltI x1 ↑(List.length x0)) (br (!eqI (byteAt x0 (Int.toNat x1)) 0) (gd (leI 0 x1 && ltI x1 ↑(List.length x0)) (zdu (cvI IntKind.u64 (byteAt x0 (Int.toNat x1))) fun y0 => k0 (addI IntKind.i64 (mulI IntKind.i64 8 (subI IntKind.i64 (subI IntKind.i64 (↑(List.length x0)) 1) x1)) y0))) (again x0 (subI IntKind.i64 x1 1)))) k1
def zba.l4 (k0 : Int → Prop) (k1 : Prop) : Nat → List UInt8 → Int → Prop
  | 0 => fun _ _ => False
  | n + 1 => zba.l4.step (zba.l4 k0 k1 n) k0 k1
def zba.l4.entry : LoopEntry := ⟨LV.mk 0 [(0, 0)] 4 0 false, 0, 30, fun vs H K => match vs, H with
  | [EV.str x0, EV.int IntKind.i64 x1], [] => ∃ n, zba.l4 (fun y0 => K .ret [EV.int IntKind.i64 y0] []) (K (.exit 0) [] []) n x0 x1
  | _, _ => False⟩
def zba.d (a0 : List UInt8) (K : Int → Prop) : Prop :=
  zau a0 fun y0 => br (!eqI y0 0) (K 0) (∃ n, zba.l4 (fun y0 => K y0) (K 0) n a0 (subI IntKind.i64 (↑(List.length a0)) 1))
noncomputable def zba := shut zba.d
theorem zba.is : zba = zba.d := shut_is _
def zbp.l7.step (again : Nat → (Nat → Int) → Nat → Nat → Int → Int → Int → Nat → (Nat → Int) → Int → Int → Nat → (Nat → Int) → Int → Int → Nat → (Nat → Int) → Prop) (k0 : Nat → (Nat → Int) → Nat → Nat → Int → Int → Nat → (Nat → Int) → Int → Int → Nat → (Nat → Int) → Prop) (x0 : Nat) (x1 : Nat → Int) (x2 : Nat) (x3 : Nat) (x4 : Int) (x5 : Int) (x6 : Int) (x7 : Nat) (x8 : Nat → Int) (x9 : Int) (x10 : Int) (x11 : Nat) (x12 : Nat → Int) (x13 : Int) (x14 : Int) (x15 : Nat) (x16 : Nat → Int) : Prop :=
  br (ltI x14 x13) (gd (leI 0 x14 && ltI x14 ↑x11) (gd (leI 0 (addI IntKind.i64 x4 x14) && ltI (addI IntKind.i64 x4 x14) ↑x2) (gd (leI 0 (addI IntKind.i64 x4 x14) && ltI (addI IntKind.i64 x4 x14) ↑x2) (again x0 x1 x2 x3 x4 x5 (shrI IntKind.u64 (addI IntKind.u64 x6 (addI IntKind.u64 (mulI IntKind.u64 (cvI IntKind.u64 x5) (cvI IntKind.u64 (x12 (Int.toNat x14)))) (cvI IntKind.u64 (x16 (Int.toNat (addI IntKind.i64 x4 x14)))))) 32) x7 x8 x9 x10 x11 x12 x13 (addI IntKind.i64 x14 1) x15 (upd x16 (Int.toNat (addI IntKind.i64 x4 x14)) (cvI IntKind.u32 (addI IntKind.u64 x6 (addI IntKind.u64 (mulI IntKind.u64 (cvI IntKind.u64 x5) (cvI IntKind.u64 (x12 (Int.toNat x14)))) (cvI IntKind.u64 (x16 (Int.toNat (addI IntKind.i64 x4 x14)))))))))))) (k0 x0 x1 x2 x3 x4 x6 x7 x8 x9 x10 x15 x16)
def zbp.l7 (k0 : Nat → (Nat → Int) → Nat → Nat → Int → Int → Nat → (Nat → Int) → Int → Int → Nat → (Nat → Int) → Prop) : Nat → Nat → (Nat → Int) → Nat → Nat → Int → Int → Int → Nat → (Nat → Int) → Int → Int → Nat → (Nat → Int) → Int → Int → Nat → (Nat → Int) → Prop
  | 0 => fun _ _ _ _ _ _ _ _ _ _ _ _ _ _ _ _ _ => False
  | n + 1 => zbp.l7.step (zbp.l7 k0 n) k0
def zbp.l7.entry : LoopEntry := ⟨LV.mk 917858 [(2, 917858), (1, 917538), (0, 32)] 16 0 false, 0, 67, fun vs H K => match vs, H with
  | [EV.rsI IntKind.u32 x0 x1, EV.slice 0 0 x2 (some x3) 1, EV.int IntKind.i64 x4, EV.int IntKind.u32 x5, EV.int IntKind.u64 x6, EV.rsI IntKind.u32 x7 x8, EV.int IntKind.i64 x9, EV.int IntKind.i64 x10, EV.rsI IntKind.u32 x11 x12, EV.int IntKind.i64 x13, EV.int IntKind.i64 x14], [some (EV.arr IntKind.u32 x15 x16)] => ∃ n, zbp.l7 (fun y0 y1 y2 y3 y4 y5 y6 y7 y8 y9 y10 y11 => K (.exit 2) [EV.rsI IntKind.u32 y0 y1, EV.slice 0 0 y2 (some y3) 1, EV.int IntKind.i64 y4, EV.int IntKind.u64 y5, EV.rsI IntKind.u32 y6 y7, EV.int IntKind.i64 y8, EV.int IntKind.i64 y9] [some (EV.arr IntKind.u32 y10 y11)]) n x0 x1 x2 x3 x4 x5 x6 x7 x8 x9 x10 x11 x12 x13 x14 x15 x16
  | _, _ => False⟩
def zbp.l3.step (again : Nat → (Nat → Int) → Nat → Nat → Nat → (Nat → Int) → Int → Int → Nat → (Nat → Int) → Prop) (k0 : Nat → Nat → Nat → (Nat → Int) → Prop) (x0 : Nat) (x1 : Nat → Int) (x2 : Nat) (x3 : Nat) (x4 : Nat) (x5 : Nat → Int) (x6 : Int) (x7 : Int) (x8 : Nat) (x9 : Nat → Int) : Prop :=
  br (ltI x7 x6) (gd (leI 0 x7 && ltI x7 ↑x4) (∃ n, zbp.l7 (fun y0 y1 y2 y3 y4 y5 y6 y7 y8 y9 y10 y11 => gd (leI 0 (addI IntKind.i64 y4 ↑y0) && ltI (addI IntKind.i64 y4 ↑y0) ↑y2) (again y0 y1 y2 y3 y6 y7 y8 (addI IntKind.i64 y9 1) y10 (upd y11 (Int.toNat (addI IntKind.i64 y4 ↑y0)) (cvI IntKind.u32 y5)))) n x0 x1 x2 x3 x7 (x5 (Int.toNat x7)) 0 x4 x5 x6 x7 x0 x1 (↑x0) 0 x8 x9)) (k0 x2 x3 x8 x9)
def zbp.l3 (k0 : Nat → Nat → Nat → (Nat → Int) → Prop) : Nat → Nat → (Nat → Int) → Nat → Nat → Nat → (Nat → Int) → Int → Int → Nat → (Nat → Int) → Prop
  | 0 => fun _ _ _ _ _ _ _ _ _ _ => False
  | n + 1 => zbp.l3.step (zbp.l3 k0 n) k0
def zbp.l3.entry : LoopEntry := ⟨LV.mk 32 [(0, 32)] 16 0 false, 0, 67, fun vs H K => match vs, H with
  | [EV.rsI IntKind.u32 x0 x1, EV.slice 0 0 x2 (some x3) 1, EV.rsI IntKind.u32 x4 x5, EV.int IntKind.i64 x6, EV.int IntKind.i64 x7], [some (EV.arr IntKind.u32 x8 x9)] => ∃ n, zbp.l3 (fun y0 y1 y2 y3 => K (.exit 0) [EV.slice 0 0 y0 (some y1) 1] [some (EV.arr IntKind.u32 y2 y3)]) n x0 x1 x2 x3 x4 x5 x6 x7 x8 x9
  | _, _ => False⟩
def zbp.d (a0n : Nat) (a0 : Nat → Int) (a1n : Nat) (a1 : Nat → Int) (K : Nat → (Nat → Int) → Prop) : Prop :=
  gd (leI 0 (addI IntKind.i64 ↑a0n ↑a1n) && (leI (addI IntKind.i64 ↑a0n ↑a1n) (addI IntKind.i64 ↑a0n ↑a1n) && leI (addI IntKind.i64 ↑a0n ↑a1n) 1099511627776)) (∃ n, zbp.l3 (fun y0 y1 y2 y3 => zbg y0 y1 y2 y3 fun y0 y1 y2 y3 => K y0 y3) n a1n a1 (Int.toNat (addI IntKind.i64 ↑a0n ↑a1n)) (Int.toNat (addI IntKind.i64 ↑a0n ↑a1n)) a0n a0 (↑a0n) 0 (Int.toNat (addI IntKind.i64 ↑a0n ↑a1n)) fun x => 0)
noncomputable def zbp := shut zbp.d
theorem zbp.is : zbp = zbp.d := shut_is _
def zbb.d (a0 : List UInt8) (a1 : Int) (K : List UInt8 → Bool → Int → Prop) : Prop :=
  zau a0 fun y0 => br (!eqI y0 0) (K [] false 2) (br (ltI a1 0) (K [] false 2) (br (eqS a0 []) (K [] false 0) (zbt a0 fun y0 y1 => zbi y0 y1 a1 fun y0 y1 => zbl y0 y1 fun y0 => zba a0 fun y0_1 => K y0 (ltI y0_1 a1) 0)))
noncomputable def zbb := shut zbb.d
theorem zbb.is : zbb = zbb.d := shut_is _
def zbj.d (a0n : Nat) (a0 : Nat → Int) (K : Int → Prop) : Prop :=
  br (eqI (↑a0n) 0) (K 0) (gd (leI 0 (subI IntKind.i64 (↑a0n) 1) && ltI (subI IntKind.i64 (↑a0n) 1) ↑a0n) (zdt (cvI IntKind.u64 (a0 (Int.toNat (subI IntKind.i64 (↑a0n) 1)))) fun y0 => K (addI IntKind.i64 (mulI IntKind.i64 32 (subI IntKind.i64 (↑a0n) 1)) y0)))
noncomputable def zbj := shut zbj.d
theorem zbj.is : zbj = zbj.d := shut_is _
def zbk.l4.step (again : Nat → (Nat → Int) → Nat → (Nat → Int) → Nat → Nat → Int → Int → Int → Nat → (Nat → Int) → Prop) (k0 : Nat → Nat → Nat → (Nat → Int) → Prop) (x0 : Nat) (x1 : Nat → Int) (x2 : Nat) (x3 : Nat → Int) (x4 : Nat) (x5 : Nat) (x6 : Int) (x7 : Int) (x8 : Int) (x9 : Nat) (x10 : Nat → Int) : Prop :=
  br (ltI x8 x7) (gd (leI 0 x8 && ltI x8 ↑x0) (br (ltI x8 ↑x2) (gd (leI 0 x8 && ltI x8 ↑x2) (gd (leI 0 x8 && ltI x8 ↑x4) (again x0 x1 x2 x3 x4 x5 (shrI IntKind.i64 (subI IntKind.i64 (addI IntKind.i64 x6 (cvI IntKind.i64 (x1 (Int.toNat x8)))) (cvI IntKind.i64 (x3 (Int.toNat x8)))) 32) x7 (addI IntKind.i64 x8 1) x9 (upd x10 (Int.toNat x8) (cvI IntKind.u32 (subI IntKind.i64 (addI IntKind.i64 x6 (cvI IntKind.i64 (x1 (Int.toNat x8)))) (cvI IntKind.i64 (x3 (Int.toNat x8))))))))) (gd (leI 0 x8 && ltI x8 ↑x4) (again x0 x1 x2 x3 x4 x5 (shrI IntKind.i64 (addI IntKind.i64 x6 (cvI IntKind.i64 (x1 (Int.toNat x8)))) 32) x7 (addI IntKind.i64 x8 1) x9 (upd x10 (Int.toNat x8) (cvI IntKind.u32 (addI IntKind.i64 x6 (cvI IntKind.i64 (x1 (Int.toNat x8)))))))))) (k0 x4 x5 x9 x10)
def zbk.l4 (k0 : Nat → Nat → Nat → (Nat → Int) → Prop) : Nat → Nat → (Nat → Int) → Nat → (Nat → Int) → Nat → Nat → Int → Int → Int → Nat → (Nat → Int) → Prop
  | 0 => fun _ _ _ _ _ _ _ _ _ _ _ => False
  | n + 1 => zbk.l4.step (zbk.l4 k0 n) k0
def zbk.l4.entry : LoopEntry := ⟨LV.mk 32 [(0, 32)] 16 0 false, 0, 44, fun vs H K => match vs, H with
  | [EV.rsI IntKind.u32 x0 x1, EV.rsI IntKind.u32 x2 x3, EV.slice 0 0 x4 (some x5) 1, EV.int IntKind.i64 x6, EV.int IntKind.i64 x7, EV.int IntKind.i64 x8], [some (EV.arr IntKind.u32 x9 x10)] => ∃ n, zbk.l4 (fun y0 y1 y2 y3 => K (.exit 0) [EV.slice 0 0 y0 (some y1) 1] [some (EV.arr IntKind.u32 y2 y3)]) n x0 x1 x2 x3 x4 x5 x6 x7 x8 x9 x10
  | _, _ => False⟩
def zbk.d (a0n : Nat) (a0 : Nat → Int) (a1n : Nat) (a1 : Nat → Int) (K : Nat → (Nat → Int) → Prop) : Prop :=
  gd (leI 0 ↑a0n && (leI ↑a0n ↑a0n && leI (↑a0n) 1099511627776)) (∃ n, zbk.l4 (fun y0 y1 y2 y3 => zbg y0 y1 y2 y3 fun y0 y1 y2 y3 => K y0 y3) n a0n a0 a1n a1 (Int.toNat ↑a0n) (Int.toNat ↑a0n) 0 (↑a0n) 0 (Int.toNat ↑a0n) fun x => 0)
noncomputable def zbk := shut zbk.d
theorem zbk.is : zbk = zbk.d := shut_is _
def zbs.l5.step (again : Int → Nat → Nat → Nat → (Nat → Int) → Int → Int → Nat → (Nat → Int) → Prop) (k0 : Nat → Nat → Nat → (Nat → Int) → Prop) (x0 : Int) (x1 : Nat) (x2 : Nat) (x3 : Nat) (x4 : Nat → Int) (x5 : Int) (x6 : Int) (x7 : Nat) (x8 : Nat → Int) : Prop :=
  br (ltI x6 x5) (gd (leI 0 x6 && ltI x6 ↑x3) (gd (!ltI (cvI IntKind.u64 (remI IntKind.i64 x0 32)) 0) (gd (leI 0 (addI IntKind.i64 x6 (quoI IntKind.i64 x0 32)) && ltI (addI IntKind.i64 x6 (quoI IntKind.i64 x0 32)) ↑x1) (gd (leI 0 (addI IntKind.i64 x6 (quoI IntKind.i64 x0 32)) && ltI (addI IntKind.i64 x6 (quoI IntKind.i64 x0 32)) ↑x1) (gd (leI 0 (addI IntKind.i64 (addI IntKind.i64 x6 (quoI IntKind.i64 x0 32)) 1) && ltI (addI IntKind.i64 (addI IntKind.i64 x6 (quoI IntKind.i64 x0 32)) 1) ↑x1) (gd (leI 0 (addI IntKind.i64 (addI IntKind.i64 x6 (quoI IntKind.i64 x0 32)) 1) && ltI (addI IntKind.i64 (addI IntKind.i64 x6 (quoI IntKind.i64 x0 32)) 1) ↑x1) (again x0 x1 x2 x3 x4 x5 (addI IntKind.i64 x6 1) x7 (upd (upd x8 (Int.toNat (addI IntKind.i64 x6 (quoI IntKind.i64 x0 32))) (orI IntKind.u32 (x8 (Int.toNat (addI IntKind.i64 x6 (quoI IntKind.i64 x0 32)))) (cvI IntKind.u32 (shlI IntKind.u64 (cvI IntKind.u64 (x4 (Int.toNat x6))) (cvI IntKind.u64 (remI IntKind.i64 x0 32)))))) (Int.toNat (addI IntKind.i64 (addI IntKind.i64 x6 (quoI IntKind.i64 x0 32)) 1)) (orI IntKind.u32 (upd x8 (Int.toNat (addI IntKind.i64 x6 (quoI IntKind.i64 x0 32))) (orI IntKind.u32 (x8 (Int.toNat (addI IntKind.i64 x6 (quoI IntKind.i64 x0 32)))) (cvI IntKind.u32 (shlI IntKind.u64 (cvI IntKind.u64 (x4 (Int.toNat x6))) (cvI IntKind.u64 (remI IntKind.i64 x0 32))))) (Int.toNat (addI IntKind.i64 (addI IntKind.i64 x6 (quoI IntKind.i64 x0 32)) 1))) (cvI IntKind.u32 (shrI IntKind.u64 (shlI IntKind.u64 (cvI IntKind.u64 (x4 (Int.toNat x6))) (cvI IntKind.u64 (remI IntKind.i64 x0 32))) 32))))))))))) (k0 x1 x2 x7 x8)
def zbs.l5 (k0 : Nat → Nat → Nat → (Nat → Int) → Prop) : Nat → Int → Nat → Nat → Nat → (Nat → Int) → Int → Int → Nat → (Nat → Int) → Prop
  | 0 => fun _ _ _ _ _ _ _ _ _ => False
  | n + 1 => zbs.l5.step (zbs.l5 k0 n) k0
def zbs.l5.entry : LoopEntry := ⟨LV.mk 32 [(0, 32)] 16 0 false, 0, 59, fun vs H K => match vs, H with
  | [EV.int IntKind.i64 x0, EV.slice 0 0 x1 (some x2) 1, EV.rsI IntKind.u32 x3 x4, EV.int IntKind.i64 x5, EV.int IntKind.i64 x6], [some (EV.arr IntKind.u32 x7 x8)] => ∃ n, zbs.l5 (fun y0 y1 y2 y3 => K (.exit 0) [EV.slice 0 0 y0 (some y1) 1] [some (EV.arr IntKind.u32 y2 y3)]) n x0 x1 x2 x3 x4 x5 x6 x7 x8
  | _, _ => False⟩
def zbs.d (a0n : Nat) (a0 : Nat → Int) (a1 : Int) (K : Nat → (Nat → Int) → Prop) : Prop :=
  br (eqI (↑a0n) 0) (K 0 fun x => 0) (gd (leI 0 (addI IntKind.i64 (addI IntKind.i64 (↑a0n) (quoI IntKind.i64 a1 32)) 1) && (leI (addI IntKind.i64 (addI IntKind.i64 (↑a0n) (quoI IntKind.i64 a1 32)) 1) (addI IntKind.i64 (addI IntKind.i64 (↑a0n) (quoI IntKind.i64 a1 32)) 1) && leI (addI IntKind.i64 (addI IntKind.i64 (↑a0n) (quoI IntKind.i64 a1 32)) 1) 1099511627776)) (∃ n, zbs.l5 (fun y0 y1 y2 y3 => zbg y0 y1 y2 y3 fun y0 y1 y2 y3 => K y0 y3) n a1 (Int.toNat (addI IntKind.i64 (addI IntKind.i64 (↑a0n) (quoI IntKind.i64 a1 32)) 1)) (Int.toNat (addI IntKind.i64 (addI IntKind.i64 (↑a0n) (quoI IntKind.i64 a1 32)) 1)) a0n a0 (↑a0n) 0 (Int.toNat (addI IntKind.i64 (addI IntKind.i64 (↑a0n) (quoI IntKind.i64 a1 32)) 1)) fun x => 0))
noncomputable def zbs := shut zbs.d
theorem zbs.is : zbs = zbs.d := shut_is _
def zbc.l7.step (again : Nat → (Nat → Int) → Nat → (Nat → Int) → Prop) (k0 : Nat → (Nat → Int) → Nat → (Nat → Int) → Prop) (x0 : Nat) (x1 : Nat → Int) (x2 : Nat) (x3 : Nat → Int) : Prop :=
  zbm x0 x1 x2 x3 fun y0 y1 y2 y3 => zbo x2 x3 y0 y1 fun y0 y1 => zbi y0 y1 1 fun y0 y1 => zbe y0 y1 x2 x3 fun y0_1 => br (leI 0 y0_1) (k0 x0 x1 x2 x3) (again x0 x1 y0 y1)
def zbc.l7 (k0 : Nat → (Nat → Int) → Nat → (Nat → Int) → Prop) : Nat → Nat → (Nat → Int) → Nat → (Nat → Int) → Prop
  | 0 => fun _ _ _ _ => False
  | n + 1 => zbc.l7.step (zbc.l7 k0 n) k0
def zbc.l7.entry : LoopEntry := ⟨LV.mk 96 [(0, 96)] 28 0 false, 0, 46, fun vs H K => match vs, H with
  | [EV.rsI IntKind.u32 x0 x1, EV.rsI IntKind.u32 x2 x3], [] => ∃ n, zbc.l7 (fun y0 y1 y2 y3 => K (.exit 0) [EV.rsI IntKind.u32 y0 y1, EV.rsI IntKind.u32 y2 y3] []) n x0 x1 x2 x3
  | _, _ => False⟩
def zbc.d (a0 : List UInt8) (K : List UInt8 → List UInt8 → Int → Prop) : Prop :=
  zau a0 fun y0 => br (!eqI y0 0) (K [] [] 2) (br (eqS a0 []) (K [] [] 0) (zbt a0 fun y0 y1 => zbj y0 y1 fun y0_1 => zbs 1 (upd (fun x => 0) 0 1) (quoI IntKind.i64 (addI IntKind.i64 y0_1 1) 2) fun y0_2 y1_1 => ∃ n, zbc.l7 (fun y0 y1 y2 y3 => zbl y2 y3 fun y0_3 => zbp y2 y3 y2 y3 fun y0_4 y1_2 => zbk y0 y1 y0_4 y1_2 fun y0 y1 => zbl y0 y1 fun y0 => K y0_3 y0 0) n y0 y1 y0_2 y1_1))
noncomputable def zbc := shut zbc.d
theorem zbc.is : zbc = zbc.d := shut_is _
def zbd.l4.step (again : List UInt8 → Nat → (Nat → Int) → Int → Int → (Nat → Int) → Prop) (k0 : List UInt8 → (Nat → Int) → Prop) (x0 : List UInt8) (x1 : Nat) (x2 : Nat → Int) (x3 : Int) (x4 : Int) (x5 : Nat → Int) : Prop :=
  br (ltI x4 x3) (gd (leI 0 x4 && ltI x4 ↑x1) (gd (leI 0 (quoI IntKind.i64 x4 2) && ltI (quoI IntKind.i64 x4 2) 6) (gd (!ltI (cvI IntKind.u64 (mulI IntKind.i64 32 (remI IntKind.i64 x4 2))) 0) (gd (leI 0 (quoI IntKind.i64 x4 2) && ltI (quoI IntKind.i64 x4 2) 6) (again x0 x1 x2 x3 (addI IntKind.i64 x4 1) (upd x5 (Int.toNat (quoI IntKind.i64 x4 2)) (orI IntKind.u64 (x5 (Int.toNat (quoI IntKind.i64 x4 2))) (shlI IntKind.u64 (cvI IntKind.u64 (x2 (Int.toNat x4))) (cvI IntKind.u64 (mulI IntKind.i64 32 (remI IntKind.i64 x4 2))))))))))) (k0 x0 x5)
def zbd.l4 (k0 : List UInt8 → (Nat → Int) → Prop) : Nat → List UInt8 → Nat → (Nat → Int) → Int → Int → (Nat → Int) → Prop
  | 0 => fun _ _ _ _ _ _ => False
  | n + 1 => zbd.l4.step (zbd.l4 k0 n) k0
def zbd.l4.entry : LoopEntry := ⟨LV.mk 5 [(0, 5)] 12 0 false, 0, 43, fun vs H K => match vs, H with
  | [EV.str x0, EV.ptr 0 [], EV.rsI IntKind.u32 x1 x2, EV.int IntKind.i64 x3, EV.int IntKind.i64 x4], [some (EV.arr IntKind.u64 6 x5)] => ∃ n, zbd.l4 (fun y0 y1 => K (.exit 0) [EV.str y0, EV.ptr 0 []] [some (EV.arr IntKind.u64 6 y1)]) n x0 x1 x2 x3 x4 x5
  | _, _ => False⟩
def zbd.d (a0 : List UInt8) (K : (Nat → Int) → Bool → Prop) : Prop :=
  zau a0 fun y0 => br (!eqI y0 0) (K (fun x => 0) false) (br (ltI 48 ↑(List.length a0)) (K (fun x => 0) false) (zbt a0 fun y0 y1 => ∃ n, zbd.l4 (fun y0 y1 => zdn y1 fun y0_1 => zaz y0 fun y0 => K y1 (eqI y0_1 y0)) n a0 y0 y1 (↑y0) 0 fun x => 0))
noncomputable def zbd := shut zbd.d
theorem zbd.is : zbd = zbd.d := shut_is _
end Go.Ev.S

/- The functions as the evaluator has them: what each comes to. -/
set_option maxRecDepth 100000
set_option linter.unusedVariables false
set_option linter.unusedSimpArgs false
namespace Go.Ev.S
open Go Go.Ev
end Go.Ev.S

/- The functions as the evaluator has them: what each comes to. -/
set_option maxRecDepth 100000
set_option linter.unusedVariables false
set_option linter.unusedSimpArgs false
namespace Go.Ev.S
open Go Go.Ev
end Go.Ev.S

/- The functions as the evaluator has them: what each comes to. -/
set_option maxRecDepth 100000
set_option linter.unusedVariables false
set_option linter.unusedSimpArgs false
namespace Go.Ev.S
open Go Go.Ev
end Go.Ev.S

/- The functions as the evaluator has them: what each comes to. -/
set_option maxRecDepth 100000
set_option linter.unusedVariables false
set_option linter.unusedSimpArgs false
namespace Go.Ev.S
open Go Go.Ev
def zaj.d (K : Bool → List UInt8 → List UInt8 → Int → Prop) : Prop :=
  K false [] [1] 0
noncomputable def zaj := shut zaj.d
theorem zaj.is : zaj = zaj.d := shut_is _
def zak.d (a0 : List UInt8) (K : Bool → Prop) : Prop :=
  br (!eqS a0 []) (gd (leI 0 (subI IntKind.i64 (↑(List.length a0)) 1) && ltI (subI IntKind.i64 (↑(List.length a0)) 1) ↑(List.length a0)) (K (eqI (andI IntKind.u8 (byteAt a0 (Int.toNat (subI IntKind.i64 (↑(List.length a0)) 1))) 1) 1))) (K false)
noncomputable def zak := shut zak.d
theorem zak.is : zak = zak.d := shut_is _
def zam.d (a0 : Int) (K : Bool → Prop) : Prop :=
  br (leI (-1048576) a0) (K (leI a0 1048576)) (K false)
noncomputable def zam := shut zam.d
theorem zam.is : zam = zam.d := shut_is _
def zad.d (a0_0 : Bool) (a0_1 : List UInt8) (a0_2 : List UInt8) (a0_3 : Int) (K : Int → Prop) : Prop :=
  zau a0_1 fun y0 => br (!eqI y0 0) (K 2) (zau a0_2 fun y0 => br (!eqI y0 0) (K 2) (zak a0_2 fun y0 => br (!y0) (K 2) (zam a0_3 fun y0 => br (!y0) (K 2) (br (eqS a0_1 []) (zaj fun y0 y1 y2 y3 => br (!(beqB a0_0 y0 && (eqS a0_1 y1 && (eqS a0_2 y2 && eqI a0_3 y3)))) (K 2) (K 0)) (zax a0_1 a0_2 fun y0 y1 => zak a0_1 fun y0_1 => br (!y0_1) (K 2) (br (!eqS y0 [1]) (K 2) (K 0)))))))
noncomputable def zad := shut zad.d
theorem zad.is : zad = zad.d := shut_is _
def zac.d (a0_0 : Bool) (a0_1 : List UInt8) (a0_2 : List UInt8) (a0_3 : Int) (K : Bool → List UInt8 → List UInt8 → Int → Prop) : Prop :=
  zad a0_0 a0_1 a0_2 a0_3 fun y0 => br (!eqI y0 0) (K false [] [] 0) (K false a0_1 a0_2 a0_3)
noncomputable def zac := shut zac.d
theorem zac.is : zac = zac.d := shut_is _
def zaf.d (a0 : Bool) (a1 : List UInt8) (a2 : List UInt8) (a3 : Int) (K : Bool → List UInt8 → List UInt8 → Int → Int → Prop) : Prop :=
  zau a1 fun y0 => br (!eqI y0 0) (K false [] [] 0 2) (zau a2 fun y0 => br (!eqI y0 0) (K false [] [] 0 2) (br (eqS a2 []) (K false [] [] 0 2) (zam a3 fun y0 => br (!y0) (K false [] [] 0 2) (br (eqS a1 []) (zaj fun y0 y1 y2 y3 => K y0 y1 y2 y3 0) (zba a1 fun y0 => zba a2 fun y0_1 => zbb a1 y0 fun y0_2 y1 y2 => zbb a2 y0_1 fun y0_3 y1 y2 => zax y0_2 y0_3 fun y0_4 y1 => br (!eqS y0_4 [1]) (zaw y0_2 y0_4 fun y0_5 y1 y2 => zaw y0_3 y0_4 fun y0_6 y1 y2 => zam (addI IntKind.i64 a3 (subI IntKind.i64 y0 y0_1)) fun y0_7 => br (!y0_7) (K false [] [] 0 4) (K a0 y0_5 y0_6 (addI IntKind.i64 a3 (subI IntKind.i64 y0 y0_1)) 0)) (zam (addI IntKind.i64 a3 (subI IntKind.i64 y0 y0_1)) fun y0_5 => br (!y0_5) (K false [] [] 0 4) (K a0 y0_2 y0_3 (addI IntKind.i64 a3 (subI IntKind.i64 y0 y0_1)) 0)))))))
noncomputable def zaf := shut zaf.d
theorem zaf.is : zaf = zaf.d := shut_is _
def zah.d (a0_0 : Bool) (a0_1 : List UInt8) (a0_2 : List UInt8) (a0_3 : Int) (K : Int → Prop) : Prop :=
  zad a0_0 a0_1 a0_2 a0_3 fun y0 => br (!eqI y0 0) (K 0) (br (eqS a0_1 []) (K 0) (br a0_0 (K (-1)) (K 1)))
noncomputable def zah := shut zah.d
theorem zah.is : zah = zah.d := shut_is _
def zal.d (a0_0 : Bool) (a0_1 : List UInt8) (a0_2 : List UInt8) (a0_3 : Int) (K : Int → Prop) : Prop :=
  zaz a0_1 fun y0 => zaz a0_2 fun y0_1 => br (leI 0 (subI IntKind.i64 y0 y0_1)) (zay a0_2 (subI IntKind.i64 y0 y0_1) fun y0_2 y1 => zav a0_1 y0_2 fun y0_3 y1 => br (ltI y0_3 0) (K (addI IntKind.i64 (subI IntKind.i64 (subI IntKind.i64 y0 y0_1) 1) a0_3)) (K (addI IntKind.i64 (subI IntKind.i64 y0 y0_1) a0_3))) (zay a0_1 (negI IntKind.i64 (subI IntKind.i64 y0 y0_1)) fun y0_2 y1 => zav y0_2 a0_2 fun y0_3 y1 => br (ltI y0_3 0) (K (addI IntKind.i64 (subI IntKind.i64 (subI IntKind.i64 y0 y0_1) 1) a0_3)) (K (addI IntKind.i64 (subI IntKind.i64 y0 y0_1) a0_3)))
noncomputable def zal := shut zal.d
theorem zal.is : zal = zal.d := shut_is _
def zae.d (a0_0 : Bool) (a0_1 : List UInt8) (a0_2 : List UInt8) (a0_3 : Int) (a1 : Int) (K : List UInt8 → Bool → Int → Prop) : Prop :=
  zad a0_0 a0_1 a0_2 a0_3 fun y0 => br (!eqI y0 0) (K [] false 2) (br (ltI a1 (-2097152)) (K [] false 2) (br (ltI 2097152 a1) (K [] false 2) (br (eqS a0_1 []) (K [] true 0) (br (leI a1 a0_3) (zay a0_1 (subI IntKind.i64 a0_3 a1) fun y0 y1 => br (!eqI y1 0) (K [] false y1) (zaw y0 a0_2 fun y0 y1 y2 => K y0 (eqS y1 []) 0)) (zal a0_0 a0_1 a0_2 a0_3 fun y0 => br (ltI y0 a1) (K [] false 0) (zay a0_2 (subI IntKind.i64 a1 a0_3) fun y0 y1 => zaw a0_1 y0 fun y0 y1 y2 => K y0 (eqS y1 []) 0))))))
noncomputable def zae := shut zae.d
theorem zae.is : zae = zae.d := shut_is _
def zag.d (a0_0 : Bool) (a0_1 : List UInt8) (a0_2 : List UInt8) (a0_3 : Int) (K : Bool → List UInt8 → List UInt8 → Int → Prop) : Prop :=
  zad a0_0 a0_1 a0_2 a0_3 fun y0 => br (!eqI y0 0) (K false [] [] 0) (br (!a0_0) (K (!eqS a0_1 []) a0_1 a0_2 a0_3) (K false a0_1 a0_2 a0_3))
noncomputable def zag := shut zag.d
theorem zag.is : zag = zag.d := shut_is _
def zai.d (a0_0 : Bool) (a0_1 : List UInt8) (a0_2 : List UInt8) (a0_3 : Int) (K : Int → Int → Prop) : Prop :=
  zad a0_0 a0_1 a0_2 a0_3 fun y0 => br (!eqI y0 0) (K 0 2) (br (eqS a0_1 []) (K 0 2) (zal a0_0 a0_1 a0_2 a0_3 fun y0 => K y0 0))
noncomputable def zai := shut zai.d
theorem zai.is : zai = zai.d := shut_is _
end Go.Ev.S

/- The functions as the evaluator has them: what each comes to. -/
set_option maxRecDepth 100000
set_option linter.unusedVariables false
set_option linter.unusedSimpArgs false
namespace Go.Ev.S
open Go Go.Ev
def zcw.d (a0 : Int) (K : Int → Prop) : Prop :=
  br (ltI 3 a0) (K 2) (K 0)
noncomputable def zcw := shut zcw.d
theorem zcw.is : zcw = zcw.d := shut_is _
def zcx.d (a0 : Int) (K : Int → Prop) : Prop :=
  br (ltI 4 a0) (K 2) (K 0)
noncomputable def zcx := shut zcx.d
theorem zcx.is : zcx = zcx.d := shut_is _
def zdi.d (a0 : Int) (K : Int → Int → Int → List UInt8 → Prop) : Prop :=
  br (leI 4 (cvI IntKind.i64 a0)) (K 0 0 0 []) (br (eqI a0 0) (br (eqI a0 0) (br (eqI a0 0) (br (eqI a0 0) (K 32 24 127 [115]) (br (eqI a0 1) (K 32 24 127 [100]) (br (eqI a0 2) (K 32 24 127 [104]) (br (eqI a0 3) (K 32 24 127 [113]) False)))) (br (eqI a0 1) (br (eqI a0 0) (K 32 24 1023 [115]) (br (eqI a0 1) (K 32 24 1023 [100]) (br (eqI a0 2) (K 32 24 1023 [104]) (br (eqI a0 3) (K 32 24 1023 [113]) False)))) (br (eqI a0 2) (br (eqI a0 0) (K 32 24 15 [115]) (br (eqI a0 1) (K 32 24 15 [100]) (br (eqI a0 2) (K 32 24 15 [104]) (br (eqI a0 3) (K 32 24 15 [113]) False)))) (br (eqI a0 3) (br (eqI a0 0) (K 32 24 16383 [115]) (br (eqI a0 1) (K 32 24 16383 [100]) (br (eqI a0 2) (K 32 24 16383 [104]) (br (eqI a0 3) (K 32 24 16383 [113]) False)))) False)))) (br (eqI a0 1) (br (eqI a0 0) (br (eqI a0 0) (K 32 53 127 [115]) (br (eqI a0 1) (K 32 53 127 [100]) (br (eqI a0 2) (K 32 53 127 [104]) (br (eqI a0 3) (K 32 53 127 [113]) False)))) (br (eqI a0 1) (br (eqI a0 0) (K 32 53 1023 [115]) (br (eqI a0 1) (K 32 53 1023 [100]) (br (eqI a0 2) (K 32 53 1023 [104]) (br (eqI a0 3) (K 32 53 1023 [113]) False)))) (br (eqI a0 2) (br (eqI a0 0) (K 32 53 15 [115]) (br (eqI a0 1) (K 32 53 15 [100]) (br (eqI a0 2) (K 32 53 15 [104]) (br (eqI a0 3) (K 32 53 15 [113]) False)))) (br (eqI a0 3) (br (eqI a0 0) (K 32 53 16383 [115]) (br (eqI a0 1) (K 32 53 16383 [100]) (br (eqI a0 2) (K 32 53 16383 [104]) (br (eqI a0 3) (K 32 53 16383 [113]) False)))) False)))) (br (eqI a0 2) (br (eqI a0 0) (br (eqI a0 0) (K 32 11 127 [115]) (br (eqI a0 1) (K 32 11 127 [100]) (br (eqI a0 2) (K 32 11 127 [104]) (br (eqI a0 3) (K 32 11 127 [113]) False)))) (br (eqI a0 1) (br (eqI a0 0) (K 32 11 1023 [115]) (br (eqI a0 1) (K 32 11 1023 [100]) (br (eqI a0 2) (K 32 11 1023 [104]) (br (eqI a0 3) (K 32 11 1023 [113]) False)))) (br (eqI a0 2) (br (eqI a0 0) (K 32 11 15 [115]) (br (eqI a0 1) (K 32 11 15 [100]) (br (eqI a0 2) (K 32 11 15 [104]) (br (eqI a0 3) (K 32 11 15 [113]) False)))) (br (eqI a0 3) (br (eqI a0 0) (K 32 11 16383 [115]) (br (eqI a0 1) (K 32 11 16383 [100]) (br (eqI a0 2) (K 32 11 16383 [104]) (br (eqI a0 3) (K 32 11 16383 [113]) False)))) False)))) (br (eqI a0 3) (br (eqI a0 0) (br (eqI a0 0) (K 32 113 127 [115]) (br (eqI a0 1) (K 32 113 127 [100]) (br (eqI a0 2) (K 32 113 127 [104]) (br (eqI a0 3) (K 32 113 127 [113]) False)))) (br (eqI a0 1) (br (eqI a0 0) (K 32 113 1023 [115]) (br (eqI a0 1) (K 32 113 1023 [100]) (br (eqI a0 2) (K 32 113 1023 [104]) (br (eqI a0 3) (K 32 113 1023 [113]) False)))) (br (eqI a0 2) (br (eqI a0 0) (K 32 113 15 [115]) (br (eqI a0 1) (K 32 113 15 [100]) (br (eqI a0 2) (K 32 113 15 [104]) (br (eqI a0 3) (K 32 113 15 [113]) False)))) (br (eqI a0 3) (br (eqI a0 0) (K 32 113 16383 [115]) (br (eqI a0 1) (K 32 113 16383 [100]) (br (eqI a0 2) (K 32 113 16383 [104]) (br (eqI a0 3) (K 32 113 16383 [113]) False)))) False)))) False)))) (br (eqI a0 1) (br (eqI a0 0) (br (eqI a0 0) (br (eqI a0 0) (K 64 24 127 [115]) (br (eqI a0 1) (K 64 24 127 [100]) (br (eqI a0 2) (K 64 24 127 [104]) (br (eqI a0 3) (K 64 24 127 [113]) False)))) (br (eqI a0 1) (br (eqI a0 0) (K 64 24 1023 [115]) (br (eqI a0 1) (K 64 24 1023 [100]) (br (eqI a0 2) (K 64 24 1023 [104]) (br (eqI a0 3) (K 64 24 1023 [113]) False)))) (br (eqI a0 2) (br (eqI a0 0) (K 64 24 15 [115]) (br (eqI a0 1) (K 64 24 15 [100]) (br (eqI a0 2) (K 64 24 15 [104]) (br (eqI a0 3) (K 64 24 15 [113]) False)))) (br (eqI a0 3) (br (eqI a0 0) (K 64 24 16383 [115]) (br (eqI a0 1) (K 64 24 16383 [100]) (br (eqI a0 2) (K 64 24 16383 [104]) (br (eqI a0 3) (K 64 24 16383 [113]) False)))) False)))) (br (eqI a0 1) (br (eqI a0 0) (br (eqI a0 0) (K 64 53 127 [115]) (br (eqI a0 1) (K 64 53 127 [100]) (br (eqI a0 2) (K 64 53 127 [104]) (br (eqI a0 3) (K 64 53 127 [113]) False)))) (br (eqI a0 1) (br (eqI a0 0) (K 64 53 1023 [115]) (br (eqI a0 1) (K 64 53 1023 [100]) (br (eqI a0 2) (K 64 53 1023 [104]) (br (eqI a0 3) (K 64 53 1023 [113]) False)))) (br (eqI a0 2) (br (eqI a0 0) (K 64 53 15 [115]) (br (eqI a0 1) (K 64 53 15 [100]) (br (eqI a0 2) (K 64 53 15 [104]) (br (eqI a0 3) (K 64 53 15 [113]) False)))) (br (eqI a0 3) (br (eqI a0 0) (K 64 53 16383 [115]) (br (eqI a0 1) (K 64 53 16383 [100]) (br (eqI a0 2) (K 64 53 16383 [104]) (br (eqI a0 3) (K 64 53 16383 [113]) False)))) False)))) (br (eqI a0 2) (br (eqI a0 0) (br (eqI a0 0) (K 64 11 127 [115]) (br (eqI a0 1) (K 64 11 127 [100]) (br (eqI a0 2) (K 64 11 127 [104]) (br (eqI a0 3) (K 64 11 127 [113]) False)))) (br (eqI a0 1) (br (eqI a0 0) (K 64 11 1023 [115]) (br (eqI a0 1) (K 64 11 1023 [100]) (br (eqI a0 2) (K 64 11 1023 [104]) (br (eqI a0 3) (K 64 11 1023 [113]) False)))) (br (eqI a0 2) (br (eqI a0 0) (K 64 11 15 [115]) (br (eqI a0 1) (K 64 11 15 [100]) (br (eqI a0 2) (K 64 11 15 [104]) (br (eqI a0 3) (K 64 11 15 [113]) False)))) (br (eqI a0 3) (br (eqI a0 0) (K 64 11 16383 [115]) (br (eqI a0 1) (K 64 11 16383 [100]) (br (eqI a0 2) (K 64 11 16383 [104]) (br (eqI a0 3) (K 64 11 16383 [113]) False)))) False)))) (br (eqI a0 3) (br (eqI a0 0) (br (eqI a0 0) (K 64 113 127 [115]) (br (eqI a0 1) (K 64 113 127 [100]) (br (eqI a0 2) (K 64 113 127 [104]) (br (eqI a0 3) (K 64 113 127 [113]) False)))) (br (eqI a0 1) (br (eqI a0 0) (K 64 113 1023 [115]) (br (eqI a0 1) (K 64 113 1023 [100]) (br (eqI a0 2) (K 64 113 1023 [104]) (br (eqI a0 3) (K 64 113 1023 [113]) False)))) (br (eqI a0 2) (br (eqI a0 0) (K 64 113 15 [115]) (br (eqI a0 1) (K 64 113 15 [100]) (br (eqI a0 2) (K 64 113 15 [104]) (br (eqI a0 3) (K 64 113 15 [113]) False)))) (br (eqI a0 3) (br (eqI a0 0) (K 64 113 16383 [115]) (br (eqI a0 1) (K 64 113 16383 [100]) (br (eqI a0 2) (K 64 113 16383 [104]) (br (eqI a0 3) (K 64 113 16383 [113]) False)))) False)))) False)))) (br (eqI a0 2) (br (eqI a0 0) (br (eqI a0 0) (br (eqI a0 0) (K 16 24 127 [115]) (br (eqI a0 1) (K 16 24 127 [100]) (br (eqI a0 2) (K 16 24 127 [104]) (br (eqI a0 3) (K 16 24 127 [113]) False)))) (br (eqI a0 1) (br (eqI a0 0) (K 16 24 1023 [115]) (br (eqI a0 1) (K 16 24 1023 [100]) (br (eqI a0 2) (K 16 24 1023 [104]) (br (eqI a0 3) (K 16 24 1023 [113]) False)))) (br (eqI a0 2) (br (eqI a0 0) (K 16 24 15 [115]) (br (eqI a0 1) (K 16 24 15 [100]) (br (eqI a0 2) (K 16 24 15 [104]) (br (eqI a0 3) (K 16 24 15 [113]) False)))) (br (eqI a0 3) (br (eqI a0 0) (K 16 24 16383 [115]) (br (eqI a0 1) (K 16 24 16383 [100]) (br (eqI a0 2) (K 16 24 16383 [104]) (br (eqI a0 3) (K 16 24 16383 [113]) False)))) False)))) (br (eqI a0 1) (br (eqI a0 0) (br (eqI a0 0) (K 16 53 127 [115]) (br (eqI a0 1) (K 16 53 127 [100]) (br (eqI a0 2) (K 16 53 127 [104]) (br (eqI a0 3) (K 16 53 127 [113]) False)))) (br (eqI a0 1) (br (eqI a0 0) (K 16 53 1023 [115]) (br (eqI a0 1) (K 16 53 1023 [100]) (br (eqI a0 2) (K 16 53 1023 [104]) (br (eqI a0 3) (K 16 53 1023 [113]) False)))) (br (eqI a0 2) (br (eqI a0 0) (K 16 53 15 [115]) (br (eqI a0 1) (K 16 53 15 [100]) (br (eqI a0 2) (K 16 53 15 [104]) (br (eqI a0 3) (K 16 53 15 [113]) False)))) (br (eqI a0 3) (br (eqI a0 0) (K 16 53 16383 [115]) (br (eqI a0 1) (K 16 53 16383 [100]) (br (eqI a0 2) (K 16 53 16383 [104]) (br (eqI a0 3) (K 16 53 16383 [113]) False)))) False)))) (br (eqI a0 2) (br (eqI a0 0) (br (eqI a0 0) (K 16 11 127 [115]) (br (eqI a0 1) (K 16 11 127 [100]) (br (eqI a0 2) (K 16 11 127 [104]) (br (eqI a0 3) (K 16 11 127 [113]) False)))) (br (eqI a0 1) (br (eqI a0 0) (K 16 11 1023 [115]) (br (eqI a0 1) (K 16 11 1023 [100]) (br (eqI a0 2) (K 16 11 1023 [104]) (br (eqI a0 3) (K 16 11 1023 [113]) False)))) (br (eqI a0 2) (br (eqI a0 0) (K 16 11 15 [115]) (br (eqI a0 1) (K 16 11 15 [100]) (br (eqI a0 2) (K 16 11 15 [104]) (br (eqI a0 3) (K 16 11 15 [113]) False)))) (br (eqI a0 3) (br (eqI a0 0) (K 16 11 16383 [115]) (br (eqI a0 1) (K 16 11 16383 [100]) (br (eqI a0 2) (K 16 11 16383 [104]) (br (eqI a0 3) (K 16 11 16383 [113]) False)))) False)))) (br (eqI a0 3) (br (eqI a0 0) (br (eqI a0 0) (K 16 113 127 [115]) (br (eqI a0 1) (K 16 113 127 [100]) (br (eqI a0 2) (K 16 113 127 [104]) (br (eqI a0 3) (K 16 113 127 [113]) False)))) (br (eqI a0 1) (br (eqI a0 0) (K 16 113 1023 [115]) (br (eqI a0 1) (K 16 113 1023 [100]) (br (eqI a0 2) (K 16 113 1023 [104]) (br (eqI a0 3) (K 16 113 1023 [113]) False)))) (br (eqI a0 2) (br (eqI a0 0) (K 16 113 15 [115]) (br (eqI a0 1) (K 16 113 15 [100]) (br (eqI a0 2) (K 16 113 15 [104]) (br (eqI a0 3) (K 16 113 15 [113]) False)))) (br (eqI a0 3) (br (eqI a0 0) (K 16 113 16383 [115]) (br (eqI a0 1) (K 16 113 16383 [100]) (br (eqI a0 2) (K 16 113 16383 [104]) (br (eqI a0 3) (K 16 113 16383 [113]) False)))) False)))) False)))) (br (eqI a0 3) (br (eqI a0 0) (br (eqI a0 0) (br (eqI a0 0) (K 128 24 127 [115]) (br (eqI a0 1) (K 128 24 127 [100]) (br (eqI a0 2) (K 128 24 127 [104]) (br (eqI a0 3) (K 128 24 127 [113]) False)))) (br (eqI a0 1) (br (eqI a0 0) (K 128 24 1023 [115]) (br (eqI a0 1) (K 128 24 1023 [100]) (br (eqI a0 2) (K 128 24 1023 [104]) (br (eqI a0 3) (K 128 24 1023 [113]) False)))) (br (eqI a0 2) (br (eqI a0 0) (K 128 24 15 [115]) (br (eqI a0 1) (K 128 24 15 [100]) (br (eqI a0 2) (K 128 24 15 [104]) (br (eqI a0 3) (K 128 24 15 [113]) False)))) (br (eqI a0 3) (br (eqI a0 0) (K 128 24 16383 [115]) (br (eqI a0 1) (K 128 24 16383 [100]) (br (eqI a0 2) (K 128 24 16383 [104]) (br (eqI a0 3) (K 128 24 16383 [113]) False)))) False)))) (br (eqI a0 1) (br (eqI a0 0) (br (eqI a0 0) (K 128 53 127 [115]) (br (eqI a0 1) (K 128 53 127 [100]) (br (eqI a0 2) (K 128 53 127 [104]) (br (eqI a0 3) (K 128 53 127 [113]) False)))) (br (eqI a0 1) (br (eqI a0 0) (K 128 53 1023 [115]) (br (eqI a0 1) (K 128 53 1023 [100]) (br (eqI a0 2) (K 128 53 1023 [104]) (br (eqI a0 3) (K 128 53 1023 [113]) False)))) (br (eqI a0 2) (br (eqI a0 0) (K 128 53 15 [115]) (br (eqI a0 1) (K 128 53 15 [100]) (br (eqI a0 2) (K 128 53 15 [104]) (br (eqI a0 3) (K 128 53 15 [113]) False)))) (br (eqI a0 3) (br (eqI a0 0) (K 128 53 16383 [115]) (br (eqI a0 1) (K 128 53 16383 [100]) (br (eqI a0 2) (K 128 53 16383 [104]) (br (eqI a0 3) (K 128 53 16383 [113]) False)))) False)))) (br (eqI a0 2) (br (eqI a0 0) (br (eqI a0 0) (K 128 11 127 [115]) (br (eqI a0 1) (K 128 11 127 [100]) (br (eqI a0 2) (K 128 11 127 [104]) (br (eqI a0 3) (K 128 11 127 [113]) False)))) (br (eqI a0 1) (br (eqI a0 0) (K 128 11 1023 [115]) (br (eqI a0 1) (K 128 11 1023 [100]) (br (eqI a0 2) (K 128 11 1023 [104]) (br (eqI a0 3) (K 128 11 1023 [113]) False)))) (br (eqI a0 2) (br (eqI a0 0) (K 128 11 15 [115]) (br (eqI a0 1) (K 128 11 15 [100]) (br (eqI a0 2) (K 128 11 15 [104]) (br (eqI a0 3) (K 128 11 15 [113]) False)))) (br (eqI a0 3) (br (eqI a0 0) (K 128 11 16383 [115]) (br (eqI a0 1) (K 128 11 16383 [100]) (br (eqI a0 2) (K 128 11 16383 [104]) (br (eqI a0 3) (K 128 11 16383 [113]) False)))) False)))) (br (eqI a0 3) (br (eqI a0 0) (br (eqI a0 0) (K 128 113 127 [115]) (br (eqI a0 1) (K 128 113 127 [100]) (br (eqI a0 2) (K 128 113 127 [104]) (br (eqI a0 3) (K 128 113 127 [113]) False)))) (br (eqI a0 1) (br (eqI a0 0) (K 128 113 1023 [115]) (br (eqI a0 1) (K 128 113 1023 [100]) (br (eqI a0 2) (K 128 113 1023 [104]) (br (eqI a0 3) (K 128 113 1023 [113]) False)))) (br (eqI a0 2) (br (eqI a0 0) (K 128 113 15 [115]) (br (eqI a0 1) (K 128 113 15 [100]) (br (eqI a0 2) (K 128 113 15 [104]) (br (eqI a0 3) (K 128 113 15 [113]) False)))) (br (eqI a0 3) (br (eqI a0 0) (K 128 113 16383 [115]) (br (eqI a0 1) (K 128 113 16383 [100]) (br (eqI a0 2) (K 128 113 16383 [104]) (br (eqI a0 3) (K 128 113 16383 [113]) False)))) False)))) False)))) False))))
noncomputable def zdi := shut zdi.d
theorem zdi.is : zdi = zdi.d := shut_is _
def zcy.d (a0 : Int) (K : Int → Prop) : Prop :=
  zdi a0 fun y0 y1 y2 y3 => K y2
noncomputable def zcy := shut zcy.d
theorem zcy.is : zcy = zcy.d := shut_is _
def zcz.d (a0 : Int) (K : Int → Prop) : Prop :=
  zcw a0 fun y0 => br (!eqI y0 0) (K 0) (zcy a0 fun y0 => K (subI IntKind.i64 1 y0))
noncomputable def zcz := shut zcz.d
theorem zcz.is : zcz = zcz.d := shut_is _
def zde.d (a0 : Int) (K : Int → Prop) : Prop :=
  zdi a0 fun y0 y1 y2 y3 => K y0
noncomputable def zde := shut zde.d
theorem zde.is : zde = zde.d := shut_is _
def zda.d (a0 : Int) (a1_0 : Int) (a1_1 : Int) (K : Bool → Prop) : Prop :=
  br (eqI a0 3) (K true) (br (eqI a0 1) (K (eqI a1_0 0)) (br (eqI a0 0) (br (eqI a0 0) (br (eqI a1_0 0) (zde a0 fun y0 => gd (!ltI (cvI IntKind.u64 y0) 0) (K (eqI (shrI IntKind.u64 a1_1 (cvI IntKind.u64 y0)) 0))) (K false)) (K false)) (br (eqI a0 2) (br (eqI a1_0 0) (zde a0 fun y0 => gd (!ltI (cvI IntKind.u64 y0) 0) (K (eqI (shrI IntKind.u64 a1_1 (cvI IntKind.u64 y0)) 0))) (K false)) (K false))))
noncomputable def zda := shut zda.d
theorem zda.is : zda = zda.d := shut_is _
def zdd.d (a0 : Int) (K : Int → Prop) : Prop :=
  zdi a0 fun y0 y1 y2 y3 => K y1
noncomputable def zdd := shut zdd.d
theorem zdd.is : zdd = zdd.d := shut_is _
def zdg.d (a0 : Int) (a1 : Int) (K : Int → Int → Prop) : Prop :=
  br (leI 64 a1) (gd (!ltI (cvI IntKind.u64 (subI IntKind.i64 a1 64)) 0) (K (shlI IntKind.u64 a0 (cvI IntKind.u64 (subI IntKind.i64 a1 64))) 0)) (gd (!ltI (cvI IntKind.u64 a1) 0) (br (ltI 0 a1) (gd (!ltI (cvI IntKind.u64 (subI IntKind.i64 64 a1)) 0) (K (shrI IntKind.u64 a0 (cvI IntKind.u64 (subI IntKind.i64 64 a1))) (shlI IntKind.u64 a0 (cvI IntKind.u64 a1)))) (K 0 (shlI IntKind.u64 a0 (cvI IntKind.u64 a1)))))
noncomputable def zdg := shut zdg.d
theorem zdg.is : zdg = zdg.d := shut_is _
def zdh.d (a0 : Int) (a1 : Int) (K : Int → Int → Prop) : Prop :=
  zdd a0 fun y0 => zdg (cvI IntKind.u64 a1) (subI IntKind.i64 y0 1) fun y0 y1 => K y0 y1
noncomputable def zdh := shut zdh.d
theorem zdh.is : zdh = zdh.d := shut_is _
def zdj.d (a0 : Int) (a1_0 : Int) (a1_1 : Int) (a2 : Bool) (K : Int → Int → Prop) : Prop :=
  zcw a0 fun y0 => br (!eqI y0 0) (K 0 0) (br a2 (zde a0 fun y0 => zdg 1 (subI IntKind.i64 y0 1) fun y0 y1 => K (orI IntKind.u64 a1_0 y0) (orI IntKind.u64 a1_1 y1)) (K a1_0 a1_1))
noncomputable def zdj := shut zdj.d
theorem zdj.is : zdj = zdj.d := shut_is _
def zdc.d (a0 : Int) (a1 : Bool) (K : Int → Int → Prop) : Prop :=
  zcw a0 fun y0 => br (!eqI y0 0) (K 0 0) (zcy a0 fun y0 => zdh a0 (addI IntKind.i64 (mulI IntKind.i64 2 y0) 1) fun y0 y1 => zdj a0 y0 y1 a1 fun y0 y1 => K y0 y1)
noncomputable def zdc := shut zdc.d
theorem zdc.is : zdc = zdc.d := shut_is _
def zdb.d (a0 : Int) (a1 : Bool) (K : Int → Int → Prop) : Prop :=
  zdc a0 false fun y0 y1 => br (eqI y0 0 && eqI y1 0) (K y0 y1) (br (eqI y1 0) (zcw a0 fun y0_1 => br (eqI y0_1 0) (zde a0 fun y0_2 => br (ltI y0_2 128) (zdj a0 0 (subI IntKind.u64 y1 1) a1 fun y0 y1 => K y0 y1) (zdj a0 (subI IntKind.u64 y0 1) (subI IntKind.u64 y1 1) a1 fun y0 y1 => K y0 y1)) (zdj a0 (subI IntKind.u64 y0 1) (subI IntKind.u64 y1 1) a1 fun y0 y1 => K y0 y1)) (zcw a0 fun y0_1 => br (eqI y0_1 0) (zde a0 fun y0_2 => br (ltI y0_2 128) (zdj a0 0 (subI IntKind.u64 y1 1) a1 fun y0 y1 => K y0 y1) (zdj a0 y0 (subI IntKind.u64 y1 1) a1 fun y0 y1 => K y0 y1)) (zdj a0 y0 (subI IntKind.u64 y1 1) a1 fun y0 y1 => K y0 y1)))
noncomputable def zdb := shut zdb.d
theorem zdb.is : zdb = zdb.d := shut_is _
def zdf.d (a0 : Int) (a1 : Bool) (K : Int → Int → Prop) : Prop :=
  zdj a0 0 0 a1 fun y0 y1 => K y0 y1
noncomputable def zdf := shut zdf.d
theorem zdf.is : zdf = zdf.d := shut_is _
end Go.Ev.S

/- The functions as the evaluator has them: what each comes to. -/
set_option maxRecDepth 100000
set_option linter.unusedVariables false
set_option linter.unusedSimpArgs false
namespace Go.Ev.S
open Go Go.Ev
def zan.d (a0 : Int) (a1_0 : Int) (a1_1 : Int) (K : Int → Int → Prop) : Prop :=
  zda a0 a1_0 a1_1 fun y0 => br (!y0) (K 0 0) (zdf a0 true fun y0 y1 => K (xorI IntKind.u64 a1_0 y0) (xorI IntKind.u64 a1_1 y1))
noncomputable def zan := shut zan.d
theorem zan.is : zan = zan.d := shut_is _
def zap.d (a0 : Int) (a1 : Bool) (a2 : Int) (a3 : Nat → Int) (K : Int → Int → Prop) : Prop :=
  zdp (cvI IntKind.u64 a2) fun y0 => zdd a0 fun y0_1 => zdm y0 (subI IntKind.i64 y0_1 1) fun y0 y1 => zdq y0 a3 fun y0 => br a1 (zde a0 fun y0_2 => gd (leI 0 (quoI IntKind.i64 (subI IntKind.i64 y0_2 1) 64) && ltI (quoI IntKind.i64 (subI IntKind.i64 y0_2 1) 64) 6) (gd (!ltI (cvI IntKind.u64 (remI IntKind.i64 (subI IntKind.i64 y0_2 1) 64)) 0) (gd (leI 0 (quoI IntKind.i64 (subI IntKind.i64 y0_2 1) 64) && ltI (quoI IntKind.i64 (subI IntKind.i64 y0_2 1) 64) 6) (zdr (upd y0 (Int.toNat (quoI IntKind.i64 (subI IntKind.i64 y0_2 1) 64)) (orI IntKind.u64 (y0 (Int.toNat (quoI IntKind.i64 (subI IntKind.i64 y0_2 1) 64))) (shlI IntKind.u64 1 (cvI IntKind.u64 (remI IntKind.i64 (subI IntKind.i64 y0_2 1) 64))))) fun y0 y1 y2 => K y0 y1)))) (zdr y0 fun y0 y1 y2 => K y0 y1)
noncomputable def zap := shut zap.d
theorem zap.is : zap = zap.d := shut_is _
def zao.d (a0 : Int) (a1_0 : Bool) (a1_1 : List UInt8) (a1_2 : List UInt8) (a1_3 : Int) (K : Int → Int → Bool → Int → Prop) : Prop :=
  zcw a0 fun y0 => br (!eqI y0 0) (K 0 0 false 2) (zad a1_0 a1_1 a1_2 a1_3 fun y0 => br (!eqI y0 0) (K 0 0 false 2) (br (eqS a1_1 []) (K 0 0 true 0) (zdd a0 fun y0 => zai a1_0 a1_1 a1_2 a1_3 fun y0_1 y1 => zcz a0 fun y0_2 => br (!eqS a1_2 [1]) (K 0 0 false 0) (zcy a0 fun y0_3 => br (ltI y0_3 y0_1) (K 0 0 false 0) (br (ltI a1_3 (addI IntKind.i64 (subI IntKind.i64 (maxI y0_1 y0_2) y0) 1)) (K 0 0 false 0) (zae a1_0 a1_1 a1_2 a1_3 (addI IntKind.i64 (subI IntKind.i64 (maxI y0_1 y0_2) y0) 1) fun y0_4 y1 y2 => zbd y0_4 fun y0_5 y1 => zdl y0_5 (subI IntKind.i64 y0 1) fun y0_6 => br y0_6 (zcz a0 fun y0_7 => zdo (subI IntKind.i64 y0 1) fun y0_8 => zdk y0_5 y0_8 fun y0_9 => zap a0 a1_0 (addI IntKind.i64 (subI IntKind.i64 (addI IntKind.i64 (subI IntKind.i64 (maxI y0_1 y0_2) y0) 1) y0_7) y0) y0_9 fun y0 y1 => K y0 y1 true 0) (zdo (subI IntKind.i64 y0 1) fun y0 => zdk y0_5 y0 fun y0 => zap a0 a1_0 0 y0 fun y0 y1 => K y0 y1 true 0)))))))
noncomputable def zao := shut zao.d
theorem zao.is : zao = zao.d := shut_is _
end Go.Ev.S

/- The functions as the evaluator has them: what each comes to. -/
set_option maxRecDepth 100000
set_option linter.unusedVariables false
set_option linter.unusedSimpArgs false
namespace Go.Ev.S
open Go Go.Ev
def zbu.d (a0 : Int) (a1 : Int) (K : Bool → Prop) : Prop :=
  br (leI 0 a1) (br (ltI a1 64) (gd (!ltI (cvI IntKind.u64 a1) 0) (K (eqI (andI IntKind.u64 (shrI IntKind.u64 a0 (cvI IntKind.u64 a1)) 1) 1))) (K false)) (K false)
noncomputable def zbu := shut zbu.d
theorem zbu.is : zbu = zbu.d := shut_is _
def zbv.l3.step (again : Int → Int → Int → Prop) (k0 : Int → Prop) (x0 : Int) (x1 : Int) (x2 : Int) : Prop :=
  br (ltI x2 64) (zbu x0 x2 fun y0 => br y0 (again x0 (addI IntKind.i64 x2 1) (addI IntKind.i64 x2 1)) (again x0 x1 (addI IntKind.i64 x2 1))) (k0 x1)
def zbv.l3 (k0 : Int → Prop) : Nat → Int → Int → Int → Prop
  | 0 => fun _ _ _ => False
  | n + 1 => zbv.l3.step (zbv.l3 k0 n) k0
def zbv.l3.entry : LoopEntry := ⟨LV.mk 8 [(0, 8)] 4 0 false, 0, 15, fun vs H K => match vs, H with
  | [EV.int IntKind.u64 x0, EV.int IntKind.i64 x1, EV.int IntKind.i64 x2], [] => ∃ n, zbv.l3 (fun y0 => K (.exit 0) [EV.int IntKind.i64 y0] []) n x0 x1 x2
  | _, _ => False⟩
def zbv.d (a0 : Int) (K : Int → Prop) : Prop :=
  ∃ n, zbv.l3 (fun y0 => K y0) n a0 0 0
noncomputable def zbv := shut zbv.d
theorem zbv.is : zbv = zbv.d := shut_is _
def zbw.l2.step (again : Int → Int → Prop) (k0 : Int → Prop) (k1 : Prop) (x0 : Int) (x1 : Int) : Prop :=
  br (ltI x1 64) (zbu x0 x1 fun y0 => br y0 (k0 x1) (again x0 (addI IntKind.i64 x1 1))) k1
def zbw.l2 (k0 : Int → Prop) (k1 : Prop) : Nat → Int → Int → Prop
  | 0 => fun _ _ => False
  | n + 1 => zbw.l2.step (zbw.l2 k0 k1 n) k0 k1
def zbw.l2.entry : LoopEntry := ⟨LV.mk 0 [(0, 0)] 4 0 false, 0, 12, fun vs H K => match vs, H with
  | [EV.int IntKind.u64 x0, EV.int IntKind.i64 x1], [] => ∃ n, zbw.l2 (fun y0 => K .ret [EV.int IntKind.i64 y0] []) (K (.exit 0) [] []) n x0 x1
  | _, _ => False⟩
def zbw.d (a0 : Int) (K : Int → Prop) : Prop :=
  ∃ n, zbw.l2 (fun y0 => K y0) (K 64) n a0 0
noncomputable def zbw := shut zbw.d
theorem zbw.is : zbw = zbw.d := shut_is _
end Go.Ev.S

/- The functions as the evaluator has them: what each comes to. -/
set_option maxRecDepth 100000
set_option linter.unusedVariables false
set_option linter.unusedSimpArgs false
namespace Go.Ev.S
open Go Go.Ev
end Go.Ev.S

/- The functions as the evaluator has them: what each comes to. -/
set_option maxRecDepth 100000
set_option linter.unusedVariables false
set_option linter.unusedSimpArgs false
namespace Go.Ev.S
open Go Go.Ev
def zce.d (a0 : List UInt8) (a1 : Int) (K : Int → Prop) : Prop :=
  br (leI (↑(List.length a0)) a1) (K 0) (gd (leI 0 (subI IntKind.i64 (subI IntKind.i64 (↑(List.length a0)) 1) a1) && ltI (subI IntKind.i64 (subI IntKind.i64 (↑(List.length a0)) 1) a1) ↑(List.length a0)) (K (cvI IntKind.i64 (byteAt a0 (Int.toNat (subI IntKind.i64 (subI IntKind.i64 (↑(List.length a0)) 1) a1))))))
noncomputable def zce := shut zce.d
theorem zce.is : zce = zce.d := shut_is _
def zch.l2.step (again : Nat → (Nat → Int) → Int → Prop) (k0 : Nat → (Nat → Int) → Int → Prop) (x0 : Nat) (x1 : Nat → Int) (x2 : Int) : Prop :=
  br (ltI 0 x2) (gd (leI 0 (subI IntKind.i64 x2 1) && ltI (subI IntKind.i64 x2 1) ↑x0) (br (eqI (x1 (Int.toNat (subI IntKind.i64 x2 1))) 0) (again x0 x1 (subI IntKind.i64 x2 1)) (k0 x0 x1 x2))) (k0 x0 x1 x2)
def zch.l2 (k0 : Nat → (Nat → Int) → Int → Prop) : Nat → Nat → (Nat → Int) → Int → Prop
  | 0 => fun _ _ _ => False
  | n + 1 => zch.l2.step (zch.l2 k0 n) k0
def zch.l2.entry : LoopEntry := ⟨LV.mk 9 [(0, 9)] 4 0 false, 0, 39, fun vs H K => match vs, H with
  | [EV.rsI IntKind.u8 x0 x1, EV.int IntKind.i64 x2], [] => ∃ n, zch.l2 (fun y0 y1 y2 => K (.exit 0) [EV.rsI IntKind.u8 y0 y1, EV.int IntKind.i64 y2] []) n x0 x1 x2
  | _, _ => False⟩
def zch.l6.step (again : Nat → (Nat → Int) → Int → Nat → Nat → Int → Nat → (Nat → Int) → Prop) (k0 : Nat → Nat → Nat → (Nat → Int) → Prop) (x0 : Nat) (x1 : Nat → Int) (x2 : Int) (x3 : Nat) (x4 : Nat) (x5 : Int) (x6 : Nat) (x7 : Nat → Int) : Prop :=
  br (ltI x5 x2) (gd (leI 0 x5 && ltI x5 ↑x0) (gd (leI 0 (subI IntKind.i64 (subI IntKind.i64 x2 1) x5) && ltI (subI IntKind.i64 (subI IntKind.i64 x2 1) x5) ↑x3) (again x0 x1 x2 x3 x4 (addI IntKind.i64 x5 1) x6 (upd x7 (Int.toNat (subI IntKind.i64 (subI IntKind.i64 x2 1) x5)) (x1 (Int.toNat x5)))))) (k0 x3 x4 x6 x7)
def zch.l6 (k0 : Nat → Nat → Nat → (Nat → Int) → Prop) : Nat → Nat → (Nat → Int) → Int → Nat → Nat → Int → Nat → (Nat → Int) → Prop
  | 0 => fun _ _ _ _ _ _ _ _ => False
  | n + 1 => zch.l6.step (zch.l6 k0 n) k0
def zch.l6.entry : LoopEntry := ⟨LV.mk 16 [(2, 16)] 4 0 false, 0, 39, fun vs H K => match vs, H with
  | [EV.rsI IntKind.u8 x0 x1, EV.int IntKind.i64 x2, EV.slice 0 0 x3 (some x4) 1, EV.int IntKind.i64 x5], [some (EV.arr IntKind.u8 x6 x7)] => ∃ n, zch.l6 (fun y0 y1 y2 y3 => K (.exit 2) [EV.slice 0 0 y0 (some y1) 1] [some (EV.arr IntKind.u8 y2 y3)]) n x0 x1 x2 x3 x4 x5 x6 x7
  | _, _ => False⟩
def zch.d (a0n : Nat) (a0 : Nat → Int) (K : List UInt8 → Prop) : Prop :=
  ∃ n, zch.l2 (fun y0 y1 y2 => gd (leI 0 y2 && (leI y2 y2 && leI y2 1099511627776)) (∃ n, zch.l6 (fun y0 y1 y2 y3 => K (bytesOf y0 y3)) n y0 y1 y2 (Int.toNat y2) (Int.toNat y2) 0 (Int.toNat y2) fun x => 0)) n a0n a0 ↑a0n
noncomputable def zch := shut zch.d
theorem zch.is : zch = zch.d := shut_is _
def zbx.d (a0 : List UInt8) (a1 : List UInt8) (K : Int → Prop) : Prop :=
  br (!eqI ↑(List.length a0) ↑(List.length a1)) (br (ltI ↑(List.length a0) ↑(List.length a1)) (K (-1)) (K 1)) (br (ltS a0 a1) (K (-1)) (br (!(ltS a0 a1 || eqS a0 a1)) (K 1) (K 0)))
noncomputable def zbx := shut zbx.d
theorem zbx.is : zbx = zbx.d := shut_is _
def zcc.d (a0 : List UInt8) (K : Bool → Prop) : Prop :=
  br (leI (↑(List.length a0)) 16384) (br (eqS a0 []) (K true) (gd (ltI 0 ↑(List.length a0)) (K !eqI (byteAt a0 0) 0))) (K false)
noncomputable def zcc := shut zcc.d
theorem zcc.is : zcc = zcc.d := shut_is _
def zca.d (a0 : List UInt8) (K : Int → Prop) : Prop :=
  zcc a0 fun y0 => br (!y0) (K 0) (br (eqS a0 []) (K 0) (gd (ltI 0 ↑(List.length a0)) (zbv (cvI IntKind.u64 (byteAt a0 0)) fun y0 => K (addI IntKind.i64 (mulI IntKind.i64 8 (subI IntKind.i64 (↑(List.length a0)) 1)) y0))))
noncomputable def zca := shut zca.d
theorem zca.is : zca = zca.d := shut_is _
def zcb.l4.step (again : List UInt8 → Int → Prop) (k0 : Int → Prop) (k1 : Prop) (x0 : List UInt8) (x1 : Int) : Prop :=
  br (ltI x1 ↑(List.length x0)) (zce x0 x1 fun y0 => br (!eqI y0 0) (zce x0 x1 fun y0 => zbw (cvI IntKind.u64 y0) fun y0 => k0 (addI IntKind.i64 (mulI IntKind.i64 8 x1) y0)) (again x0 (addI IntKind.i64 x1 1))) k1
def zcb.l4 (k0 : Int → Prop) (k1 : Prop) : Nat → List UInt8 → Int → Prop
  | 0 => fun _ _ => False
  | n + 1 => zcb.l4.step (zcb.l4 k0 k1 n) k0 k1
def zcb.l4.entry : LoopEntry := ⟨LV.mk 0 [(0, 0)] 4 0 false, 0, 25, fun vs H K => match vs, H with
  | [EV.str x0, EV.int IntKind.i64 x1], [] => ∃ n, zcb.l4 (fun y0 => K .ret [EV.int IntKind.i64 y0] []) (K (.exit 0) [] []) n x0 x1
  | _, _ => False⟩
def zcb.d (a0 : List UInt8) (K : Int → Prop) : Prop :=
  zcc a0 fun y0 => br (!y0) (K 0) (∃ n, zcb.l4 (fun y0 => K y0) (K 0) n a0 0)
noncomputable def zcb := shut zcb.d
theorem zcb.is : zcb = zcb.d := shut_is _
def zcd.l11.step (again : List UInt8 → Int → Bool → Int → Nat → Nat → Int → Nat → (Nat → Int) → Prop) (k0 : Bool → Nat → Nat → Nat → (Nat → Int) → Prop) (x0 : List UInt8) (x1 : Int) (x2 : Bool) (x3 : Int) (x4 : Nat) (x5 : Nat) (x6 : Int) (x7 : Nat) (x8 : Nat → Int) : Prop :=
  br (ltI x6 x3) (zce x0 (addI IntKind.i64 x6 (quoI IntKind.i64 x1 8)) fun y0 => zce x0 (addI IntKind.i64 (addI IntKind.i64 x6 (quoI IntKind.i64 x1 8)) 1) fun y0_1 => gd (!ltI (cvI IntKind.u64 (remI IntKind.i64 x1 8)) 0) (gd (leI 0 x6 && ltI x6 ↑x4) (again x0 x1 x2 x3 x4 x5 (addI IntKind.i64 x6 1) x7 (upd x8 (Int.toNat x6) (cvI IntKind.u8 (shrI IntKind.i64 (orI IntKind.i64 y0 (shlI IntKind.i64 y0_1 8)) (cvI IntKind.u64 (remI IntKind.i64 x1 8)))))))) (k0 x2 x4 x5 x7 x8)
def zcd.l11 (k0 : Bool → Nat → Nat → Nat → (Nat → Int) → Prop) : Nat → List UInt8 → Int → Bool → Int → Nat → Nat → Int → Nat → (Nat → Int) → Prop
  | 0 => fun _ _ _ _ _ _ _ _ _ => False
  | n + 1 => zcd.l11.step (zcd.l11 k0 n) k0
def zcd.l11.entry : LoopEntry := ⟨LV.mk 640 [(0, 640)] 112 0 false, 0, 65, fun vs H K => match vs, H with
  | [EV.str x0, EV.int IntKind.i64 x1, EV.bool x2, EV.int IntKind.i64 x3, EV.slice 0 0 x4 (some x5) 1, EV.int IntKind.i64 x6], [some (EV.arr IntKind.u8 x7 x8)] => ∃ n, zcd.l11 (fun y0 y1 y2 y3 y4 => K (.exit 0) [EV.bool y0, EV.slice 0 0 y1 (some y2) 1] [some (EV.arr IntKind.u8 y3 y4)]) n x0 x1 x2 x3 x4 x5 x6 x7 x8
  | _, _ => False⟩
def zcd.d (a0 : List UInt8) (a1 : Int) (K : List UInt8 → Bool → Int → Prop) : Prop :=
  br (ltI a1 0) (K [] false 2) (br (eqS a0 []) (K [] false 0) (zcb a0 fun y0 => br (leI (mulI IntKind.i64 8 ↑(List.length a0)) a1) (K [] (ltI y0 a1) 0) (gd (leI 0 (subI IntKind.i64 (↑(List.length a0)) (quoI IntKind.i64 a1 8)) && (leI (subI IntKind.i64 (↑(List.length a0)) (quoI IntKind.i64 a1 8)) (subI IntKind.i64 (↑(List.length a0)) (quoI IntKind.i64 a1 8)) && leI (subI IntKind.i64 (↑(List.length a0)) (quoI IntKind.i64 a1 8)) 1099511627776)) (∃ n, zcd.l11 (fun y0 y1 y2 y3 y4 => zch y1 y4 fun y0_1 => K y0_1 y0 0) n a0 a1 (ltI y0 a1) (subI IntKind.i64 (↑(List.length a0)) (quoI IntKind.i64 a1 8)) (Int.toNat (subI IntKind.i64 (↑(List.length a0)) (quoI IntKind.i64 a1 8))) (Int.toNat (subI IntKind.i64 (↑(List.length a0)) (quoI IntKind.i64 a1 8))) 0 (Int.toNat (subI IntKind.i64 (↑(List.length a0)) (quoI IntKind.i64 a1 8))) fun x => 0))))
noncomputable def zcd := shut zcd.d
theorem zcd.is : zcd = zcd.d := shut_is _
def zcf.d (a0 : List UInt8) (a1 : Int) (K : Int → Prop) : Prop :=
  zce a0 (quoI IntKind.i64 a1 8) fun y0 => gd (!ltI (cvI IntKind.u64 (remI IntKind.i64 a1 8)) 0) (K (andI IntKind.i64 (shrI IntKind.i64 y0 (cvI IntKind.u64 (remI IntKind.i64 a1 8))) 1))
noncomputable def zcf := shut zcf.d
theorem zcf.is : zcf = zcf.d := shut_is _
def zcg.l4.step (again : List UInt8 → Nat → Nat → Int → Int → Nat → (Nat → Int) → Prop) (k0 : Nat → Nat → Nat → (Nat → Int) → Prop) (x0 : List UInt8) (x1 : Nat) (x2 : Nat) (x3 : Int) (x4 : Int) (x5 : Nat) (x6 : Nat → Int) : Prop :=
  br (leI x4 ↑(List.length x0)) (zce x0 x4 fun y0 => gd (leI 0 x4 && ltI x4 ↑x1) (again x0 x1 x2 (shrI IntKind.i64 (addI IntKind.i64 x3 (mulI IntKind.i64 2 y0)) 8) (addI IntKind.i64 x4 1) x5 (upd x6 (Int.toNat x4) (cvI IntKind.u8 (addI IntKind.i64 x3 (mulI IntKind.i64 2 y0)))))) (k0 x1 x2 x5 x6)
def zcg.l4 (k0 : Nat → Nat → Nat → (Nat → Int) → Prop) : Nat → List UInt8 → Nat → Nat → Int → Int → Nat → (Nat → Int) → Prop
  | 0 => fun _ _ _ _ _ _ _ => False
  | n + 1 => zcg.l4.step (zcg.l4 k0 n) k0
def zcg.l4.entry : LoopEntry := ⟨LV.mk 32 [(0, 32)] 16 0 false, 0, 34, fun vs H K => match vs, H with
  | [EV.str x0, EV.slice 0 0 x1 (some x2) 1, EV.int IntKind.i64 x3, EV.int IntKind.i64 x4], [some (EV.arr IntKind.u8 x5 x6)] => ∃ n, zcg.l4 (fun y0 y1 y2 y3 => K (.exit 0) [EV.slice 0 0 y0 (some y1) 1] [some (EV.arr IntKind.u8 y2 y3)]) n x0 x1 x2 x3 x4 x5 x6
  | _, _ => False⟩
def zcg.d (a0 : List UInt8) (a1 : Int) (K : List UInt8 → Prop) : Prop :=
  gd (leI 0 (addI IntKind.i64 (↑(List.length a0)) 1) && (leI (addI IntKind.i64 (↑(List.length a0)) 1) (addI IntKind.i64 (↑(List.length a0)) 1) && leI (addI IntKind.i64 (↑(List.length a0)) 1) 1099511627776)) (∃ n, zcg.l4 (fun y0 y1 y2 y3 => zch y0 y3 fun y0 => K y0) n a0 (Int.toNat (addI IntKind.i64 (↑(List.length a0)) 1)) (Int.toNat (addI IntKind.i64 (↑(List.length a0)) 1)) a1 0 (Int.toNat (addI IntKind.i64 (↑(List.length a0)) 1)) fun x => 0)
noncomputable def zcg := shut zcg.d
theorem zcg.is : zcg = zcg.d := shut_is _
def zci.l4.step (again : List UInt8 → List UInt8 → Nat → Nat → Int → Int → Nat → (Nat → Int) → Prop) (k0 : Nat → Nat → Nat → (Nat → Int) → Prop) (x0 : List UInt8) (x1 : List UInt8) (x2 : Nat) (x3 : Nat) (x4 : Int) (x5 : Int) (x6 : Nat) (x7 : Nat → Int) : Prop :=
  br (ltI x5 ↑(List.length x0)) (zce x0 x5 fun y0 => zce x1 x5 fun y0_1 => gd (leI 0 x5 && ltI x5 ↑x2) (br (ltI (subI IntKind.i64 (subI IntKind.i64 y0 y0_1) x4) 0) (again x0 x1 x2 x3 1 (addI IntKind.i64 x5 1) x6 (upd x7 (Int.toNat x5) (cvI IntKind.u8 (subI IntKind.i64 (subI IntKind.i64 y0 y0_1) x4)))) (again x0 x1 x2 x3 0 (addI IntKind.i64 x5 1) x6 (upd x7 (Int.toNat x5) (cvI IntKind.u8 (subI IntKind.i64 (subI IntKind.i64 y0 y0_1) x4)))))) (k0 x2 x3 x6 x7)
def zci.l4 (k0 : Nat → Nat → Nat → (Nat → Int) → Prop) : Nat → List UInt8 → List UInt8 → Nat → Nat → Int → Int → Nat → (Nat → Int) → Prop
  | 0 => fun _ _ _ _ _ _ _ _ => False
  | n + 1 => zci.l4.step (zci.l4 k0 n) k0
def zci.l4.entry : LoopEntry := ⟨LV.mk 32 [(0, 32)] 16 0 false, 0, 35, fun vs H K => match vs, H with
  | [EV.str x0, EV.str x1, EV.slice 0 0 x2 (some x3) 1, EV.int IntKind.i64 x4, EV.int IntKind.i64 x5], [some (EV.arr IntKind.u8 x6 x7)] => ∃ n, zci.l4 (fun y0 y1 y2 y3 => K (.exit 0) [EV.slice 0 0 y0 (some y1) 1] [some (EV.arr IntKind.u8 y2 y3)]) n x0 x1 x2 x3 x4 x5 x6 x7
  | _, _ => False⟩
def zci.d (a0 : List UInt8) (a1 : List UInt8) (K : List UInt8 → Prop) : Prop :=
  gd (leI 0 ↑(List.length a0) && (leI ↑(List.length a0) ↑(List.length a0) && leI (↑(List.length a0)) 1099511627776)) (∃ n, zci.l4 (fun y0 y1 y2 y3 => zch y0 y3 fun y0 => K y0) n a0 a1 (Int.toNat ↑(List.length a0)) (Int.toNat ↑(List.length a0)) 0 0 (Int.toNat ↑(List.length a0)) fun x => 0)
noncomputable def zci := shut zci.d
theorem zci.is : zci = zci.d := shut_is _
def zby.l10.step (again : List UInt8 → List UInt8 → List UInt8 → Nat → Nat → Int → Nat → (Nat → Int) → Prop) (k0 : List UInt8 → Nat → Nat → Nat → (Nat → Int) → Prop) (x0 : List UInt8) (x1 : List UInt8) (x2 : List UInt8) (x3 : Nat) (x4 : Nat) (x5 : Int) (x6 : Nat) (x7 : Nat → Int) : Prop :=
  br (leI 0 x5) (zcf x0 x5 fun y0 => zcg x2 y0 fun y0 => zbx y0 x1 fun y0_1 => br (leI 0 y0_1) (zci y0 x1 fun y0 => gd (leI 0 (quoI IntKind.i64 x5 8) && ltI (quoI IntKind.i64 x5 8) ↑x3) (gd (!ltI (cvI IntKind.u64 (remI IntKind.i64 x5 8)) 0) (gd (leI 0 (quoI IntKind.i64 x5 8) && ltI (quoI IntKind.i64 x5 8) ↑x3) (again x0 x1 y0 x3 x4 (subI IntKind.i64 x5 1) x6 (upd x7 (Int.toNat (quoI IntKind.i64 x5 8)) (orI IntKind.u8 (x7 (Int.toNat (quoI IntKind.i64 x5 8))) (shlI IntKind.u8 1 (cvI IntKind.u64 (remI IntKind.i64 x5 8))))))))) (again x0 x1 y0 x3 x4 (subI IntKind.i64 x5 1) x6 x7)) (k0 x2 x3 x4 x6 x7)
def zby.l10 (k0 : List UInt8 → Nat → Nat → Nat → (Nat → Int) → Prop) : Nat → List UInt8 → List UInt8 → List UInt8 → Nat → Nat → Int → Nat → (Nat → Int) → Prop
  | 0 => fun _ _ _ _ _ _ _ _ => False
  | n + 1 => zby.l10.step (zby.l10 k0 n) k0
def zby.l10.entry : LoopEntry := ⟨LV.mk 4608 [(0, 4608)] 112 0 false, 0, 76, fun vs H K => match vs, H with
  | [EV.str x0, EV.str x1, EV.str x2, EV.slice 0 0 x3 (some x4) 1, EV.int IntKind.i64 x5], [some (EV.arr IntKind.u8 x6 x7)] => ∃ n, zby.l10 (fun y0 y1 y2 y3 y4 => K (.exit 0) [EV.str y0, EV.slice 0 0 y1 (some y2) 1] [some (EV.arr IntKind.u8 y3 y4)]) n x0 x1 x2 x3 x4 x5 x6 x7
  | _, _ => False⟩
def zby.d (a0 : List UInt8) (a1 : List UInt8) (K : List UInt8 → List UInt8 → Int → Prop) : Prop :=
  br (eqS a1 []) (K [] [] 2) (zbx a0 a1 fun y0 => br (ltI y0 0) (K [] a0 0) (zca a0 fun y0 => zca a1 fun y0_1 => zcd a0 (subI IntKind.i64 y0 (subI IntKind.i64 y0_1 1)) fun y0_2 y1 y2 => gd (leI 0 (addI IntKind.i64 (↑(List.length a0)) 1) && (leI (addI IntKind.i64 (↑(List.length a0)) 1) (addI IntKind.i64 (↑(List.length a0)) 1) && leI (addI IntKind.i64 (↑(List.length a0)) 1) 1099511627776)) (∃ n, zby.l10 (fun y0 y1 y2 y3 y4 => zch y1 y4 fun y0_3 => K y0_3 y0 0) n a0 a1 y0_2 (Int.toNat (addI IntKind.i64 (↑(List.length a0)) 1)) (Int.toNat (addI IntKind.i64 (↑(List.length a0)) 1)) (subI IntKind.i64 (subI IntKind.i64 y0 (subI IntKind.i64 y0_1 1)) 1) (Int.toNat (addI IntKind.i64 (↑(List.length a0)) 1)) fun x => 0)))
noncomputable def zby := shut zby.d
theorem zby.is : zby = zby.d := shut_is _
def zbz.l1.step (again : List UInt8 → List UInt8 → Prop) (k0 : List UInt8 → Prop) (x0 : List UInt8) (x1 : List UInt8) : Prop :=
  br (!eqS x1 []) (zby x0 x1 fun y0 y1 y2 => again x1 y1) (k0 x0)
def zbz.l1 (k0 : List UInt8 → Prop) : Nat → List UInt8 → List UInt8 → Prop
  | 0 => fun _ _ => False
  | n + 1 => zbz.l1.step (zbz.l1 k0 n) k0
def zbz.l1.entry : LoopEntry := ⟨LV.mk 1 [(0, 1)] 16 0 false, 0, 20, fun vs H K => match vs, H with
  | [EV.str x0, EV.str x1], [] => ∃ n, zbz.l1 (fun y0 => K (.exit 0) [EV.str y0] []) n x0 x1
  | _, _ => False⟩
def zbz.d (a0 : List UInt8) (a1 : List UInt8) (K : List UInt8 → Prop) : Prop :=
  ∃ n, zbz.l1 (fun y0 => K y0) n a0 a1
noncomputable def zbz := shut zbz.d
theorem zbz.is : zbz = zbz.d := shut_is _
end Go.Ev.S

/- The functions as the evaluator has them: what each comes to. -/
set_option maxRecDepth 100000
set_option linter.unusedVariables false
set_option linter.unusedSimpArgs false
namespace Go.Ev.S
open Go Go.Ev
def zck.d (K : Bool → List UInt8 → List UInt8 → Int → Prop) : Prop :=
  K false [] [1] 0
noncomputable def zck := shut zck.d
theorem zck.is : zck = zck.d := shut_is _
def zcl.d (a0 : List UInt8) (K : Bool → Prop) : Prop :=
  br (!eqS a0 []) (gd (leI 0 (subI IntKind.i64 (↑(List.length a0)) 1) && ltI (subI IntKind.i64 (↑(List.length a0)) 1) ↑(List.length a0)) (K (eqI (andI IntKind.u8 (byteAt a0 (Int.toNat (subI IntKind.i64 (↑(List.length a0)) 1))) 1) 1))) (K false)
noncomputable def zcl := shut zcl.d
theorem zcl.is : zcl = zcl.d := shut_is _
def zcj.d (a0_0 : Bool) (a0_1 : List UInt8) (a0_2 : List UInt8) (a0_3 : Int) (K : Bool → Prop) : Prop :=
  zcc a0_1 fun y0 => br (!y0) (K false) (zcc a0_2 fun y0 => br (!y0) (K false) (zcl a0_2 fun y0 => br (!y0) (K false) (br (ltI a0_3 (-1048576)) (K false) (br (ltI 1048576 a0_3) (K false) (br (eqS a0_1 []) (zck fun y0 y1 y2 y3 => K (beqB a0_0 y0 && (eqS a0_1 y1 && (eqS a0_2 y2 && eqI a0_3 y3)))) (zcl a0_1 fun y0 => br y0 (zbz a0_1 a0_2 fun y0 => K (eqS y0 [1])) (K false)))))))
noncomputable def zcj := shut zcj.d
theorem zcj.is : zcj = zcj.d := shut_is _
end Go.Ev.S

/- The functions as the evaluator has them: what each comes to. -/
set_option maxRecDepth 100000
set_option linter.unusedVariables false
set_option linter.unusedSimpArgs false
namespace Go.Ev.S
open Go Go.Ev
def zcm.d (a0 : Int) (K : Bool → Prop) : Prop :=
  K (leI a0 3)
noncomputable def zcm := shut zcm.d
theorem zcm.is : zcm = zcm.d := shut_is _
def zcn.d (a0 : Int) (K : Bool → Prop) : Prop :=
  K (leI a0 4)
noncomputable def zcn := shut zcn.d
theorem zcn.is : zcn = zcn.d := shut_is _
end Go.Ev.S

/- The functions as the evaluator has them: what each comes to. -/
set_option maxRecDepth 100000
set_option linter.unusedVariables false
set_option linter.unusedSimpArgs false
namespace Go.Ev.S
open Go Go.Ev
end Go.Ev.S

/- The functions as the evaluator has them: what each comes to. -/
set_option maxRecDepth 100000
set_option linter.unusedVariables false
set_option linter.unusedSimpArgs false
namespace Go.Ev.S
open Go Go.Ev
end Go.Ev.S

/- The functions as the evaluator has them: what each comes to. -/
set_option maxRecDepth 100000
set_option linter.unusedVariables false
set_option linter.unusedSimpArgs false
namespace Go.Ev.S
open Go Go.Ev
def zcp.d (a0 : Int) (a1 : Int) (a2_0 : Bool) (a2_1 : List UInt8) (a2_2 : List UInt8) (a2_3 : Int) (a3 : Bool) (K : Int → Prop) : Prop :=
  zcw a0 fun y0 => br (!eqI y0 0) (K 2) (zcx a1 fun y0 => br (!eqI y0 0) (K 2) (zad a2_0 a2_1 a2_2 a2_3 fun y0 => br (!eqI y0 0) (K 2) (br a3 (br a2_0 (K 2) (br (ltI 8192 ↑(List.length a2_1)) (K 4) (br (ltI 8192 ↑(List.length a2_2)) (K 4) (K 0)))) (br (ltI 8192 ↑(List.length a2_1)) (K 4) (br (ltI 8192 ↑(List.length a2_2)) (K 4) (K 0))))))
noncomputable def zcp := shut zcp.d
theorem zcp.is : zcp = zcp.d := shut_is _
def zcq.d (a0 : Int) (a1 : Int) (a2 : Bool) (K : Int → Int → Int → Int → Prop) : Prop :=
  zdc a0 a2 fun y0 y1 => br (eqI a1 1) (zdb a0 a2 fun y0 y1 => K y0 y1 5 0) (br (eqI a1 2) (br (!a2) (zdb a0 a2 fun y0 y1 => K y0 y1 5 0) (br (eqI a1 3) (br a2 (zdb a0 a2 fun y0 y1 => K y0 y1 5 0) (K y0 y1 5 0)) (K y0 y1 5 0))) (br (eqI a1 3) (br a2 (zdb a0 a2 fun y0 y1 => K y0 y1 5 0) (K y0 y1 5 0)) (K y0 y1 5 0)))
noncomputable def zcq := shut zcq.d
theorem zcq.is : zcq = zcq.d := shut_is _
def zcs.d (a0_0_0 : Bool) (a0_0_1 : List UInt8) (a0_0_2 : List UInt8) (a0_0_3 : Int) (a0_1 : Bool) (a1 : Int) (K : List UInt8 → Bool → Prop) : Prop :=
  br (!a0_1) (zae a0_0_0 a0_0_1 a0_0_2 a0_0_3 a1 fun y0 y1 y2 => K y0 y1) (zae a0_0_0 a0_0_1 a0_0_2 a0_0_3 (mulI IntKind.i64 2 a1) fun y0 y1 y2 => zbc y0 fun y0 y1_1 y2 => br y1 (K y0 (eqS y1_1 [])) (K y0 false))
noncomputable def zcs := shut zcs.d
theorem zcs.is : zcs = zcs.d := shut_is _
def zct.d (a0_0_0 : Bool) (a0_0_1 : List UInt8) (a0_0_2 : List UInt8) (a0_0_3 : Int) (a0_1 : Bool) (a1 : Int) (a2 : Bool) (a3 : Int) (K : List UInt8 → Bool → Prop) : Prop :=
  zcs a0_0_0 a0_0_1 a0_0_2 a0_0_3 a0_1 a3 fun y0 y1 => br y1 (K y0 true) (zcs a0_0_0 a0_0_1 a0_0_2 a0_0_3 a0_1 (subI IntKind.i64 a3 1) fun y0_1 y1 => br (!eqS y0 []) (zba y0 fun y0_2 => br (!eqS y0_1 []) (zba y0_1 fun y0_3 => br (eqI a1 2) (br (eqI a1 2) (br (beqB a2 (eqI a1 2)) (zat y0 [1] fun y0 y1 => K y0 false) (K y0 false)) (br (eqI a1 0) (br (eqI y0_3 0) (br (!y1) (zat y0 [1] fun y0 y1 => K y0 false) (br (eqI y0_2 0) (zat y0 [1] fun y0 y1 => K y0 false) (K y0 false))) (K y0 false)) (br (eqI a1 4) (br (eqI y0_3 0) (zat y0 [1] fun y0 y1 => K y0 false) (K y0 false)) (K y0 false)))) (br (eqI a1 3) (br (beqB a2 (eqI a1 2)) (zat y0 [1] fun y0 y1 => K y0 false) (K y0 false)) (br (eqI a1 0) (br (eqI y0_3 0) (br (!y1) (zat y0 [1] fun y0 y1 => K y0 false) (br (eqI y0_2 0) (zat y0 [1] fun y0 y1 => K y0 false) (K y0 false))) (K y0 false)) (br (eqI a1 4) (br (eqI y0_3 0) (zat y0 [1] fun y0 y1 => K y0 false) (K y0 false)) (K y0 false))))) (br (eqI a1 2) (br (eqI a1 2) (br (beqB a2 (eqI a1 2)) (zat y0 [1] fun y0 y1 => K y0 false) (K y0 false)) (br (eqI a1 0) (K y0 false) (br (eqI a1 4) (K y0 false) (K y0 false)))) (br (eqI a1 3) (br (beqB a2 (eqI a1 2)) (zat y0 [1] fun y0 y1 => K y0 false) (K y0 false)) (br (eqI a1 0) (K y0 false) (br (eqI a1 4) (K y0 false) (K y0 false)))))) (br (!eqS y0_1 []) (zba y0_1 fun y0_2 => br (eqI a1 2) (br (eqI a1 2) (br (beqB a2 (eqI a1 2)) (zat y0 [1] fun y0 y1 => K y0 false) (K y0 false)) (br (eqI a1 0) (br (eqI y0_2 0) (br (!y1) (zat y0 [1] fun y0 y1 => K y0 false) (K y0 false)) (K y0 false)) (br (eqI a1 4) (br (eqI y0_2 0) (zat y0 [1] fun y0 y1 => K y0 false) (K y0 false)) (K y0 false)))) (br (eqI a1 3) (br (beqB a2 (eqI a1 2)) (zat y0 [1] fun y0 y1 => K y0 false) (K y0 false)) (br (eqI a1 0) (br (eqI y0_2 0) (br (!y1) (zat y0 [1] fun y0 y1 => K y0 false) (K y0 false)) (K y0 false)) (br (eqI a1 4) (br (eqI y0_2 0) (zat y0 [1] fun y0 y1 => K y0 false) (K y0 false)) (K y0 false))))) (br (eqI a1 2) (br (eqI a1 2) (br (beqB a2 (eqI a1 2)) (zat y0 [1] fun y0 y1 => K y0 false) (K y0 false)) (br (eqI a1 0) (K y0 false) (br (eqI a1 4) (K y0 false) (K y0 false)))) (br (eqI a1 3) (br (beqB a2 (eqI a1 2)) (zat y0 [1] fun y0 y1 => K y0 false) (K y0 false)) (br (eqI a1 0) (K y0 false) (br (eqI a1 4) (K y0 false) (K y0 false)))))))
noncomputable def zct := shut zct.d
theorem zct.is : zct = zct.d := shut_is _
def zcv.d (a0_0_0 : Bool) (a0_0_1 : List UInt8) (a0_0_2 : List UInt8) (a0_0_3 : Int) (a0_1 : Bool) (K : Int → Prop) : Prop :=
  zai a0_0_0 a0_0_1 a0_0_2 a0_0_3 fun y0 y1 => br a0_1 (K (shrI IntKind.i64 y0 1)) (K y0)
noncomputable def zcv := shut zcv.d
theorem zcv.is : zcv = zcv.d := shut_is _
def zcu.d (a0_0_0 : Bool) (a0_0_1 : List UInt8) (a0_0_2 : List UInt8) (a0_0_3 : Int) (a0_1 : Bool) (a1 : Int) (a2 : Int) (a3 : Bool) (K : Bool → Prop) : Prop :=
  zcv a0_0_0 a0_0_1 a0_0_2 a0_0_3 a0_1 fun y0 => zdd a1 fun y0_1 => zcz a1 fun y0_2 => br (!eqI y0 (subI IntKind.i64 y0_2 1)) (zcz a1 fun y0_3 => K (ltI y0 y0_3)) (zct a0_0_0 a0_0_1 a0_0_2 a0_0_3 a0_1 a2 a3 (addI IntKind.i64 (subI IntKind.i64 y0 y0_1) 1) fun y0 y1 => zaz y0 fun y0 => K (leI y0 y0_1))
noncomputable def zcu := shut zcu.d
theorem zcu.is : zcu = zcu.d := shut_is _
def zcr.d (a0_0_0 : Bool) (a0_0_1 : List UInt8) (a0_0_2 : List UInt8) (a0_0_3 : Int) (a0_1 : Bool) (a1 : Int) (a2 : Int) (a3 : Bool) (K : Int → Int → Int → Int → Prop) : Prop :=
  zcv a0_0_0 a0_0_1 a0_0_2 a0_0_3 a0_1 fun y0 => zcy a1 fun y0_1 => br (ltI y0_1 y0) (zcq a1 a2 a3 fun y0 y1 y2 y3 => K y0 y1 y2 y3) (zcz a1 fun y0_2 => zdd a1 fun y0_3 => zct a0_0_0 a0_0_1 a0_0_2 a0_0_3 a0_1 a2 a3 (addI IntKind.i64 (subI IntKind.i64 (maxI y0 y0_2) y0_3) 1) fun y0_4 y1 => zaz y0_4 fun y0_5 => zcy a1 fun y0_6 => br (ltI y0_6 (addI IntKind.i64 (subI IntKind.i64 y0_5 1) (addI IntKind.i64 (subI IntKind.i64 (maxI y0 y0_2) y0_3) 1))) (zcq a1 a2 a3 fun y0 y1 y2 y3 => K y0 y1 y2 y3) (zaf a3 y0_4 [1] (addI IntKind.i64 (subI IntKind.i64 (maxI y0 y0_2) y0_3) 1) fun y0 y1_1 y2 y3 y4 => zao a1 y0 y1_1 y2 y3 fun y0 y1_2 y2 y3 => br (eqS y0_4 []) (zdf a1 a3 fun y0 y1_3 => br y1 (K y0 y1_3 0 0) (zcu a0_0_0 a0_0_1 a0_0_2 a0_0_3 a0_1 a1 a2 a3 fun y0_7 => br y0_7 (K y0 y1_3 3 0) (K y0 y1_3 1 0))) (br y1 (K y0 y1_2 0 0) (zcu a0_0_0 a0_0_1 a0_0_2 a0_0_3 a0_1 a1 a2 a3 fun y0_7 => br y0_7 (K y0 y1_2 3 0) (K y0 y1_2 1 0)))))
noncomputable def zcr := shut zcr.d
theorem zcr.is : zcr = zcr.d := shut_is _
def zco.d (a0 : Int) (a1 : Int) (a2_0 : Bool) (a2_1 : List UInt8) (a2_2 : List UInt8) (a2_3 : Int) (K : Int → Int → Int → Int → Prop) : Prop :=
  zcp a0 a1 a2_0 a2_1 a2_2 a2_3 false fun y0 => br (!eqI y0 0) (K 0 0 0 y0) (br (eqS a2_1 []) (K 0 0 0 y0) (zac a2_0 a2_1 a2_2 a2_3 fun y0 y1 y2 y3 => zcr y0 y1 y2 y3 false a0 a1 a2_0 fun y0 y1 y2 y3 => K y0 y1 y2 y3))
noncomputable def zco := shut zco.d
theorem zco.is : zco = zco.d := shut_is _
end Go.Ev.S

/- The functions as the evaluator has them: what each comes to. -/
set_option maxRecDepth 100000
set_option linter.unusedVariables false
set_option linter.unusedSimpArgs false
namespace Go.Ev.S
open Go Go.Ev
def zar.d (K : Bool → Prop) : Prop :=
  zco 2 0 false [1] [3] 0 fun y0 y1 y2 y3 => zco 2 3 false [1] [3] 0 fun y0_1 y1_1 y2_1 y3_1 => br (eqI y0 0 && eqI y1 13653) (br (eqI y2 1) (br (eqI y3 0) (br (eqI y0_1 0 && eqI y1_1 13654) (br (eqI y2_1 1) (K (eqI y3_1 0)) (K false)) (K false)) (K false)) (K false)) (K false)
noncomputable def zar := shut zar.d
theorem zar.is : zar = zar.d := shut_is _
def zas.d (a0_0 : Bool) (a0_1 : List UInt8) (a0_2 : List UInt8) (a0_3 : Int) (K : Bool → Prop) : Prop :=
  br (leI (↑(List.length a0_1)) 60) (K (leI (↑(List.length a0_2)) 60)) (K false)
noncomputable def zas := shut zas.d
theorem zas.is : zas = zas.d := shut_is _
def zaq.d (a0 : Int) (a1 : Int) (a2_0 : Bool) (a2_1 : List UInt8) (a2_2 : List UInt8) (a2_3 : Int) (K : Bool → Prop) : Prop :=
  zas a2_0 a2_1 a2_2 a2_3 fun y0 => br (!y0) (zar fun y0 => K y0) (zcj a2_0 a2_1 a2_2 a2_3 fun y0 => br (!y0) (zar fun y0 => K y0) (zcm a0 fun y0 => br (!y0) (zar fun y0 => K y0) (zcn a1 fun y0 => br (!y0) (zar fun y0 => K y0) (zah a2_0 a2_1 a2_2 a2_3 fun y0 => br (eqI y0 0) (zar fun y0 => K y0) (br (eqI a1 2) (zco a0 a1 a2_0 a2_1 a2_2 a2_3 fun y0 y1 y2 y3 => zag a2_0 a2_1 a2_2 a2_3 fun y0_1 y1_1 y2_1 y3_1 => zco a0 3 y0_1 y1_1 y2_1 y3_1 fun y0_2 y1_2 y2_2 y3_2 => br (eqI y3 0) (br (eqI y3_2 0) (zan a0 y0 y1 fun y0 y1 => br (eqI y0_2 y0 && eqI y1_2 y1) (br (eqI y2 y2_2) (zar fun y0 => K y0) (K false)) (K false)) (K false)) (K false)) (br (eqI a1 3) (zco a0 a1 a2_0 a2_1 a2_2 a2_3 fun y0 y1 y2 y3 => zag a2_0 a2_1 a2_2 a2_3 fun y0_1 y1_1 y2_1 y3_1 => zco a0 2 y0_1 y1_1 y2_1 y3_1 fun y0_2 y1_2 y2_2 y3_2 => br (eqI y3 0) (br (eqI y3_2 0) (zan a0 y0 y1 fun y0 y1 => br (eqI y0_2 y0 && eqI y1_2 y1) (br (eqI y2 y2_2) (zar fun y0 => K y0) (K false)) (K false)) (K false)) (K false)) (zco a0 a1 a2_0 a2_1 a2_2 a2_3 fun y0 y1 y2 y3 => zag a2_0 a2_1 a2_2 a2_3 fun y0_1 y1_1 y2_1 y3_1 => zco a0 a1 y0_1 y1_1 y2_1 y3_1 fun y0_2 y1_2 y2_2 y3_2 => br (eqI y3 0) (br (eqI y3_2 0) (zan a0 y0 y1 fun y0 y1 => br (eqI y0_2 y0 && eqI y1_2 y1) (br (eqI y2 y2_2) (zar fun y0 => K y0) (K false)) (K false)) (K false)) (K false))))))))
noncomputable def zaq := shut zaq.d
theorem zaq.is : zaq = zaq.d := shut_is _
end Go.Ev.S

/- The functions as the evaluator has them: what each comes to. -/
set_option maxRecDepth 100000
set_option linter.unusedVariables false
set_option linter.unusedSimpArgs false
namespace Go.Ev.S
open Go Go.Ev
end Go.Ev.S

/- The functions as the evaluator has them: what each comes to. -/
set_option maxRecDepth 100000
set_option linter.unusedVariables false
set_option linter.unusedSimpArgs false
namespace Go.Ev.S
open Go Go.Ev
end Go.Ev.S

/- The functions as the evaluator has them: what each comes to. -/
set_option maxRecDepth 100000
set_option linter.unusedVariables false
set_option linter.unusedSimpArgs false
namespace Go.Ev.S
open Go Go.Ev
end Go.Ev.S

/- The functions as the evaluator has them: what each comes to. -/
set_option maxRecDepth 100000
set_option linter.unusedVariables false
set_option linter.unusedSimpArgs false
namespace Go.Ev.S
open Go Go.Ev
end Go.Ev.S

/- The functions as the evaluator has them: what each comes to. -/
set_option maxRecDepth 100000
set_option linter.unusedVariables false
set_option linter.unusedSimpArgs false
namespace Go.Ev.S
open Go Go.Ev
end Go.Ev.S

/- The functions as the evaluator has them: what each comes to. -/
set_option maxRecDepth 100000
set_option linter.unusedVariables false
set_option linter.unusedSimpArgs false
namespace Go.Ev.S
open Go Go.Ev
end Go.Ev.S

/- The functions as the evaluator has them: what each comes to. -/
set_option maxRecDepth 100000
set_option linter.unusedVariables false
set_option linter.unusedSimpArgs false
namespace Go.Ev.S
open Go Go.Ev
end Go.Ev.S

/- The functions as the evaluator has them: what each comes to. -/
set_option maxRecDepth 100000
set_option linter.unusedVariables false
set_option linter.unusedSimpArgs false
namespace Go.Ev.S
open Go Go.Ev
end Go.Ev.S

/- The functions as the evaluator has them: what each comes to. -/
set_option maxRecDepth 100000
set_option linter.unusedVariables false
set_option linter.unusedSimpArgs false
namespace Go.Ev.S
open Go Go.Ev
end Go.Ev.S

/- The functions as the evaluator has them: what each comes to. -/
set_option maxRecDepth 100000
set_option linter.unusedVariables false
set_option linter.unusedSimpArgs false
namespace Go.Ev.S
open Go Go.Ev
end Go.Ev.S

/- The functions as the evaluator has them: what each comes to. -/
set_option maxRecDepth 100000
set_option linter.unusedVariables false
set_option linter.unusedSimpArgs false
namespace Go.Ev.S
open Go Go.Ev
end Go.Ev.S

/- The functions as the evaluator has them: what each comes to. -/
set_option maxRecDepth 100000
set_option linter.unusedVariables false
set_option linter.unusedSimpArgs false
namespace Go.Ev.S
open Go Go.Ev
end Go.Ev.S

/- The functions as the evaluator has them: what each comes to. -/
set_option maxRecDepth 100000
set_option linter.unusedVariables false
set_option linter.unusedSimpArgs false
namespace Go.Ev.S
open Go Go.Ev
end Go.Ev.S

/- The functions as the evaluator has them: what each comes to. -/
set_option maxRecDepth 100000
set_option linter.unusedVariables false
set_option linter.unusedSimpArgs false
namespace Go.Ev.S
open Go Go.Ev
end Go.Ev.S
