/- The functions as the evaluator has them: what each comes to. -/
import Derived.Test.YtfglhfahphncdaaDoorEvC
set_option maxRecDepth 100000
set_option linter.unusedVariables false
set_option linter.unusedSimpArgs false
namespace Go.Ev.S
open Go Go.Ev
def r01_Bit.d (a0 : Int) (a1 : Int) (K : Bool → Prop) : Prop :=
  br (leI 0 a1) (br (ltI a1 64) (gd (!ltI (cvI IntKind.u64 a1) 0) (K (eqI (andI IntKind.u64 (shrI IntKind.u64 a0 (cvI IntKind.u64 a1)) 1) 1))) (K false)) (K false)
noncomputable def r01_Bit : Int → Int → (Bool → Prop) → Prop := Classical.choose (⟨r01_Bit.d, rfl⟩ : ∃ f, f = r01_Bit.d)
theorem r01_Bit.is : r01_Bit = r01_Bit.d := Classical.choose_spec (⟨r01_Bit.d, rfl⟩ : ∃ f, f = r01_Bit.d)
end Go.Ev.S

/- The functions as the evaluator has them: what each comes to. -/
set_option maxRecDepth 100000
set_option linter.unusedVariables false
set_option linter.unusedSimpArgs false
namespace Go.Ev.S
open Go Go.Ev
def r02_Bit.d (a0 : Nat → Int) (a1 : Int) (K : Bool → Prop) : Prop :=
  br (leI 0 a1) (br (ltI a1 384) (gd (leI 0 (quoI IntKind.i64 a1 64) && ltI (quoI IntKind.i64 a1 64) 6) (r01_Bit (a0 (Int.toNat (quoI IntKind.i64 a1 64))) (remI IntKind.i64 a1 64) fun y0 => K y0)) (K false)) (K false)
noncomputable def r02_Bit : (Nat → Int) → Int → (Bool → Prop) → Prop := Classical.choose (⟨r02_Bit.d, rfl⟩ : ∃ f, f = r02_Bit.d)
theorem r02_Bit.is : r02_Bit = r02_Bit.d := Classical.choose_spec (⟨r02_Bit.d, rfl⟩ : ∃ f, f = r02_Bit.d)
def r02_Count.d (a0 : Int) (K : Int → Prop) : Prop :=
  br (ltI a0 0) (K 0) (br (ltI 384 a0) (K 384) (K a0))
noncomputable def r02_Count : Int → (Int → Prop) → Prop := Classical.choose (⟨r02_Count.d, rfl⟩ : ∃ f, f = r02_Count.d)
theorem r02_Count.is : r02_Count = r02_Count.d := Classical.choose_spec (⟨r02_Count.d, rfl⟩ : ∃ f, f = r02_Count.d)
def r02_Left.l5.step (again : Int → Bool → Int → (Nat → Int) → (Nat → Int) → (Nat → Int) → Prop) (k0 : Bool → (Nat → Int) → (Nat → Int) → Prop) (x0 : Int) (x1 : Bool) (x2 : Int) (x3 : Nat → Int) (x4 : Nat → Int) (x5 : Nat → Int) : Prop :=
  br (ltI x2 384) (r02_Bit x3 x2 fun y0 => br y0 (br (ltI (addI IntKind.i64 x2 x0) 384) (gd (leI 0 (quoI IntKind.i64 (addI IntKind.i64 x2 x0) 64) && ltI (quoI IntKind.i64 (addI IntKind.i64 x2 x0) 64) 6) (gd (!ltI (cvI IntKind.u64 (remI IntKind.i64 (addI IntKind.i64 x2 x0) 64)) 0) (gd (leI 0 (quoI IntKind.i64 (addI IntKind.i64 x2 x0) 64) && ltI (quoI IntKind.i64 (addI IntKind.i64 x2 x0) 64) 6) (again x0 x1 (addI IntKind.i64 x2 1) x3 x4 (upd x5 (Int.toNat (quoI IntKind.i64 (addI IntKind.i64 x2 x0) 64)) (orI IntKind.u64 (x5 (Int.toNat (quoI IntKind.i64 (addI IntKind.i64 x2 x0) 64))) (shlI IntKind.u64 1 (cvI IntKind.u64 (remI IntKind.i64 (addI IntKind.i64 x2 x0) 64))))))))) (again x0 true (addI IntKind.i64 x2 1) x3 x4 x5)) (again x0 x1 (addI IntKind.i64 x2 1) x3 x4 x5)) (k0 x1 x4 x5)
def r02_Left.l5 (k0 : Bool → (Nat → Int) → (Nat → Int) → Prop) : Nat → Int → Bool → Int → (Nat → Int) → (Nat → Int) → (Nat → Int) → Prop
  | 0 => fun _ _ _ _ _ _ => False
  | n + 1 => r02_Left.l5.step (r02_Left.l5 k0 n) k0
def r02_Left.l5.entry : LoopEntry := ⟨LV.mk 208 [(0, 208)] 48 0 false, 0, 42, fun vs H K => match vs, H with
  | [EV.int IntKind.i64 x0, EV.ptr 0 [], EV.ptr 1 [], EV.ptr 2 [], EV.bool x1, EV.int IntKind.i64 x2], [some (EV.arr IntKind.u64 6 x3), some (EV.arr IntKind.u64 6 x4), some (EV.arr IntKind.u64 6 x5)] => ∃ n, r02_Left.l5 (fun y0 y1 y2 => K (.exit 0) [EV.ptr 0 [], EV.ptr 1 [], EV.bool y0] [some (EV.arr IntKind.u64 6 y1), some (EV.arr IntKind.u64 6 y2)]) n x0 x1 x2 x3 x4 x5
  | _, _ => False⟩
def r02_Left.d (a0 : Nat → Int) (a1 : Int) (K : (Nat → Int) → Bool → Prop) : Prop :=
  r02_Count a1 fun y0 => ∃ n, r02_Left.l5 (fun y0 y1 y2 => K y2 y0) n y0 false 0 a0 (fun x => 0) fun x => 0
noncomputable def r02_Left : (Nat → Int) → Int → ((Nat → Int) → Bool → Prop) → Prop := Classical.choose (⟨r02_Left.d, rfl⟩ : ∃ f, f = r02_Left.d)
theorem r02_Left.is : r02_Left = r02_Left.d := Classical.choose_spec (⟨r02_Left.d, rfl⟩ : ∃ f, f = r02_Left.d)
end Go.Ev.S

/- The functions as the evaluator has them: what each comes to. -/
set_option maxRecDepth 100000
set_option linter.unusedVariables false
set_option linter.unusedSimpArgs false
namespace Go.Ev.S
open Go Go.Ev
end Go.Ev.S

/- The functions as the evaluator has them: what each comes to. -/
set_option maxRecDepth 100000
set_option linter.unusedVariables false
set_option linter.unusedSimpArgs false
namespace Go.Ev.S
open Go Go.Ev
end Go.Ev.S

/- The functions as the evaluator has them: what each comes to. -/
set_option maxRecDepth 100000
set_option linter.unusedVariables false
set_option linter.unusedSimpArgs false
namespace Go.Ev.S
open Go Go.Ev
end Go.Ev.S

/- The functions as the evaluator has them: what each comes to. -/
set_option maxRecDepth 100000
set_option linter.unusedVariables false
set_option linter.unusedSimpArgs false
namespace Go.Ev.S
open Go Go.Ev
end Go.Ev.S

/- The functions as the evaluator has them: what each comes to. -/
set_option maxRecDepth 100000
set_option linter.unusedVariables false
set_option linter.unusedSimpArgs false
namespace Go.Ev.S
open Go Go.Ev
end Go.Ev.S

/- The functions as the evaluator has them: what each comes to. -/
set_option maxRecDepth 100000
set_option linter.unusedVariables false
set_option linter.unusedSimpArgs false
namespace Go.Ev.S
open Go Go.Ev
end Go.Ev.S

/- The functions as the evaluator has them: what each comes to. -/
set_option maxRecDepth 100000
set_option linter.unusedVariables false
set_option linter.unusedSimpArgs false
namespace Go.Ev.S
open Go Go.Ev
def bits_Len64.d (a0 : Int) (K : Int → Prop) : Prop :=
  br (leI 4294967296 a0) (br (leI 65536 (shrI IntKind.u64 a0 32)) (br (leI 256 (shrI IntKind.u64 (shrI IntKind.u64 a0 32) 16)) (gd (leI 0 (cvI IntKind.u8 (shrI IntKind.u64 (shrI IntKind.u64 (shrI IntKind.u64 a0 32) 16) 8)) && ltI (cvI IntKind.u8 (shrI IntKind.u64 (shrI IntKind.u64 (shrI IntKind.u64 a0 32) 16) 8)) 256) (K (addI IntKind.i64 56 (cvI IntKind.i64 (byteAt [0, 1, 2, 2, 3, 3, 3, 3, 4, 4, 4, 4, 4, 4, 4, 4, 5, 5, 5, 5, 5, 5, 5, 5, 5, 5, 5, 5, 5, 5, 5, 5, 6, 6, 6, 6, 6, 6, 6, 6, 6, 6, 6, 6, 6, 6, 6, 6, 6, 6, 6, 6, 6, 6, 6, 6, 6, 6, 6, 6, 6, 6, 6, 6, 7, 7, 7, 7, 7, 7, 7, 7, 7, 7, 7, 7, 7, 7, 7, 7, 7, 7, 7, 7, 7, 7, 7, 7, 7, 7, 7, 7, 7, 7, 7, 7, 7, 7, 7, 7, 7, 7, 7, 7, 7, 7, 7, 7, 7, 7, 7, 7, 7, 7, 7, 7, 7, 7, 7, 7, 7, 7, 7, 7, 7, 7, 7, 7, 8, 8, 8, 8, 8, 8, 8, 8, 8, 8, 8, 8, 8, 8, 8, 8, 8, 8, 8, 8, 8, 8, 8, 8, 8, 8, 8, 8, 8, 8, 8, 8, 8, 8, 8, 8, 8, 8, 8, 8, 8, 8, 8, 8, 8, 8, 8, 8, 8, 8, 8, 8, 8, 8, 8, 8, 8, 8, 8, 8, 8, 8, 8, 8, 8, 8, 8, 8, 8, 8, 8, 8, 8, 8, 8, 8, 8, 8, 8, 8, 8, 8, 8, 8, 8, 8, 8, 8, 8, 8, 8, 8, 8, 8, 8, 8, 8, 8, 8, 8, 8, 8, 8, 8, 8, 8, 8, 8, 8, 8, 8, 8, 8, 8, 8, 8, 8, 8, 8, 8, 8, 8, 8, 8, 8, 8, 8, 8] (Int.toNat (cvI IntKind.u8 (shrI IntKind.u64 (shrI IntKind.u64 (shrI IntKind.u64 a0 32) 16) 8)))))))) (gd (leI 0 (cvI IntKind.u8 (shrI IntKind.u64 (shrI IntKind.u64 a0 32) 16)) && ltI (cvI IntKind.u8 (shrI IntKind.u64 (shrI IntKind.u64 a0 32) 16)) 256) (K (addI IntKind.i64 48 (cvI IntKind.i64 (byteAt [0, 1, 2, 2, 3, 3, 3, 3, 4, 4, 4, 4, 4, 4, 4, 4, 5, 5, 5, 5, 5, 5, 5, 5, 5, 5, 5, 5, 5, 5, 5, 5, 6, 6, 6, 6, 6, 6, 6, 6, 6, 6, 6, 6, 6, 6, 6, 6, 6, 6, 6, 6, 6, 6, 6, 6, 6, 6, 6, 6, 6, 6, 6, 6, 7, 7, 7, 7, 7, 7, 7, 7, 7, 7, 7, 7, 7, 7, 7, 7, 7, 7, 7, 7, 7, 7, 7, 7, 7, 7, 7, 7, 7, 7, 7, 7, 7, 7, 7, 7, 7, 7, 7, 7, 7, 7, 7, 7, 7, 7, 7, 7, 7, 7, 7, 7, 7, 7, 7, 7, 7, 7, 7, 7, 7, 7, 7, 7, 8, 8, 8, 8, 8, 8, 8, 8, 8, 8, 8, 8, 8, 8, 8, 8, 8, 8, 8, 8, 8, 8, 8, 8, 8, 8, 8, 8, 8, 8, 8, 8, 8, 8, 8, 8, 8, 8, 8, 8, 8, 8, 8, 8, 8, 8, 8, 8, 8, 8, 8, 8, 8, 8, 8, 8, 8, 8, 8, 8, 8, 8, 8, 8, 8, 8, 8, 8, 8, 8, 8, 8, 8, 8, 8, 8, 8, 8, 8, 8, 8, 8, 8, 8, 8, 8, 8, 8, 8, 8, 8, 8, 8, 8, 8, 8, 8, 8, 8, 8, 8, 8, 8, 8, 8, 8, 8, 8, 8, 8, 8, 8, 8, 8, 8, 8, 8, 8, 8, 8, 8, 8, 8, 8, 8, 8, 8, 8] (Int.toNat (cvI IntKind.u8 (shrI IntKind.u64 (shrI IntKind.u64 a0 32) 16))))))))) (br (leI 256 (shrI IntKind.u64 a0 32)) (gd (leI 0 (cvI IntKind.u8 (shrI IntKind.u64 (shrI IntKind.u64 a0 32) 8)) && ltI (cvI IntKind.u8 (shrI IntKind.u64 (shrI IntKind.u64 a0 32) 8)) 256) (K (addI IntKind.i64 40 (cvI IntKind.i64 (byteAt [0, 1, 2, 2, 3, 3, 3, 3, 4, 4, 4, 4, 4, 4, 4, 4, 5, 5, 5, 5, 5, 5, 5, 5, 5, 5, 5, 5, 5, 5, 5, 5, 6, 6, 6, 6, 6, 6, 6, 6, 6, 6, 6, 6, 6, 6, 6, 6, 6, 6, 6, 6, 6, 6, 6, 6, 6, 6, 6, 6, 6, 6, 6, 6, 7, 7, 7, 7, 7, 7, 7, 7, 7, 7, 7, 7, 7, 7, 7, 7, 7, 7, 7, 7, 7, 7, 7, 7, 7, 7, 7, 7, 7, 7, 7, 7, 7, 7, 7, 7, 7, 7, 7, 7, 7, 7, 7, 7, 7, 7, 7, 7, 7, 7, 7, 7, 7, 7, 7, 7, 7, 7, 7, 7, 7, 7, 7, 7, 8, 8, 8, 8, 8, 8, 8, 8, 8, 8, 8, 8, 8, 8, 8, 8, 8, 8, 8, 8, 8, 8, 8, 8, 8, 8, 8, 8, 8, 8, 8, 8, 8, 8, 8, 8, 8, 8, 8, 8, 8, 8, 8, 8, 8, 8, 8, 8, 8, 8, 8, 8, 8, 8, 8, 8, 8, 8, 8, 8, 8, 8, 8, 8, 8, 8, 8, 8, 8, 8, 8, 8, 8, 8, 8, 8, 8, 8, 8, 8, 8, 8, 8, 8, 8, 8, 8, 8, 8, 8, 8, 8, 8, 8, 8, 8, 8, 8, 8, 8, 8, 8, 8, 8, 8, 8, 8, 8, 8, 8, 8, 8, 8, 8, 8, 8, 8, 8, 8, 8, 8, 8, 8, 8, 8, 8, 8, 8] (Int.toNat (cvI IntKind.u8 (shrI IntKind.u64 (shrI IntKind.u64 a0 32) 8)))))))) (gd (leI 0 (cvI IntKind.u8 (shrI IntKind.u64 a0 32)) && ltI (cvI IntKind.u8 (shrI IntKind.u64 a0 32)) 256) (K (addI IntKind.i64 32 (cvI IntKind.i64 (byteAt [0, 1, 2, 2, 3, 3, 3, 3, 4, 4, 4, 4, 4, 4, 4, 4, 5, 5, 5, 5, 5, 5, 5, 5, 5, 5, 5, 5, 5, 5, 5, 5, 6, 6, 6, 6, 6, 6, 6, 6, 6, 6, 6, 6, 6, 6, 6, 6, 6, 6, 6, 6, 6, 6, 6, 6, 6, 6, 6, 6, 6, 6, 6, 6, 7, 7, 7, 7, 7, 7, 7, 7, 7, 7, 7, 7, 7, 7, 7, 7, 7, 7, 7, 7, 7, 7, 7, 7, 7, 7, 7, 7, 7, 7, 7, 7, 7, 7, 7, 7, 7, 7, 7, 7, 7, 7, 7, 7, 7, 7, 7, 7, 7, 7, 7, 7, 7, 7, 7, 7, 7, 7, 7, 7, 7, 7, 7, 7, 8, 8, 8, 8, 8, 8, 8, 8, 8, 8, 8, 8, 8, 8, 8, 8, 8, 8, 8, 8, 8, 8, 8, 8, 8, 8, 8, 8, 8, 8, 8, 8, 8, 8, 8, 8, 8, 8, 8, 8, 8, 8, 8, 8, 8, 8, 8, 8, 8, 8, 8, 8, 8, 8, 8, 8, 8, 8, 8, 8, 8, 8, 8, 8, 8, 8, 8, 8, 8, 8, 8, 8, 8, 8, 8, 8, 8, 8, 8, 8, 8, 8, 8, 8, 8, 8, 8, 8, 8, 8, 8, 8, 8, 8, 8, 8, 8, 8, 8, 8, 8, 8, 8, 8, 8, 8, 8, 8, 8, 8, 8, 8, 8, 8, 8, 8, 8, 8, 8, 8, 8, 8, 8, 8, 8, 8, 8, 8] (Int.toNat (cvI IntKind.u8 (shrI IntKind.u64 a0 32)))))))))) (br (leI 65536 a0) (br (leI 256 (shrI IntKind.u64 a0 16)) (gd (leI 0 (cvI IntKind.u8 (shrI IntKind.u64 (shrI IntKind.u64 a0 16) 8)) && ltI (cvI IntKind.u8 (shrI IntKind.u64 (shrI IntKind.u64 a0 16) 8)) 256) (K (addI IntKind.i64 24 (cvI IntKind.i64 (byteAt [0, 1, 2, 2, 3, 3, 3, 3, 4, 4, 4, 4, 4, 4, 4, 4, 5, 5, 5, 5, 5, 5, 5, 5, 5, 5, 5, 5, 5, 5, 5, 5, 6, 6, 6, 6, 6, 6, 6, 6, 6, 6, 6, 6, 6, 6, 6, 6, 6, 6, 6, 6, 6, 6, 6, 6, 6, 6, 6, 6, 6, 6, 6, 6, 7, 7, 7, 7, 7, 7, 7, 7, 7, 7, 7, 7, 7, 7, 7, 7, 7, 7, 7, 7, 7, 7, 7, 7, 7, 7, 7, 7, 7, 7, 7, 7, 7, 7, 7, 7, 7, 7, 7, 7, 7, 7, 7, 7, 7, 7, 7, 7, 7, 7, 7, 7, 7, 7, 7, 7, 7, 7, 7, 7, 7, 7, 7, 7, 8, 8, 8, 8, 8, 8, 8, 8, 8, 8, 8, 8, 8, 8, 8, 8, 8, 8, 8, 8, 8, 8, 8, 8, 8, 8, 8, 8, 8, 8, 8, 8, 8, 8, 8, 8, 8, 8, 8, 8, 8, 8, 8, 8, 8, 8, 8, 8, 8, 8, 8, 8, 8, 8, 8, 8, 8, 8, 8, 8, 8, 8, 8, 8, 8, 8, 8, 8, 8, 8, 8, 8, 8, 8, 8, 8, 8, 8, 8, 8, 8, 8, 8, 8, 8, 8, 8, 8, 8, 8, 8, 8, 8, 8, 8, 8, 8, 8, 8, 8, 8, 8, 8, 8, 8, 8, 8, 8, 8, 8, 8, 8, 8, 8, 8, 8, 8, 8, 8, 8, 8, 8, 8, 8, 8, 8, 8, 8] (Int.toNat (cvI IntKind.u8 (shrI IntKind.u64 (shrI IntKind.u64 a0 16) 8)))))))) (gd (leI 0 (cvI IntKind.u8 (shrI IntKind.u64 a0 16)) && ltI (cvI IntKind.u8 (shrI IntKind.u64 a0 16)) 256) (K (addI IntKind.i64 16 (cvI IntKind.i64 (byteAt [0, 1, 2, 2, 3, 3, 3, 3, 4, 4, 4, 4, 4, 4, 4, 4, 5, 5, 5, 5, 5, 5, 5, 5, 5, 5, 5, 5, 5, 5, 5, 5, 6, 6, 6, 6, 6, 6, 6, 6, 6, 6, 6, 6, 6, 6, 6, 6, 6, 6, 6, 6, 6, 6, 6, 6, 6, 6, 6, 6, 6, 6, 6, 6, 7, 7, 7, 7, 7, 7, 7, 7, 7, 7, 7, 7, 7, 7, 7, 7, 7, 7, 7, 7, 7, 7, 7, 7, 7, 7, 7, 7, 7, 7, 7, 7, 7, 7, 7, 7, 7, 7, 7, 7, 7, 7, 7, 7, 7, 7, 7, 7, 7, 7, 7, 7, 7, 7, 7, 7, 7, 7, 7, 7, 7, 7, 7, 7, 8, 8, 8, 8, 8, 8, 8, 8, 8, 8, 8, 8, 8, 8, 8, 8, 8, 8, 8, 8, 8, 8, 8, 8, 8, 8, 8, 8, 8, 8, 8, 8, 8, 8, 8, 8, 8, 8, 8, 8, 8, 8, 8, 8, 8, 8, 8, 8, 8, 8, 8, 8, 8, 8, 8, 8, 8, 8, 8, 8, 8, 8, 8, 8, 8, 8, 8, 8, 8, 8, 8, 8, 8, 8, 8, 8, 8, 8, 8, 8, 8, 8, 8, 8, 8, 8, 8, 8, 8, 8, 8, 8, 8, 8, 8, 8, 8, 8, 8, 8, 8, 8, 8, 8, 8, 8, 8, 8, 8, 8, 8, 8, 8, 8, 8, 8, 8, 8, 8, 8, 8, 8, 8, 8, 8, 8, 8, 8] (Int.toNat (cvI IntKind.u8 (shrI IntKind.u64 a0 16))))))))) (br (leI 256 a0) (gd (leI 0 (cvI IntKind.u8 (shrI IntKind.u64 a0 8)) && ltI (cvI IntKind.u8 (shrI IntKind.u64 a0 8)) 256) (K (addI IntKind.i64 8 (cvI IntKind.i64 (byteAt [0, 1, 2, 2, 3, 3, 3, 3, 4, 4, 4, 4, 4, 4, 4, 4, 5, 5, 5, 5, 5, 5, 5, 5, 5, 5, 5, 5, 5, 5, 5, 5, 6, 6, 6, 6, 6, 6, 6, 6, 6, 6, 6, 6, 6, 6, 6, 6, 6, 6, 6, 6, 6, 6, 6, 6, 6, 6, 6, 6, 6, 6, 6, 6, 7, 7, 7, 7, 7, 7, 7, 7, 7, 7, 7, 7, 7, 7, 7, 7, 7, 7, 7, 7, 7, 7, 7, 7, 7, 7, 7, 7, 7, 7, 7, 7, 7, 7, 7, 7, 7, 7, 7, 7, 7, 7, 7, 7, 7, 7, 7, 7, 7, 7, 7, 7, 7, 7, 7, 7, 7, 7, 7, 7, 7, 7, 7, 7, 8, 8, 8, 8, 8, 8, 8, 8, 8, 8, 8, 8, 8, 8, 8, 8, 8, 8, 8, 8, 8, 8, 8, 8, 8, 8, 8, 8, 8, 8, 8, 8, 8, 8, 8, 8, 8, 8, 8, 8, 8, 8, 8, 8, 8, 8, 8, 8, 8, 8, 8, 8, 8, 8, 8, 8, 8, 8, 8, 8, 8, 8, 8, 8, 8, 8, 8, 8, 8, 8, 8, 8, 8, 8, 8, 8, 8, 8, 8, 8, 8, 8, 8, 8, 8, 8, 8, 8, 8, 8, 8, 8, 8, 8, 8, 8, 8, 8, 8, 8, 8, 8, 8, 8, 8, 8, 8, 8, 8, 8, 8, 8, 8, 8, 8, 8, 8, 8, 8, 8, 8, 8, 8, 8, 8, 8, 8, 8] (Int.toNat (cvI IntKind.u8 (shrI IntKind.u64 a0 8)))))))) (gd (leI 0 (cvI IntKind.u8 a0) && ltI (cvI IntKind.u8 a0) 256) (K (addI IntKind.i64 0 (cvI IntKind.i64 (byteAt [0, 1, 2, 2, 3, 3, 3, 3, 4, 4, 4, 4, 4, 4, 4, 4, 5, 5, 5, 5, 5, 5, 5, 5, 5, 5, 5, 5, 5, 5, 5, 5, 6, 6, 6, 6, 6, 6, 6, 6, 6, 6, 6, 6, 6, 6, 6, 6, 6, 6, 6, 6, 6, 6, 6, 6, 6, 6, 6, 6, 6, 6, 6, 6, 7, 7, 7, 7, 7, 7, 7, 7, 7, 7, 7, 7, 7, 7, 7, 7, 7, 7, 7, 7, 7, 7, 7, 7, 7, 7, 7, 7, 7, 7, 7, 7, 7, 7, 7, 7, 7, 7, 7, 7, 7, 7, 7, 7, 7, 7, 7, 7, 7, 7, 7, 7, 7, 7, 7, 7, 7, 7, 7, 7, 7, 7, 7, 7, 8, 8, 8, 8, 8, 8, 8, 8, 8, 8, 8, 8, 8, 8, 8, 8, 8, 8, 8, 8, 8, 8, 8, 8, 8, 8, 8, 8, 8, 8, 8, 8, 8, 8, 8, 8, 8, 8, 8, 8, 8, 8, 8, 8, 8, 8, 8, 8, 8, 8, 8, 8, 8, 8, 8, 8, 8, 8, 8, 8, 8, 8, 8, 8, 8, 8, 8, 8, 8, 8, 8, 8, 8, 8, 8, 8, 8, 8, 8, 8, 8, 8, 8, 8, 8, 8, 8, 8, 8, 8, 8, 8, 8, 8, 8, 8, 8, 8, 8, 8, 8, 8, 8, 8, 8, 8, 8, 8, 8, 8, 8, 8, 8, 8, 8, 8, 8, 8, 8, 8, 8, 8, 8, 8, 8, 8, 8, 8] (Int.toNat (cvI IntKind.u8 a0)))))))))
noncomputable def bits_Len64 : Int → (Int → Prop) → Prop := Classical.choose (⟨bits_Len64.d, rfl⟩ : ∃ f, f = bits_Len64.d)
theorem bits_Len64.is : bits_Len64 = bits_Len64.d := Classical.choose_spec (⟨bits_Len64.d, rfl⟩ : ∃ f, f = bits_Len64.d)
def bits_TrailingZeros64.d (a0 : Int) (K : Int → Prop) : Prop :=
  br (eqI a0 0) (K 64) ((leI 0 (shrI IntKind.u64 (mulI IntKind.u64 (andI IntKind.u64 a0 (negI IntKind.u64 a0)) 285870213051353865) 58) && ltI (shrI IntKind.u64 (mulI IntKind.u64 (andI IntKind.u64 a0 (negI IntKind.u64 a0)) 285870213051353865) 58) 64) = true ∧ K (cvI IntKind.i64 (tab_deBruijn64tab (Int.toNat (shrI IntKind.u64 (mulI IntKind.u64 (andI IntKind.u64 a0 (negI IntKind.u64 a0)) 285870213051353865) 58)))))
noncomputable def bits_TrailingZeros64 : Int → (Int → Prop) → Prop := Classical.choose (⟨bits_TrailingZeros64.d, rfl⟩ : ∃ f, f = bits_TrailingZeros64.d)
theorem bits_TrailingZeros64.is : bits_TrailingZeros64 = bits_TrailingZeros64.d := Classical.choose_spec (⟨bits_TrailingZeros64.d, rfl⟩ : ∃ f, f = bits_TrailingZeros64.d)
end Go.Ev.S

/- The functions as the evaluator has them: what each comes to. -/
set_option maxRecDepth 100000
set_option linter.unusedVariables false
set_option linter.unusedSimpArgs false
namespace Go.Ev.S
open Go Go.Ev
def word_one.d (a0 : Bool) (K : Int → Prop) : Prop :=
  br a0 (K 1) (K 0)
noncomputable def word_one : Bool → (Int → Prop) → Prop := Classical.choose (⟨word_one.d, rfl⟩ : ∃ f, f = word_one.d)
theorem word_one.is : word_one = word_one.d := Classical.choose_spec (⟨word_one.d, rfl⟩ : ∃ f, f = word_one.d)
def word_Add.d (a0 : Int) (a1 : Int) (a2 : Bool) (K : Int → Bool → Prop) : Prop :=
  word_one a2 fun y0 => br (ltI (addI IntKind.u64 a0 a1) a0) (K (addI IntKind.u64 (addI IntKind.u64 a0 a1) y0) true) (br a2 (K (addI IntKind.u64 (addI IntKind.u64 a0 a1) y0) (eqI (addI IntKind.u64 (addI IntKind.u64 a0 a1) y0) 0)) (K (addI IntKind.u64 (addI IntKind.u64 a0 a1) y0) false))
noncomputable def word_Add : Int → Int → Bool → (Int → Bool → Prop) → Prop := Classical.choose (⟨word_Add.d, rfl⟩ : ∃ f, f = word_Add.d)
theorem word_Add.is : word_Add = word_Add.d := Classical.choose_spec (⟨word_Add.d, rfl⟩ : ∃ f, f = word_Add.d)
def word_Len.d (a0 : Int) (K : Int → Prop) : Prop :=
  bits_Len64 a0 fun y0 => K y0
noncomputable def word_Len : Int → (Int → Prop) → Prop := Classical.choose (⟨word_Len.d, rfl⟩ : ∃ f, f = word_Len.d)
theorem word_Len.is : word_Len = word_Len.d := Classical.choose_spec (⟨word_Len.d, rfl⟩ : ∃ f, f = word_Len.d)
def word_Low.d (a0 : Int) (K : Int → Prop) : Prop :=
  bits_TrailingZeros64 a0 fun y0 => K y0
noncomputable def word_Low : Int → (Int → Prop) → Prop := Classical.choose (⟨word_Low.d, rfl⟩ : ∃ f, f = word_Low.d)
theorem word_Low.is : word_Low = word_Low.d := Classical.choose_spec (⟨word_Low.d, rfl⟩ : ∃ f, f = word_Low.d)
def word_count.d (a0 : Int) (K : Int → Prop) : Prop :=
  K (cvI IntKind.u64 (minI (maxI a0 0) 64))
noncomputable def word_count : Int → (Int → Prop) → Prop := Classical.choose (⟨word_count.d, rfl⟩ : ∃ f, f = word_count.d)
theorem word_count.is : word_count = word_count.d := Classical.choose_spec (⟨word_count.d, rfl⟩ : ∃ f, f = word_count.d)
def word_Mask.d (a0 : Int) (K : Int → Prop) : Prop :=
  word_count a0 fun y0 => gd (!ltI y0 0) (K (subI IntKind.u64 (shlI IntKind.u64 1 y0) 1))
noncomputable def word_Mask : Int → (Int → Prop) → Prop := Classical.choose (⟨word_Mask.d, rfl⟩ : ∃ f, f = word_Mask.d)
theorem word_Mask.is : word_Mask = word_Mask.d := Classical.choose_spec (⟨word_Mask.d, rfl⟩ : ∃ f, f = word_Mask.d)
end Go.Ev.S

/- The functions as the evaluator has them: what each comes to. -/
set_option maxRecDepth 100000
set_option linter.unusedVariables false
set_option linter.unusedSimpArgs false
namespace Go.Ev.S
open Go Go.Ev
def wide_Add.l2.step (again : Bool → Int → (Nat → Int) → (Nat → Int) → (Nat → Int) → Prop) (k0 : Bool → (Nat → Int) → Prop) (x0 : Bool) (x1 : Int) (x2 : Nat → Int) (x3 : Nat → Int) (x4 : Nat → Int) : Prop :=
  br (ltI x1 6) (gd (leI 0 x1 && ltI x1 6) (gd (leI 0 x1 && ltI x1 6) (word_Add (x2 (Int.toNat x1)) (x3 (Int.toNat x1)) x0 fun y0 y1 => gd (leI 0 x1 && ltI x1 6) (again y1 (addI IntKind.i64 x1 1) x2 x3 (upd x4 (Int.toNat x1) y0))))) (k0 x0 x4)
def wide_Add.l2 (k0 : Bool → (Nat → Int) → Prop) : Nat → Bool → Int → (Nat → Int) → (Nat → Int) → (Nat → Int) → Prop
  | 0 => fun _ _ _ _ _ => False
  | n + 1 => wide_Add.l2.step (wide_Add.l2 k0 n) k0
def wide_Add.l2.entry : LoopEntry := ⟨LV.mk 48 [(0, 48)] 48 0 false, 0, 26, fun vs H K => match vs, H with
  | [EV.ptr 0 [], EV.ptr 1 [], EV.ptr 2 [], EV.bool x0, EV.int IntKind.i64 x1], [some (EV.arr IntKind.u64 6 x2), some (EV.arr IntKind.u64 6 x3), some (EV.arr IntKind.u64 6 x4)] => ∃ n, wide_Add.l2 (fun y0 y1 => K (.exit 0) [EV.ptr 0 [], EV.bool y0] [some (EV.arr IntKind.u64 6 y1)]) n x0 x1 x2 x3 x4
  | _, _ => False⟩
def wide_Add.d (a0 : Nat → Int) (a1 : Nat → Int) (K : (Nat → Int) → Bool → Prop) : Prop :=
  ∃ n, wide_Add.l2 (fun y0 y1 => K y1 y0) n false 0 a0 a1 fun x => 0
noncomputable def wide_Add : (Nat → Int) → (Nat → Int) → ((Nat → Int) → Bool → Prop) → Prop := Classical.choose (⟨wide_Add.d, rfl⟩ : ∃ f, f = wide_Add.d)
theorem wide_Add.is : wide_Add = wide_Add.d := Classical.choose_spec (⟨wide_Add.d, rfl⟩ : ∃ f, f = wide_Add.d)
def wide_And.l2.step (again : Int → (Nat → Int) → (Nat → Int) → (Nat → Int) → Prop) (k0 : (Nat → Int) → (Nat → Int) → Prop) (x0 : Int) (x1 : Nat → Int) (x2 : Nat → Int) (x3 : Nat → Int) : Prop :=
  br (ltI x0 6) (gd (leI 0 x0 && ltI x0 6) (gd (leI 0 x0 && ltI x0 6) (gd (leI 0 x0 && ltI x0 6) (again (addI IntKind.i64 x0 1) (upd x1 (Int.toNat x0) (andI IntKind.u64 (x1 (Int.toNat x0)) (x2 (Int.toNat x0)))) x2 x3)))) (k0 x1 x3)
def wide_And.l2 (k0 : (Nat → Int) → (Nat → Int) → Prop) : Nat → Int → (Nat → Int) → (Nat → Int) → (Nat → Int) → Prop
  | 0 => fun _ _ _ _ => False
  | n + 1 => wide_And.l2.step (wide_And.l2 k0 n) k0
def wide_And.l2.entry : LoopEntry := ⟨LV.mk 20 [(0, 20)] 16 0 false, 0, 19, fun vs H K => match vs, H with
  | [EV.ptr 0 [], EV.ptr 1 [], EV.ptr 2 [], EV.int IntKind.i64 x0], [some (EV.arr IntKind.u64 6 x1), some (EV.arr IntKind.u64 6 x2), some (EV.arr IntKind.u64 6 x3)] => ∃ n, wide_And.l2 (fun y0 y1 => K (.exit 0) [EV.ptr 0 [], EV.ptr 1 []] [some (EV.arr IntKind.u64 6 y0), some (EV.arr IntKind.u64 6 y1)]) n x0 x1 x2 x3
  | _, _ => False⟩
def wide_And.d (a0 : Nat → Int) (a1 : Nat → Int) (K : (Nat → Int) → Prop) : Prop :=
  ∃ n, wide_And.l2 (fun y0 y1 => K y0) n 0 a0 a1 fun x => 0
noncomputable def wide_And : (Nat → Int) → (Nat → Int) → ((Nat → Int) → Prop) → Prop := Classical.choose (⟨wide_And.d, rfl⟩ : ∃ f, f = wide_And.d)
theorem wide_And.is : wide_And = wide_And.d := Classical.choose_spec (⟨wide_And.d, rfl⟩ : ∃ f, f = wide_And.d)
def wide_Bit.d (a0 : Nat → Int) (a1 : Int) (K : Bool → Prop) : Prop :=
  br (leI 0 a1) (br (ltI a1 384) (gd (leI 0 (quoI IntKind.i64 a1 64) && ltI (quoI IntKind.i64 a1 64) 6) (gd (!ltI (cvI IntKind.u64 (remI IntKind.i64 a1 64)) 0) (K (eqI (andI IntKind.u64 (shrI IntKind.u64 (a0 (Int.toNat (quoI IntKind.i64 a1 64))) (cvI IntKind.u64 (remI IntKind.i64 a1 64))) 1) 1)))) (K false)) (K false)
noncomputable def wide_Bit : (Nat → Int) → Int → (Bool → Prop) → Prop := Classical.choose (⟨wide_Bit.d, rfl⟩ : ∃ f, f = wide_Bit.d)
theorem wide_Bit.is : wide_Bit = wide_Bit.d := Classical.choose_spec (⟨wide_Bit.d, rfl⟩ : ∃ f, f = wide_Bit.d)
def wide_Len.l2.step (again : Int → (Nat → Int) → Prop) (k0 : Int → Prop) (k1 : Prop) (x0 : Int) (x1 : Nat → Int) : Prop :=
  br (leI 0 x0) (gd (leI 0 x0 && ltI x0 6) (br (!eqI (x1 (Int.toNat x0)) 0) (gd (leI 0 x0 && ltI x0 6) (word_Len (x1 (Int.toNat x0)) fun y0 => k0 (addI IntKind.i64 (mulI IntKind.i64 64 x0) y0))) (again (subI IntKind.i64 x0 1) x1))) k1
def wide_Len.l2 (k0 : Int → Prop) (k1 : Prop) : Nat → Int → (Nat → Int) → Prop
  | 0 => fun _ _ => False
  | n + 1 => wide_Len.l2.step (wide_Len.l2 k0 k1 n) k0 k1
def wide_Len.l2.entry : LoopEntry := ⟨LV.mk 0 [(0, 0)] 4 0 false, 0, 19, fun vs H K => match vs, H with
  | [EV.ptr 0 [], EV.int IntKind.i64 x0], [some (EV.arr IntKind.u64 6 x1)] => ∃ n, wide_Len.l2 (fun y0 => K .ret [EV.int IntKind.i64 y0] []) (K (.exit 0) [] []) n x0 x1
  | _, _ => False⟩
def wide_Len.d (a0 : Nat → Int) (K : Int → Prop) : Prop :=
  ∃ n, wide_Len.l2 (fun y0 => K y0) (K 0) n 5 a0
noncomputable def wide_Len : (Nat → Int) → (Int → Prop) → Prop := Classical.choose (⟨wide_Len.d, rfl⟩ : ∃ f, f = wide_Len.d)
theorem wide_Len.is : wide_Len = wide_Len.d := Classical.choose_spec (⟨wide_Len.d, rfl⟩ : ∃ f, f = wide_Len.d)
def wide_count.d (a0 : Int) (K : Int → Prop) : Prop :=
  K (minI (maxI a0 0) 384)
noncomputable def wide_count : Int → (Int → Prop) → Prop := Classical.choose (⟨wide_count.d, rfl⟩ : ∃ f, f = wide_count.d)
theorem wide_count.is : wide_count = wide_count.d := Classical.choose_spec (⟨wide_count.d, rfl⟩ : ∃ f, f = wide_count.d)
def wide_Left.l5.step (again : Bool → Int → Int → Int → (Nat → Int) → (Nat → Int) → Prop) (k0 : Bool → (Nat → Int) → Prop) (x0 : Bool) (x1 : Int) (x2 : Int) (x3 : Int) (x4 : Nat → Int) (x5 : Nat → Int) : Prop :=
  br (leI x1 x3) (gd (leI 0 (subI IntKind.i64 x3 x1) && ltI (subI IntKind.i64 x3 x1) 6) (gd (!ltI x2 0) (gd (leI 0 x3 && ltI x3 6) (br (ltI x1 x3) (gd (leI 0 x3 && ltI x3 6) (gd (leI 0 (subI IntKind.i64 (subI IntKind.i64 x3 x1) 1) && ltI (subI IntKind.i64 (subI IntKind.i64 x3 x1) 1) 6) (gd (!ltI (subI IntKind.u64 64 x2) 0) (gd (leI 0 x3 && ltI x3 6) (again x0 x1 x2 (subI IntKind.i64 x3 1) x4 (upd (upd x5 (Int.toNat x3) (shlI IntKind.u64 (x4 (Int.toNat (subI IntKind.i64 x3 x1))) x2)) (Int.toNat x3) (orI IntKind.u64 (upd x5 (Int.toNat x3) (shlI IntKind.u64 (x4 (Int.toNat (subI IntKind.i64 x3 x1))) x2) (Int.toNat x3)) (shrI IntKind.u64 (x4 (Int.toNat (subI IntKind.i64 (subI IntKind.i64 x3 x1) 1))) (subI IntKind.u64 64 x2))))))))) (again x0 x1 x2 (subI IntKind.i64 x3 1) x4 (upd x5 (Int.toNat x3) (shlI IntKind.u64 (x4 (Int.toNat (subI IntKind.i64 x3 x1))) x2))))))) (k0 x0 x5)
def wide_Left.l5 (k0 : Bool → (Nat → Int) → Prop) : Nat → Bool → Int → Int → Int → (Nat → Int) → (Nat → Int) → Prop
  | 0 => fun _ _ _ _ _ _ => False
  | n + 1 => wide_Left.l5.step (wide_Left.l5 k0 n) k0
def wide_Left.l5.entry : LoopEntry := ⟨LV.mk 48 [(0, 48)] 48 0 false, 0, 59, fun vs H K => match vs, H with
  | [EV.ptr 0 [], EV.ptr 1 [], EV.bool x0, EV.int IntKind.i64 x1, EV.int IntKind.u64 x2, EV.int IntKind.i64 x3], [some (EV.arr IntKind.u64 6 x4), some (EV.arr IntKind.u64 6 x5)] => ∃ n, wide_Left.l5 (fun y0 y1 => K (.exit 0) [EV.ptr 0 [], EV.bool y0] [some (EV.arr IntKind.u64 6 y1)]) n x0 x1 x2 x3 x4 x5
  | _, _ => False⟩
def wide_Left.d (a0 : Nat → Int) (a1 : Int) (K : (Nat → Int) → Bool → Prop) : Prop :=
  wide_count a1 fun y0 => wide_Len a0 fun y0_1 => br (ltI 384 (addI IntKind.i64 y0_1 y0)) (∃ n, wide_Left.l5 (fun y0 y1 => K y1 y0) n (!eqN 6 a0 fun x => 0) (quoI IntKind.i64 y0 64) (cvI IntKind.u64 (remI IntKind.i64 y0 64)) 5 a0 fun x => 0) (∃ n, wide_Left.l5 (fun y0 y1 => K y1 y0) n false (quoI IntKind.i64 y0 64) (cvI IntKind.u64 (remI IntKind.i64 y0 64)) 5 a0 fun x => 0)
noncomputable def wide_Left : (Nat → Int) → Int → ((Nat → Int) → Bool → Prop) → Prop := Classical.choose (⟨wide_Left.d, rfl⟩ : ∃ f, f = wide_Left.d)
theorem wide_Left.is : wide_Left = wide_Left.d := Classical.choose_spec (⟨wide_Left.d, rfl⟩ : ∃ f, f = wide_Left.d)
def wide_Low.l2.step (again : (Nat → Int) → Int → Prop) (k0 : Int → Prop) (k1 : Prop) (x0 : Nat → Int) (x1 : Int) : Prop :=
  br (ltI x1 6) (gd (leI 0 x1 && ltI x1 6) (br (!eqI (x0 (Int.toNat x1)) 0) (word_Low (x0 (Int.toNat x1)) fun y0 => k0 (addI IntKind.i64 (mulI IntKind.i64 64 x1) y0)) (again x0 (addI IntKind.i64 x1 1)))) k1
def wide_Low.l2 (k0 : Int → Prop) (k1 : Prop) : Nat → (Nat → Int) → Int → Prop
  | 0 => fun _ _ => False
  | n + 1 => wide_Low.l2.step (wide_Low.l2 k0 k1 n) k0 k1
def wide_Low.l2.entry : LoopEntry := ⟨LV.mk 0 [(0, 0)] 4 0 false, 0, 18, fun vs H K => match vs, H with
  | [EV.arr IntKind.u64 6 x0, EV.int IntKind.i64 x1], [] => ∃ n, wide_Low.l2 (fun y0 => K .ret [EV.int IntKind.i64 y0] []) (K (.exit 0) [] []) n x0 x1
  | _, _ => False⟩
def wide_Low.d (a0 : Nat → Int) (K : Int → Prop) : Prop :=
  ∃ n, wide_Low.l2 (fun y0 => K y0) (K 384) n a0 0
noncomputable def wide_Low : (Nat → Int) → (Int → Prop) → Prop := Classical.choose (⟨wide_Low.d, rfl⟩ : ∃ f, f = wide_Low.d)
theorem wide_Low.is : wide_Low = wide_Low.d := Classical.choose_spec (⟨wide_Low.d, rfl⟩ : ∃ f, f = wide_Low.d)
def wide_Mask.l4.step (again : Int → Int → (Nat → Int) → (Nat → Int) → Prop) (k0 : (Nat → Int) → (Nat → Int) → Prop) (x0 : Int) (x1 : Int) (x2 : Nat → Int) (x3 : Nat → Int) : Prop :=
  br (ltI x1 6) (word_Mask (subI IntKind.i64 x0 (mulI IntKind.i64 64 x1)) fun y0 => gd (leI 0 x1 && ltI x1 6) (again x0 (addI IntKind.i64 x1 1) x2 (upd x3 (Int.toNat x1) y0))) (k0 x2 x3)
def wide_Mask.l4 (k0 : (Nat → Int) → (Nat → Int) → Prop) : Nat → Int → Int → (Nat → Int) → (Nat → Int) → Prop
  | 0 => fun _ _ _ _ => False
  | n + 1 => wide_Mask.l4.step (wide_Mask.l4 k0 n) k0
def wide_Mask.l4.entry : LoopEntry := ⟨LV.mk 12 [(0, 12)] 4 0 false, 0, 19, fun vs H K => match vs, H with
  | [EV.int IntKind.i64 x0, EV.ptr 0 [], EV.ptr 1 [], EV.int IntKind.i64 x1], [some (EV.arr IntKind.u64 6 x2), some (EV.arr IntKind.u64 6 x3)] => ∃ n, wide_Mask.l4 (fun y0 y1 => K (.exit 0) [EV.ptr 0 [], EV.ptr 1 []] [some (EV.arr IntKind.u64 6 y0), some (EV.arr IntKind.u64 6 y1)]) n x0 x1 x2 x3
  | _, _ => False⟩
def wide_Mask.d (a0 : Int) (K : (Nat → Int) → Prop) : Prop :=
  wide_count a0 fun y0 => ∃ n, wide_Mask.l4 (fun y0 y1 => K y1) n y0 0 (fun x => 0) fun x => 0
noncomputable def wide_Mask : Int → ((Nat → Int) → Prop) → Prop := Classical.choose (⟨wide_Mask.d, rfl⟩ : ∃ f, f = wide_Mask.d)
theorem wide_Mask.is : wide_Mask = wide_Mask.d := Classical.choose_spec (⟨wide_Mask.d, rfl⟩ : ∃ f, f = wide_Mask.d)
def wide_Of.d (a0 : Int) (K : (Nat → Int) → Prop) : Prop :=
  K (upd (fun x => 0) 0 a0)
noncomputable def wide_Of : Int → ((Nat → Int) → Prop) → Prop := Classical.choose (⟨wide_Of.d, rfl⟩ : ∃ f, f = wide_Of.d)
theorem wide_Of.is : wide_Of = wide_Of.d := Classical.choose_spec (⟨wide_Of.d, rfl⟩ : ∃ f, f = wide_Of.d)
def wide_Right.l5.step (again : Bool → Int → Int → Int → (Nat → Int) → (Nat → Int) → Prop) (k0 : Bool → (Nat → Int) → Prop) (x0 : Bool) (x1 : Int) (x2 : Int) (x3 : Int) (x4 : Nat → Int) (x5 : Nat → Int) : Prop :=
  br (ltI (addI IntKind.i64 x3 x1) 6) (gd (leI 0 (addI IntKind.i64 x3 x1) && ltI (addI IntKind.i64 x3 x1) 6) (gd (!ltI x2 0) (gd (leI 0 x3 && ltI x3 6) (br (ltI (addI IntKind.i64 x3 x1) 5) (gd (leI 0 x3 && ltI x3 6) (gd (leI 0 (addI IntKind.i64 (addI IntKind.i64 x3 x1) 1) && ltI (addI IntKind.i64 (addI IntKind.i64 x3 x1) 1) 6) (gd (!ltI (subI IntKind.u64 64 x2) 0) (gd (leI 0 x3 && ltI x3 6) (again x0 x1 x2 (addI IntKind.i64 x3 1) x4 (upd (upd x5 (Int.toNat x3) (shrI IntKind.u64 (x4 (Int.toNat (addI IntKind.i64 x3 x1))) x2)) (Int.toNat x3) (orI IntKind.u64 (upd x5 (Int.toNat x3) (shrI IntKind.u64 (x4 (Int.toNat (addI IntKind.i64 x3 x1))) x2) (Int.toNat x3)) (shlI IntKind.u64 (x4 (Int.toNat (addI IntKind.i64 (addI IntKind.i64 x3 x1) 1))) (subI IntKind.u64 64 x2))))))))) (again x0 x1 x2 (addI IntKind.i64 x3 1) x4 (upd x5 (Int.toNat x3) (shrI IntKind.u64 (x4 (Int.toNat (addI IntKind.i64 x3 x1))) x2))))))) (k0 x0 x5)
def wide_Right.l5 (k0 : Bool → (Nat → Int) → Prop) : Nat → Bool → Int → Int → Int → (Nat → Int) → (Nat → Int) → Prop
  | 0 => fun _ _ _ _ _ _ => False
  | n + 1 => wide_Right.l5.step (wide_Right.l5 k0 n) k0
def wide_Right.l5.entry : LoopEntry := ⟨LV.mk 48 [(0, 48)] 48 0 false, 0, 60, fun vs H K => match vs, H with
  | [EV.ptr 0 [], EV.ptr 1 [], EV.bool x0, EV.int IntKind.i64 x1, EV.int IntKind.u64 x2, EV.int IntKind.i64 x3], [some (EV.arr IntKind.u64 6 x4), some (EV.arr IntKind.u64 6 x5)] => ∃ n, wide_Right.l5 (fun y0 y1 => K (.exit 0) [EV.ptr 0 [], EV.bool y0] [some (EV.arr IntKind.u64 6 y1)]) n x0 x1 x2 x3 x4 x5
  | _, _ => False⟩
def wide_Right.d (a0 : Nat → Int) (a1 : Int) (K : (Nat → Int) → Bool → Prop) : Prop :=
  wide_count a1 fun y0 => br (!eqN 6 a0 fun x => 0) (wide_Low a0 fun y0_1 => ∃ n, wide_Right.l5 (fun y0 y1 => K y1 y0) n (ltI y0_1 y0) (quoI IntKind.i64 y0 64) (cvI IntKind.u64 (remI IntKind.i64 y0 64)) 0 a0 fun x => 0) (∃ n, wide_Right.l5 (fun y0 y1 => K y1 y0) n false (quoI IntKind.i64 y0 64) (cvI IntKind.u64 (remI IntKind.i64 y0 64)) 0 a0 fun x => 0)
noncomputable def wide_Right : (Nat → Int) → Int → ((Nat → Int) → Bool → Prop) → Prop := Classical.choose (⟨wide_Right.d, rfl⟩ : ∃ f, f = wide_Right.d)
theorem wide_Right.is : wide_Right = wide_Right.d := Classical.choose_spec (⟨wide_Right.d, rfl⟩ : ∃ f, f = wide_Right.d)
def wide_ToBits.d (a0 : Nat → Int) (K : Int → Int → Bool → Prop) : Prop :=
  br (!eqI (orI IntKind.u64 (orI IntKind.u64 (orI IntKind.u64 (a0 2) (a0 3)) (a0 4)) (a0 5)) 0) (K 0 0 false) (K (a0 1) (a0 0) true)
noncomputable def wide_ToBits : (Nat → Int) → (Int → Int → Bool → Prop) → Prop := Classical.choose (⟨wide_ToBits.d, rfl⟩ : ∃ f, f = wide_ToBits.d)
theorem wide_ToBits.is : wide_ToBits = wide_ToBits.d := Classical.choose_spec (⟨wide_ToBits.d, rfl⟩ : ∃ f, f = wide_ToBits.d)
end Go.Ev.S

/- The functions as the evaluator has them: what each comes to. -/
set_option maxRecDepth 100000
set_option linter.unusedVariables false
set_option linter.unusedSimpArgs false
namespace Go.Ev.S
open Go Go.Ev
def jam_Cut.d (a0 : Nat → Int) (a1 : Int) (K : (Nat → Int) → Int → Bool → Prop) : Prop :=
  wide_Right a0 (minI (maxI a1 0) 385) fun y0 y1 => br (eqI (minI (maxI a1 0) 385) 0) (K y0 (-1) !y1) (br (eqI (minI (maxI a1 0) 385) 385) (K y0 (-1) !y1) (wide_Bit a0 (subI IntKind.i64 (minI (maxI a1 0) 385) 1) fun y0_1 => br (!y0_1) (K y0 (-1) !y1) (wide_Mask (subI IntKind.i64 (minI (maxI a1 0) 385) 1) fun y0_2 => wide_And a0 y0_2 fun y0_3 => br (!eqN 6 y0_3 fun x => 0) (K y0 1 !y1) (K y0 0 !y1))))
noncomputable def jam_Cut : (Nat → Int) → Int → ((Nat → Int) → Int → Bool → Prop) → Prop := Classical.choose (⟨jam_Cut.d, rfl⟩ : ∃ f, f = jam_Cut.d)
theorem jam_Cut.is : jam_Cut = jam_Cut.d := Classical.choose_spec (⟨jam_Cut.d, rfl⟩ : ∃ f, f = jam_Cut.d)
end Go.Ev.S

/- The functions as the evaluator has them: what each comes to. -/
set_option maxRecDepth 100000
set_option linter.unusedVariables false
set_option linter.unusedSimpArgs false
namespace Go.Ev.S
open Go Go.Ev
def shape_Check.d (a0 : Int) (K : Int → Prop) : Prop :=
  br (ltI 3 a0) (K 2) (K 0)
noncomputable def shape_Check : Int → (Int → Prop) → Prop := Classical.choose (⟨shape_Check.d, rfl⟩ : ∃ f, f = shape_Check.d)
theorem shape_Check.is : shape_Check = shape_Check.d := Classical.choose_spec (⟨shape_Check.d, rfl⟩ : ∃ f, f = shape_Check.d)
def shape_CheckMode.d (a0 : Int) (K : Int → Prop) : Prop :=
  br (ltI 4 a0) (K 2) (K 0)
noncomputable def shape_CheckMode : Int → (Int → Prop) → Prop := Classical.choose (⟨shape_CheckMode.d, rfl⟩ : ∃ f, f = shape_CheckMode.d)
theorem shape_CheckMode.is : shape_CheckMode = shape_CheckMode.d := Classical.choose_spec (⟨shape_CheckMode.d, rfl⟩ : ∃ f, f = shape_CheckMode.d)
def shape_numbers.d (a0 : Int) (K : Int → Int → Int → List UInt8 → Prop) : Prop :=
  br (leI 4 (cvI IntKind.i64 a0)) (K 0 0 0 []) (br (eqI a0 0) (br (eqI a0 0) (br (eqI a0 0) (br (eqI a0 0) (K 32 24 127 [115]) (br (eqI a0 1) (K 32 24 127 [100]) (br (eqI a0 2) (K 32 24 127 [104]) (br (eqI a0 3) (K 32 24 127 [113]) False)))) (br (eqI a0 1) (br (eqI a0 0) (K 32 24 1023 [115]) (br (eqI a0 1) (K 32 24 1023 [100]) (br (eqI a0 2) (K 32 24 1023 [104]) (br (eqI a0 3) (K 32 24 1023 [113]) False)))) (br (eqI a0 2) (br (eqI a0 0) (K 32 24 15 [115]) (br (eqI a0 1) (K 32 24 15 [100]) (br (eqI a0 2) (K 32 24 15 [104]) (br (eqI a0 3) (K 32 24 15 [113]) False)))) (br (eqI a0 3) (br (eqI a0 0) (K 32 24 16383 [115]) (br (eqI a0 1) (K 32 24 16383 [100]) (br (eqI a0 2) (K 32 24 16383 [104]) (br (eqI a0 3) (K 32 24 16383 [113]) False)))) False)))) (br (eqI a0 1) (br (eqI a0 0) (br (eqI a0 0) (K 32 53 127 [115]) (br (eqI a0 1) (K 32 53 127 [100]) (br (eqI a0 2) (K 32 53 127 [104]) (br (eqI a0 3) (K 32 53 127 [113]) False)))) (br (eqI a0 1) (br (eqI a0 0) (K 32 53 1023 [115]) (br (eqI a0 1) (K 32 53 1023 [100]) (br (eqI a0 2) (K 32 53 1023 [104]) (br (eqI a0 3) (K 32 53 1023 [113]) False)))) (br (eqI a0 2) (br (eqI a0 0) (K 32 53 15 [115]) (br (eqI a0 1) (K 32 53 15 [100]) (br (eqI a0 2) (K 32 53 15 [104]) (br (eqI a0 3) (K 32 53 15 [113]) False)))) (br (eqI a0 3) (br (eqI a0 0) (K 32 53 16383 [115]) (br (eqI a0 1) (K 32 53 16383 [100]) (br (eqI a0 2) (K 32 53 16383 [104]) (br (eqI a0 3) (K 32 53 16383 [113]) False)))) False)))) (br (eqI a0 2) (br (eqI a0 0) (br (eqI a0 0) (K 32 11 127 [115]) (br (eqI a0 1) (K 32 11 127 [100]) (br (eqI a0 2) (K 32 11 127 [104]) (br (eqI a0 3) (K 32 11 127 [113]) False)))) (br (eqI a0 1) (br (eqI a0 0) (K 32 11 1023 [115]) (br (eqI a0 1) (K 32 11 1023 [100]) (br (eqI a0 2) (K 32 11 1023 [104]) (br (eqI a0 3) (K 32 11 1023 [113]) False)))) (br (eqI a0 2) (br (eqI a0 0) (K 32 11 15 [115]) (br (eqI a0 1) (K 32 11 15 [100]) (br (eqI a0 2) (K 32 11 15 [104]) (br (eqI a0 3) (K 32 11 15 [113]) False)))) (br (eqI a0 3) (br (eqI a0 0) (K 32 11 16383 [115]) (br (eqI a0 1) (K 32 11 16383 [100]) (br (eqI a0 2) (K 32 11 16383 [104]) (br (eqI a0 3) (K 32 11 16383 [113]) False)))) False)))) (br (eqI a0 3) (br (eqI a0 0) (br (eqI a0 0) (K 32 113 127 [115]) (br (eqI a0 1) (K 32 113 127 [100]) (br (eqI a0 2) (K 32 113 127 [104]) (br (eqI a0 3) (K 32 113 127 [113]) False)))) (br (eqI a0 1) (br (eqI a0 0) (K 32 113 1023 [115]) (br (eqI a0 1) (K 32 113 1023 [100]) (br (eqI a0 2) (K 32 113 1023 [104]) (br (eqI a0 3) (K 32 113 1023 [113]) False)))) (br (eqI a0 2) (br (eqI a0 0) (K 32 113 15 [115]) (br (eqI a0 1) (K 32 113 15 [100]) (br (eqI a0 2) (K 32 113 15 [104]) (br (eqI a0 3) (K 32 113 15 [113]) False)))) (br (eqI a0 3) (br (eqI a0 0) (K 32 113 16383 [115]) (br (eqI a0 1) (K 32 113 16383 [100]) (br (eqI a0 2) (K 32 113 16383 [104]) (br (eqI a0 3) (K 32 113 16383 [113]) False)))) False)))) False)))) (br (eqI a0 1) (br (eqI a0 0) (br (eqI a0 0) (br (eqI a0 0) (K 64 24 127 [115]) (br (eqI a0 1) (K 64 24 127 [100]) (br (eqI a0 2) (K 64 24 127 [104]) (br (eqI a0 3) (K 64 24 127 [113]) False)))) (br (eqI a0 1) (br (eqI a0 0) (K 64 24 1023 [115]) (br (eqI a0 1) (K 64 24 1023 [100]) (br (eqI a0 2) (K 64 24 1023 [104]) (br (eqI a0 3) (K 64 24 1023 [113]) False)))) (br (eqI a0 2) (br (eqI a0 0) (K 64 24 15 [115]) (br (eqI a0 1) (K 64 24 15 [100]) (br (eqI a0 2) (K 64 24 15 [104]) (br (eqI a0 3) (K 64 24 15 [113]) False)))) (br (eqI a0 3) (br (eqI a0 0) (K 64 24 16383 [115]) (br (eqI a0 1) (K 64 24 16383 [100]) (br (eqI a0 2) (K 64 24 16383 [104]) (br (eqI a0 3) (K 64 24 16383 [113]) False)))) False)))) (br (eqI a0 1) (br (eqI a0 0) (br (eqI a0 0) (K 64 53 127 [115]) (br (eqI a0 1) (K 64 53 127 [100]) (br (eqI a0 2) (K 64 53 127 [104]) (br (eqI a0 3) (K 64 53 127 [113]) False)))) (br (eqI a0 1) (br (eqI a0 0) (K 64 53 1023 [115]) (br (eqI a0 1) (K 64 53 1023 [100]) (br (eqI a0 2) (K 64 53 1023 [104]) (br (eqI a0 3) (K 64 53 1023 [113]) False)))) (br (eqI a0 2) (br (eqI a0 0) (K 64 53 15 [115]) (br (eqI a0 1) (K 64 53 15 [100]) (br (eqI a0 2) (K 64 53 15 [104]) (br (eqI a0 3) (K 64 53 15 [113]) False)))) (br (eqI a0 3) (br (eqI a0 0) (K 64 53 16383 [115]) (br (eqI a0 1) (K 64 53 16383 [100]) (br (eqI a0 2) (K 64 53 16383 [104]) (br (eqI a0 3) (K 64 53 16383 [113]) False)))) False)))) (br (eqI a0 2) (br (eqI a0 0) (br (eqI a0 0) (K 64 11 127 [115]) (br (eqI a0 1) (K 64 11 127 [100]) (br (eqI a0 2) (K 64 11 127 [104]) (br (eqI a0 3) (K 64 11 127 [113]) False)))) (br (eqI a0 1) (br (eqI a0 0) (K 64 11 1023 [115]) (br (eqI a0 1) (K 64 11 1023 [100]) (br (eqI a0 2) (K 64 11 1023 [104]) (br (eqI a0 3) (K 64 11 1023 [113]) False)))) (br (eqI a0 2) (br (eqI a0 0) (K 64 11 15 [115]) (br (eqI a0 1) (K 64 11 15 [100]) (br (eqI a0 2) (K 64 11 15 [104]) (br (eqI a0 3) (K 64 11 15 [113]) False)))) (br (eqI a0 3) (br (eqI a0 0) (K 64 11 16383 [115]) (br (eqI a0 1) (K 64 11 16383 [100]) (br (eqI a0 2) (K 64 11 16383 [104]) (br (eqI a0 3) (K 64 11 16383 [113]) False)))) False)))) (br (eqI a0 3) (br (eqI a0 0) (br (eqI a0 0) (K 64 113 127 [115]) (br (eqI a0 1) (K 64 113 127 [100]) (br (eqI a0 2) (K 64 113 127 [104]) (br (eqI a0 3) (K 64 113 127 [113]) False)))) (br (eqI a0 1) (br (eqI a0 0) (K 64 113 1023 [115]) (br (eqI a0 1) (K 64 113 1023 [100]) (br (eqI a0 2) (K 64 113 1023 [104]) (br (eqI a0 3) (K 64 113 1023 [113]) False)))) (br (eqI a0 2) (br (eqI a0 0) (K 64 113 15 [115]) (br (eqI a0 1) (K 64 113 15 [100]) (br (eqI a0 2) (K 64 113 15 [104]) (br (eqI a0 3) (K 64 113 15 [113]) False)))) (br (eqI a0 3) (br (eqI a0 0) (K 64 113 16383 [115]) (br (eqI a0 1) (K 64 113 16383 [100]) (br (eqI a0 2) (K 64 113 16383 [104]) (br (eqI a0 3) (K 64 113 16383 [113]) False)))) False)))) False)))) (br (eqI a0 2) (br (eqI a0 0) (br (eqI a0 0) (br (eqI a0 0) (K 16 24 127 [115]) (br (eqI a0 1) (K 16 24 127 [100]) (br (eqI a0 2) (K 16 24 127 [104]) (br (eqI a0 3) (K 16 24 127 [113]) False)))) (br (eqI a0 1) (br (eqI a0 0) (K 16 24 1023 [115]) (br (eqI a0 1) (K 16 24 1023 [100]) (br (eqI a0 2) (K 16 24 1023 [104]) (br (eqI a0 3) (K 16 24 1023 [113]) False)))) (br (eqI a0 2) (br (eqI a0 0) (K 16 24 15 [115]) (br (eqI a0 1) (K 16 24 15 [100]) (br (eqI a0 2) (K 16 24 15 [104]) (br (eqI a0 3) (K 16 24 15 [113]) False)))) (br (eqI a0 3) (br (eqI a0 0) (K 16 24 16383 [115]) (br (eqI a0 1) (K 16 24 16383 [100]) (br (eqI a0 2) (K 16 24 16383 [104]) (br (eqI a0 3) (K 16 24 16383 [113]) False)))) False)))) (br (eqI a0 1) (br (eqI a0 0) (br (eqI a0 0) (K 16 53 127 [115]) (br (eqI a0 1) (K 16 53 127 [100]) (br (eqI a0 2) (K 16 53 127 [104]) (br (eqI a0 3) (K 16 53 127 [113]) False)))) (br (eqI a0 1) (br (eqI a0 0) (K 16 53 1023 [115]) (br (eqI a0 1) (K 16 53 1023 [100]) (br (eqI a0 2) (K 16 53 1023 [104]) (br (eqI a0 3) (K 16 53 1023 [113]) False)))) (br (eqI a0 2) (br (eqI a0 0) (K 16 53 15 [115]) (br (eqI a0 1) (K 16 53 15 [100]) (br (eqI a0 2) (K 16 53 15 [104]) (br (eqI a0 3) (K 16 53 15 [113]) False)))) (br (eqI a0 3) (br (eqI a0 0) (K 16 53 16383 [115]) (br (eqI a0 1) (K 16 53 16383 [100]) (br (eqI a0 2) (K 16 53 16383 [104]) (br (eqI a0 3) (K 16 53 16383 [113]) False)))) False)))) (br (eqI a0 2) (br (eqI a0 0) (br (eqI a0 0) (K 16 11 127 [115]) (br (eqI a0 1) (K 16 11 127 [100]) (br (eqI a0 2) (K 16 11 127 [104]) (br (eqI a0 3) (K 16 11 127 [113]) False)))) (br (eqI a0 1) (br (eqI a0 0) (K 16 11 1023 [115]) (br (eqI a0 1) (K 16 11 1023 [100]) (br (eqI a0 2) (K 16 11 1023 [104]) (br (eqI a0 3) (K 16 11 1023 [113]) False)))) (br (eqI a0 2) (br (eqI a0 0) (K 16 11 15 [115]) (br (eqI a0 1) (K 16 11 15 [100]) (br (eqI a0 2) (K 16 11 15 [104]) (br (eqI a0 3) (K 16 11 15 [113]) False)))) (br (eqI a0 3) (br (eqI a0 0) (K 16 11 16383 [115]) (br (eqI a0 1) (K 16 11 16383 [100]) (br (eqI a0 2) (K 16 11 16383 [104]) (br (eqI a0 3) (K 16 11 16383 [113]) False)))) False)))) (br (eqI a0 3) (br (eqI a0 0) (br (eqI a0 0) (K 16 113 127 [115]) (br (eqI a0 1) (K 16 113 127 [100]) (br (eqI a0 2) (K 16 113 127 [104]) (br (eqI a0 3) (K 16 113 127 [113]) False)))) (br (eqI a0 1) (br (eqI a0 0) (K 16 113 1023 [115]) (br (eqI a0 1) (K 16 113 1023 [100]) (br (eqI a0 2) (K 16 113 1023 [104]) (br (eqI a0 3) (K 16 113 1023 [113]) False)))) (br (eqI a0 2) (br (eqI a0 0) (K 16 113 15 [115]) (br (eqI a0 1) (K 16 113 15 [100]) (br (eqI a0 2) (K 16 113 15 [104]) (br (eqI a0 3) (K 16 113 15 [113]) False)))) (br (eqI a0 3) (br (eqI a0 0) (K 16 113 16383 [115]) (br (eqI a0 1) (K 16 113 16383 [100]) (br (eqI a0 2) (K 16 113 16383 [104]) (br (eqI a0 3) (K 16 113 16383 [113]) False)))) False)))) False)))) (br (eqI a0 3) (br (eqI a0 0) (br (eqI a0 0) (br (eqI a0 0) (K 128 24 127 [115]) (br (eqI a0 1) (K 128 24 127 [100]) (br (eqI a0 2) (K 128 24 127 [104]) (br (eqI a0 3) (K 128 24 127 [113]) False)))) (br (eqI a0 1) (br (eqI a0 0) (K 128 24 1023 [115]) (br (eqI a0 1) (K 128 24 1023 [100]) (br (eqI a0 2) (K 128 24 1023 [104]) (br (eqI a0 3) (K 128 24 1023 [113]) False)))) (br (eqI a0 2) (br (eqI a0 0) (K 128 24 15 [115]) (br (eqI a0 1) (K 128 24 15 [100]) (br (eqI a0 2) (K 128 24 15 [104]) (br (eqI a0 3) (K 128 24 15 [113]) False)))) (br (eqI a0 3) (br (eqI a0 0) (K 128 24 16383 [115]) (br (eqI a0 1) (K 128 24 16383 [100]) (br (eqI a0 2) (K 128 24 16383 [104]) (br (eqI a0 3) (K 128 24 16383 [113]) False)))) False)))) (br (eqI a0 1) (br (eqI a0 0) (br (eqI a0 0) (K 128 53 127 [115]) (br (eqI a0 1) (K 128 53 127 [100]) (br (eqI a0 2) (K 128 53 127 [104]) (br (eqI a0 3) (K 128 53 127 [113]) False)))) (br (eqI a0 1) (br (eqI a0 0) (K 128 53 1023 [115]) (br (eqI a0 1) (K 128 53 1023 [100]) (br (eqI a0 2) (K 128 53 1023 [104]) (br (eqI a0 3) (K 128 53 1023 [113]) False)))) (br (eqI a0 2) (br (eqI a0 0) (K 128 53 15 [115]) (br (eqI a0 1) (K 128 53 15 [100]) (br (eqI a0 2) (K 128 53 15 [104]) (br (eqI a0 3) (K 128 53 15 [113]) False)))) (br (eqI a0 3) (br (eqI a0 0) (K 128 53 16383 [115]) (br (eqI a0 1) (K 128 53 16383 [100]) (br (eqI a0 2) (K 128 53 16383 [104]) (br (eqI a0 3) (K 128 53 16383 [113]) False)))) False)))) (br (eqI a0 2) (br (eqI a0 0) (br (eqI a0 0) (K 128 11 127 [115]) (br (eqI a0 1) (K 128 11 127 [100]) (br (eqI a0 2) (K 128 11 127 [104]) (br (eqI a0 3) (K 128 11 127 [113]) False)))) (br (eqI a0 1) (br (eqI a0 0) (K 128 11 1023 [115]) (br (eqI a0 1) (K 128 11 1023 [100]) (br (eqI a0 2) (K 128 11 1023 [104]) (br (eqI a0 3) (K 128 11 1023 [113]) False)))) (br (eqI a0 2) (br (eqI a0 0) (K 128 11 15 [115]) (br (eqI a0 1) (K 128 11 15 [100]) (br (eqI a0 2) (K 128 11 15 [104]) (br (eqI a0 3) (K 128 11 15 [113]) False)))) (br (eqI a0 3) (br (eqI a0 0) (K 128 11 16383 [115]) (br (eqI a0 1) (K 128 11 16383 [100]) (br (eqI a0 2) (K 128 11 16383 [104]) (br (eqI a0 3) (K 128 11 16383 [113]) False)))) False)))) (br (eqI a0 3) (br (eqI a0 0) (br (eqI a0 0) (K 128 113 127 [115]) (br (eqI a0 1) (K 128 113 127 [100]) (br (eqI a0 2) (K 128 113 127 [104]) (br (eqI a0 3) (K 128 113 127 [113]) False)))) (br (eqI a0 1) (br (eqI a0 0) (K 128 113 1023 [115]) (br (eqI a0 1) (K 128 113 1023 [100]) (br (eqI a0 2) (K 128 113 1023 [104]) (br (eqI a0 3) (K 128 113 1023 [113]) False)))) (br (eqI a0 2) (br (eqI a0 0) (K 128 113 15 [115]) (br (eqI a0 1) (K 128 113 15 [100]) (br (eqI a0 2) (K 128 113 15 [104]) (br (eqI a0 3) (K 128 113 15 [113]) False)))) (br (eqI a0 3) (br (eqI a0 0) (K 128 113 16383 [115]) (br (eqI a0 1) (K 128 113 16383 [100]) (br (eqI a0 2) (K 128 113 16383 [104]) (br (eqI a0 3) (K 128 113 16383 [113]) False)))) False)))) False)))) False))))
noncomputable def shape_numbers : Int → (Int → Int → Int → List UInt8 → Prop) → Prop := Classical.choose (⟨shape_numbers.d, rfl⟩ : ∃ f, f = shape_numbers.d)
theorem shape_numbers.is : shape_numbers = shape_numbers.d := Classical.choose_spec (⟨shape_numbers.d, rfl⟩ : ∃ f, f = shape_numbers.d)
def shape_Emax.d (a0 : Int) (K : Int → Prop) : Prop :=
  shape_numbers a0 fun y0 y1 y2 y3 => K y2
noncomputable def shape_Emax : Int → (Int → Prop) → Prop := Classical.choose (⟨shape_Emax.d, rfl⟩ : ∃ f, f = shape_Emax.d)
theorem shape_Emax.is : shape_Emax = shape_Emax.d := Classical.choose_spec (⟨shape_Emax.d, rfl⟩ : ∃ f, f = shape_Emax.d)
def shape_Emin.d (a0 : Int) (K : Int → Prop) : Prop :=
  shape_Check a0 fun y0 => br (!eqI y0 0) (K 0) (shape_Emax a0 fun y0 => K (subI IntKind.i64 1 y0))
noncomputable def shape_Emin : Int → (Int → Prop) → Prop := Classical.choose (⟨shape_Emin.d, rfl⟩ : ∃ f, f = shape_Emin.d)
theorem shape_Emin.is : shape_Emin = shape_Emin.d := Classical.choose_spec (⟨shape_Emin.d, rfl⟩ : ∃ f, f = shape_Emin.d)
def shape_Width.d (a0 : Int) (K : Int → Prop) : Prop :=
  shape_numbers a0 fun y0 y1 y2 y3 => K y0
noncomputable def shape_Width : Int → (Int → Prop) → Prop := Classical.choose (⟨shape_Width.d, rfl⟩ : ∃ f, f = shape_Width.d)
theorem shape_Width.is : shape_Width = shape_Width.d := Classical.choose_spec (⟨shape_Width.d, rfl⟩ : ∃ f, f = shape_Width.d)
def shape_Precision.d (a0 : Int) (K : Int → Prop) : Prop :=
  shape_numbers a0 fun y0 y1 y2 y3 => K y1
noncomputable def shape_Precision : Int → (Int → Prop) → Prop := Classical.choose (⟨shape_Precision.d, rfl⟩ : ∃ f, f = shape_Precision.d)
theorem shape_Precision.is : shape_Precision = shape_Precision.d := Classical.choose_spec (⟨shape_Precision.d, rfl⟩ : ∃ f, f = shape_Precision.d)
def shape_at.d (a0 : Int) (a1 : Int) (K : Int → Int → Prop) : Prop :=
  br (leI 64 a1) (gd (!ltI (cvI IntKind.u64 (subI IntKind.i64 a1 64)) 0) (K (shlI IntKind.u64 a0 (cvI IntKind.u64 (subI IntKind.i64 a1 64))) 0)) (gd (!ltI (cvI IntKind.u64 a1) 0) (br (ltI 0 a1) (gd (!ltI (cvI IntKind.u64 (subI IntKind.i64 64 a1)) 0) (K (shrI IntKind.u64 a0 (cvI IntKind.u64 (subI IntKind.i64 64 a1))) (shlI IntKind.u64 a0 (cvI IntKind.u64 a1)))) (K 0 (shlI IntKind.u64 a0 (cvI IntKind.u64 a1)))))
noncomputable def shape_at : Int → Int → (Int → Int → Prop) → Prop := Classical.choose (⟨shape_at.d, rfl⟩ : ∃ f, f = shape_at.d)
theorem shape_at.is : shape_at = shape_at.d := Classical.choose_spec (⟨shape_at.d, rfl⟩ : ∃ f, f = shape_at.d)
def shape_field.d (a0 : Int) (a1 : Int) (K : Int → Int → Prop) : Prop :=
  shape_Precision a0 fun y0 => shape_at (cvI IntKind.u64 a1) (subI IntKind.i64 y0 1) fun y0 y1 => K y0 y1
noncomputable def shape_field : Int → Int → (Int → Int → Prop) → Prop := Classical.choose (⟨shape_field.d, rfl⟩ : ∃ f, f = shape_field.d)
theorem shape_field.is : shape_field = shape_field.d := Classical.choose_spec (⟨shape_field.d, rfl⟩ : ∃ f, f = shape_field.d)
def shape_with.d (a0 : Int) (a1_0 : Int) (a1_1 : Int) (a2 : Bool) (K : Int → Int → Prop) : Prop :=
  shape_Check a0 fun y0 => br (!eqI y0 0) (K 0 0) (br a2 (shape_Width a0 fun y0 => shape_at 1 (subI IntKind.i64 y0 1) fun y0 y1 => K (orI IntKind.u64 a1_0 y0) (orI IntKind.u64 a1_1 y1)) (K a1_0 a1_1))
noncomputable def shape_with : Int → Int → Int → Bool → (Int → Int → Prop) → Prop := Classical.choose (⟨shape_with.d, rfl⟩ : ∃ f, f = shape_with.d)
theorem shape_with.is : shape_with = shape_with.d := Classical.choose_spec (⟨shape_with.d, rfl⟩ : ∃ f, f = shape_with.d)
def shape_Inf.d (a0 : Int) (a1 : Bool) (K : Int → Int → Prop) : Prop :=
  shape_Check a0 fun y0 => br (!eqI y0 0) (K 0 0) (shape_Emax a0 fun y0 => shape_field a0 (addI IntKind.i64 (mulI IntKind.i64 2 y0) 1) fun y0 y1 => shape_with a0 y0 y1 a1 fun y0 y1 => K y0 y1)
noncomputable def shape_Inf : Int → Bool → (Int → Int → Prop) → Prop := Classical.choose (⟨shape_Inf.d, rfl⟩ : ∃ f, f = shape_Inf.d)
theorem shape_Inf.is : shape_Inf = shape_Inf.d := Classical.choose_spec (⟨shape_Inf.d, rfl⟩ : ∃ f, f = shape_Inf.d)
def shape_Greatest.d (a0 : Int) (a1 : Bool) (K : Int → Int → Prop) : Prop :=
  shape_Inf a0 false fun y0 y1 => br (eqI y0 0 && eqI y1 0) (K y0 y1) (br (eqI y1 0) (shape_Check a0 fun y0_1 => br (eqI y0_1 0) (shape_Width a0 fun y0_2 => br (ltI y0_2 128) (shape_with a0 0 (subI IntKind.u64 y1 1) a1 fun y0 y1 => K y0 y1) (shape_with a0 (subI IntKind.u64 y0 1) (subI IntKind.u64 y1 1) a1 fun y0 y1 => K y0 y1)) (shape_with a0 (subI IntKind.u64 y0 1) (subI IntKind.u64 y1 1) a1 fun y0 y1 => K y0 y1)) (shape_Check a0 fun y0_1 => br (eqI y0_1 0) (shape_Width a0 fun y0_2 => br (ltI y0_2 128) (shape_with a0 0 (subI IntKind.u64 y1 1) a1 fun y0 y1 => K y0 y1) (shape_with a0 y0 (subI IntKind.u64 y1 1) a1 fun y0 y1 => K y0 y1)) (shape_with a0 y0 (subI IntKind.u64 y1 1) a1 fun y0 y1 => K y0 y1)))
noncomputable def shape_Greatest : Int → Bool → (Int → Int → Prop) → Prop := Classical.choose (⟨shape_Greatest.d, rfl⟩ : ∃ f, f = shape_Greatest.d)
theorem shape_Greatest.is : shape_Greatest = shape_Greatest.d := Classical.choose_spec (⟨shape_Greatest.d, rfl⟩ : ∃ f, f = shape_Greatest.d)
def shape_Zero.d (a0 : Int) (a1 : Bool) (K : Int → Int → Prop) : Prop :=
  shape_with a0 0 0 a1 fun y0 y1 => K y0 y1
noncomputable def shape_Zero : Int → Bool → (Int → Int → Prop) → Prop := Classical.choose (⟨shape_Zero.d, rfl⟩ : ∃ f, f = shape_Zero.d)
theorem shape_Zero.is : shape_Zero = shape_Zero.d := Classical.choose_spec (⟨shape_Zero.d, rfl⟩ : ∃ f, f = shape_Zero.d)
end Go.Ev.S

/- The functions as the evaluator has them: what each comes to. -/
set_option maxRecDepth 100000
set_option linter.unusedVariables false
set_option linter.unusedSimpArgs false
namespace Go.Ev.S
open Go Go.Ev
def round_right.d (a0 : Int) (a1 : Int) (K : Bool → Prop) : Prop :=
  shape_Check a0 fun y0 => br (eqI y0 0) (shape_CheckMode a1 fun y0 => K (eqI y0 0)) (K false)
noncomputable def round_right : Int → Int → (Bool → Prop) → Prop := Classical.choose (⟨round_right.d, rfl⟩ : ∃ f, f = round_right.d)
theorem round_right.is : round_right = round_right.d := Classical.choose_spec (⟨round_right.d, rfl⟩ : ∃ f, f = round_right.d)
def round_Over.d (a0 : Int) (a1 : Int) (a2 : Bool) (K : Int → Int → Int → Int → Prop) : Prop :=
  round_right a0 a1 fun y0 => br (!y0) (K 0 0 0 2) (br (eqI a1 1) (br (eqI a1 1) (shape_Greatest a0 a2 fun y0 y1 => K y0 y1 5 0) (shape_Inf a0 a2 fun y0 y1 => K y0 y1 5 0)) (br (eqI a1 2) (br (!a2) (br (!a2) (shape_Greatest a0 a2 fun y0 y1 => K y0 y1 5 0) (shape_Inf a0 a2 fun y0 y1 => K y0 y1 5 0)) (br (eqI a1 3) (br a2 (shape_Greatest a0 a2 fun y0 y1 => K y0 y1 5 0) (shape_Inf a0 a2 fun y0 y1 => K y0 y1 5 0)) (shape_Inf a0 a2 fun y0 y1 => K y0 y1 5 0))) (br (eqI a1 3) (br a2 (shape_Greatest a0 a2 fun y0 y1 => K y0 y1 5 0) (shape_Inf a0 a2 fun y0 y1 => K y0 y1 5 0)) (shape_Inf a0 a2 fun y0 y1 => K y0 y1 5 0))))
noncomputable def round_Over : Int → Int → Bool → (Int → Int → Int → Int → Prop) → Prop := Classical.choose (⟨round_Over.d, rfl⟩ : ∃ f, f = round_Over.d)
theorem round_Over.is : round_Over = round_Over.d := Classical.choose_spec (⟨round_Over.d, rfl⟩ : ∃ f, f = round_Over.d)
def round_Up.d (a0 : Int) (a1 : Bool) (a2 : Bool) (a3 : Int) (a4 : Bool) (K : Bool → Prop) : Prop :=
  br a4 (K false) (br (eqI a0 0) (br (ltI 0 a3) (K true) (br (eqI a3 0) (K a2) (K false))) (br (eqI a0 4) (K (leI 0 a3)) (br (eqI a0 2) (br (eqI a0 2) (K (beqB a1 (eqI a0 2))) (K false)) (br (eqI a0 3) (K (beqB a1 (eqI a0 2))) (K false)))))
noncomputable def round_Up : Int → Bool → Bool → Int → Bool → (Bool → Prop) → Prop := Classical.choose (⟨round_Up.d, rfl⟩ : ∃ f, f = round_Up.d)
theorem round_Up.is : round_Up = round_Up.d := Classical.choose_spec (⟨round_Up.d, rfl⟩ : ∃ f, f = round_Up.d)
def round_grid.d (a0 : Int) (a1_0 : Bool) (a1_1 : Nat → Int) (a1_2 : Int) (a1_3 : Bool) (a2 : Int) (K : (Nat → Int) → Bool → Prop) : Prop :=
  br (leI (subI IntKind.i64 a2 a1_2) 0) (wide_Left a1_1 (negI IntKind.i64 (subI IntKind.i64 a2 a1_2)) fun y0 y1 => K y0 !a1_3) (jam_Cut a1_1 (subI IntKind.i64 a2 a1_2) fun y0 y1 y2 => br a1_3 (br (eqI y1 0) (round_Up a0 a1_0 (eqI (andI IntKind.u64 (y0 0) 1) 1) 1 false fun y0_1 => br y0_1 (wide_Of 1 fun y0_2 => wide_Add y0 y0_2 fun y0 y1 => K y0 false) (K y0 false)) (round_Up a0 a1_0 (eqI (andI IntKind.u64 (y0 0) 1) 1) y1 false fun y0_1 => br y0_1 (wide_Of 1 fun y0_2 => wide_Add y0 y0_2 fun y0 y1 => K y0 false) (K y0 false))) (round_Up a0 a1_0 (eqI (andI IntKind.u64 (y0 0) 1) 1) y1 y2 fun y0_1 => br y0_1 (wide_Of 1 fun y0_2 => wide_Add y0 y0_2 fun y0 y1 => K y0 y2) (K y0 y2)))
noncomputable def round_grid : Int → Bool → (Nat → Int) → Int → Bool → Int → ((Nat → Int) → Bool → Prop) → Prop := Classical.choose (⟨round_grid.d, rfl⟩ : ∃ f, f = round_grid.d)
theorem round_grid.is : round_grid = round_grid.d := Classical.choose_spec (⟨round_grid.d, rfl⟩ : ∃ f, f = round_grid.d)
def round_tiny.d (a0 : Int) (a1 : Int) (a2_0 : Bool) (a2_1 : Nat → Int) (a2_2 : Int) (a2_3 : Bool) (a3 : Int) (K : Bool → Prop) : Prop :=
  shape_Emin a0 fun y0 => shape_Precision a0 fun y0_1 => br (!eqI a3 (subI IntKind.i64 y0 1)) (K (ltI a3 y0)) (round_grid a1 a2_0 a2_1 a2_2 a2_3 (addI IntKind.i64 (subI IntKind.i64 a3 y0_1) 1) fun y0 y1 => wide_Len y0 fun y0 => K (leI y0 y0_1))
noncomputable def round_tiny : Int → Int → Bool → (Nat → Int) → Int → Bool → Int → (Bool → Prop) → Prop := Classical.choose (⟨round_tiny.d, rfl⟩ : ∃ f, f = round_tiny.d)
theorem round_tiny.is : round_tiny = round_tiny.d := Classical.choose_spec (⟨round_tiny.d, rfl⟩ : ∃ f, f = round_tiny.d)
def round_Pack.d (a0 : Int) (a1 : Int) (a2_0 : Bool) (a2_1 : Nat → Int) (a2_2 : Int) (a2_3 : Bool) (K : Int → Int → Int → Int → Prop) : Prop :=
  shape_Precision a0 fun y0 => round_right a0 a1 fun y0_1 => br (!y0_1) (K 0 0 0 2) (br (ltI a2_2 (-1048576)) (K 0 0 0 2) (br (ltI 1048576 a2_2) (K 0 0 0 2) (br a2_3 (wide_Len a2_1 fun y0_2 => br (ltI y0_2 (addI IntKind.i64 y0 2)) (K 0 0 0 2) (br (eqN 6 a2_1 fun x => 0) (shape_Zero a0 a2_0 fun y0 y1 => K y0 y1 0 0) (wide_Len a2_1 fun y0_3 => shape_Emin a0 fun y0_4 => shape_Emax a0 fun y0_5 => br (ltI y0_5 (addI IntKind.i64 (subI IntKind.i64 y0_3 1) a2_2)) (round_Over a0 a1 a2_0 fun y0 y1 y2 y3 => K y0 y1 y2 y3) (round_grid a1 a2_0 a2_1 a2_2 a2_3 (addI IntKind.i64 (subI IntKind.i64 (maxI (addI IntKind.i64 (subI IntKind.i64 y0_3 1) a2_2) y0_4) y0) 1) fun y0_6 y1 => wide_Len y0_6 fun y0_7 => shape_Emax a0 fun y0_8 => br (ltI y0_8 (addI IntKind.i64 (subI IntKind.i64 y0_7 1) (addI IntKind.i64 (subI IntKind.i64 (maxI (addI IntKind.i64 (subI IntKind.i64 y0_3 1) a2_2) y0_4) y0) 1))) (round_Over a0 a1 a2_0 fun y0 y1 y2 y3 => K y0 y1 y2 y3) (br (!y1) (round_tiny a0 a1 a2_0 a2_1 a2_2 a2_3 (addI IntKind.i64 (subI IntKind.i64 y0_3 1) a2_2) fun y0_9 => br y0_9 (wide_Of (cvI IntKind.u64 (subI IntKind.i64 (addI IntKind.i64 (subI IntKind.i64 (addI IntKind.i64 (subI IntKind.i64 (maxI (addI IntKind.i64 (subI IntKind.i64 y0_3 1) a2_2) y0_4) y0) 1) y0_4) y0) 1)) fun y0_10 => wide_Left y0_10 (subI IntKind.i64 y0 1) fun y0 y1 => wide_Add y0 y0_6 fun y0 y1 => wide_ToBits y0 fun y0 y1 y2 => shape_Zero a0 a2_0 fun y0_11 y1_1 => K (orI IntKind.u64 y0 y0_11) (orI IntKind.u64 y1 y1_1) 3 0) (wide_Of (cvI IntKind.u64 (subI IntKind.i64 (addI IntKind.i64 (subI IntKind.i64 (addI IntKind.i64 (subI IntKind.i64 (maxI (addI IntKind.i64 (subI IntKind.i64 y0_3 1) a2_2) y0_4) y0) 1) y0_4) y0) 1)) fun y0_10 => wide_Left y0_10 (subI IntKind.i64 y0 1) fun y0 y1 => wide_Add y0 y0_6 fun y0 y1 => wide_ToBits y0 fun y0 y1 y2 => shape_Zero a0 a2_0 fun y0_11 y1_1 => K (orI IntKind.u64 y0 y0_11) (orI IntKind.u64 y1 y1_1) 1 0)) (wide_Of (cvI IntKind.u64 (subI IntKind.i64 (addI IntKind.i64 (subI IntKind.i64 (addI IntKind.i64 (subI IntKind.i64 (maxI (addI IntKind.i64 (subI IntKind.i64 y0_3 1) a2_2) y0_4) y0) 1) y0_4) y0) 1)) fun y0_9 => wide_Left y0_9 (subI IntKind.i64 y0 1) fun y0 y1 => wide_Add y0 y0_6 fun y0 y1 => wide_ToBits y0 fun y0 y1 y2 => shape_Zero a0 a2_0 fun y0_10 y1_1 => K (orI IntKind.u64 y0 y0_10) (orI IntKind.u64 y1 y1_1) 0 0)))))) (br (eqN 6 a2_1 fun x => 0) (shape_Zero a0 a2_0 fun y0 y1 => K y0 y1 0 0) (wide_Len a2_1 fun y0_2 => shape_Emin a0 fun y0_3 => shape_Emax a0 fun y0_4 => br (ltI y0_4 (addI IntKind.i64 (subI IntKind.i64 y0_2 1) a2_2)) (round_Over a0 a1 a2_0 fun y0 y1 y2 y3 => K y0 y1 y2 y3) (round_grid a1 a2_0 a2_1 a2_2 a2_3 (addI IntKind.i64 (subI IntKind.i64 (maxI (addI IntKind.i64 (subI IntKind.i64 y0_2 1) a2_2) y0_3) y0) 1) fun y0_5 y1 => wide_Len y0_5 fun y0_6 => shape_Emax a0 fun y0_7 => br (ltI y0_7 (addI IntKind.i64 (subI IntKind.i64 y0_6 1) (addI IntKind.i64 (subI IntKind.i64 (maxI (addI IntKind.i64 (subI IntKind.i64 y0_2 1) a2_2) y0_3) y0) 1))) (round_Over a0 a1 a2_0 fun y0 y1 y2 y3 => K y0 y1 y2 y3) (br (!y1) (round_tiny a0 a1 a2_0 a2_1 a2_2 a2_3 (addI IntKind.i64 (subI IntKind.i64 y0_2 1) a2_2) fun y0_8 => br y0_8 (wide_Of (cvI IntKind.u64 (subI IntKind.i64 (addI IntKind.i64 (subI IntKind.i64 (addI IntKind.i64 (subI IntKind.i64 (maxI (addI IntKind.i64 (subI IntKind.i64 y0_2 1) a2_2) y0_3) y0) 1) y0_3) y0) 1)) fun y0_9 => wide_Left y0_9 (subI IntKind.i64 y0 1) fun y0 y1 => wide_Add y0 y0_5 fun y0 y1 => wide_ToBits y0 fun y0 y1 y2 => shape_Zero a0 a2_0 fun y0_10 y1_1 => K (orI IntKind.u64 y0 y0_10) (orI IntKind.u64 y1 y1_1) 3 0) (wide_Of (cvI IntKind.u64 (subI IntKind.i64 (addI IntKind.i64 (subI IntKind.i64 (addI IntKind.i64 (subI IntKind.i64 (maxI (addI IntKind.i64 (subI IntKind.i64 y0_2 1) a2_2) y0_3) y0) 1) y0_3) y0) 1)) fun y0_9 => wide_Left y0_9 (subI IntKind.i64 y0 1) fun y0 y1 => wide_Add y0 y0_5 fun y0 y1 => wide_ToBits y0 fun y0 y1 y2 => shape_Zero a0 a2_0 fun y0_10 y1_1 => K (orI IntKind.u64 y0 y0_10) (orI IntKind.u64 y1 y1_1) 1 0)) (wide_Of (cvI IntKind.u64 (subI IntKind.i64 (addI IntKind.i64 (subI IntKind.i64 (addI IntKind.i64 (subI IntKind.i64 (maxI (addI IntKind.i64 (subI IntKind.i64 y0_2 1) a2_2) y0_3) y0) 1) y0_3) y0) 1)) fun y0_8 => wide_Left y0_8 (subI IntKind.i64 y0 1) fun y0 y1 => wide_Add y0 y0_5 fun y0 y1 => wide_ToBits y0 fun y0 y1 y2 => shape_Zero a0 a2_0 fun y0_9 y1_1 => K (orI IntKind.u64 y0 y0_9) (orI IntKind.u64 y1 y1_1) 0 0))))))))
noncomputable def round_Pack : Int → Int → Bool → (Nat → Int) → Int → Bool → (Int → Int → Int → Int → Prop) → Prop := Classical.choose (⟨round_Pack.d, rfl⟩ : ∃ f, f = round_Pack.d)
theorem round_Pack.is : round_Pack = round_Pack.d := Classical.choose_spec (⟨round_Pack.d, rfl⟩ : ∃ f, f = round_Pack.d)
end Go.Ev.S

/- The functions as the evaluator has them: what each comes to. -/
set_option maxRecDepth 100000
set_option linter.unusedVariables false
set_option linter.unusedSimpArgs false
namespace Go.Ev.S
open Go Go.Ev
def nat_words.l3.step (again : List UInt8 → Nat → Nat → Int → Int → Nat → (Nat → Int) → Prop) (k0 : Nat → Nat → Nat → (Nat → Int) → Prop) (x0 : List UInt8) (x1 : Nat) (x2 : Nat) (x3 : Int) (x4 : Int) (x5 : Nat) (x6 : Nat → Int) : Prop :=
  br (ltI x4 x3) (gd (leI 0 (quoI IntKind.i64 x4 4) && ltI (quoI IntKind.i64 x4 4) ↑x1) (gd (leI 0 (subI IntKind.i64 (subI IntKind.i64 (↑(List.length x0)) 1) x4) && ltI (subI IntKind.i64 (subI IntKind.i64 (↑(List.length x0)) 1) x4) ↑(List.length x0)) (gd (!ltI (cvI IntKind.u64 (mulI IntKind.i64 8 (remI IntKind.i64 x4 4))) 0) (gd (leI 0 (quoI IntKind.i64 x4 4) && ltI (quoI IntKind.i64 x4 4) ↑x1) (again x0 x1 x2 x3 (addI IntKind.i64 x4 1) x5 (upd x6 (Int.toNat (quoI IntKind.i64 x4 4)) (orI IntKind.u32 (x6 (Int.toNat (quoI IntKind.i64 x4 4))) (shlI IntKind.u32 (cvI IntKind.u32 (byteAt x0 (Int.toNat (subI IntKind.i64 (subI IntKind.i64 (↑(List.length x0)) 1) x4)))) (cvI IntKind.u64 (mulI IntKind.i64 8 (remI IntKind.i64 x4 4))))))))))) (k0 x1 x2 x5 x6)
def nat_words.l3 (k0 : Nat → Nat → Nat → (Nat → Int) → Prop) : Nat → List UInt8 → Nat → Nat → Int → Int → Nat → (Nat → Int) → Prop
  | 0 => fun _ _ _ _ _ _ _ => False
  | n + 1 => nat_words.l3.step (nat_words.l3 k0 n) k0
def nat_words.d (a0 : List UInt8) (K : Nat → (Nat → Int) → Prop) : Prop :=
  gd (leI 0 (quoI IntKind.i64 (addI IntKind.i64 (↑(List.length a0)) 3) 4) && (leI (quoI IntKind.i64 (addI IntKind.i64 (↑(List.length a0)) 3) 4) (quoI IntKind.i64 (addI IntKind.i64 (↑(List.length a0)) 3) 4) && leI (quoI IntKind.i64 (addI IntKind.i64 (↑(List.length a0)) 3) 4) 1099511627776)) (∃ n, nat_words.l3 (fun y0 y1 y2 y3 => K y0 y3) n a0 (Int.toNat (quoI IntKind.i64 (addI IntKind.i64 (↑(List.length a0)) 3) 4)) (Int.toNat (quoI IntKind.i64 (addI IntKind.i64 (↑(List.length a0)) 3) 4)) (↑(List.length a0)) 0 (Int.toNat (quoI IntKind.i64 (addI IntKind.i64 (↑(List.length a0)) 3) 4)) fun x => 0)
noncomputable def nat_words : List UInt8 → (Nat → (Nat → Int) → Prop) → Prop := Classical.choose (⟨nat_words.d, rfl⟩ : ∃ f, f = nat_words.d)
theorem nat_words.is : nat_words = nat_words.d := Classical.choose_spec (⟨nat_words.d, rfl⟩ : ∃ f, f = nat_words.d)
end Go.Ev.S

/- The functions as the evaluator has them: what each comes to. -/
set_option maxRecDepth 100000
set_option linter.unusedVariables false
set_option linter.unusedSimpArgs false
namespace Go.Ev.S
open Go Go.Ev
end Go.Ev.S

/- The functions as the evaluator has them: what each comes to. -/
set_option maxRecDepth 100000
set_option linter.unusedVariables false
set_option linter.unusedSimpArgs false
namespace Go.Ev.S
open Go Go.Ev
end Go.Ev.S

/- The functions as the evaluator has them: what each comes to. -/
set_option maxRecDepth 100000
set_option linter.unusedVariables false
set_option linter.unusedSimpArgs false
namespace Go.Ev.S
open Go Go.Ev
end Go.Ev.S

/- The functions as the evaluator has them: what each comes to. -/
set_option maxRecDepth 100000
set_option linter.unusedVariables false
set_option linter.unusedSimpArgs false
namespace Go.Ev.S
open Go Go.Ev
end Go.Ev.S

/- The functions as the evaluator has them: what each comes to. -/
set_option maxRecDepth 100000
set_option linter.unusedVariables false
set_option linter.unusedSimpArgs false
namespace Go.Ev.S
open Go Go.Ev
end Go.Ev.S

/- The functions as the evaluator has them: what each comes to. -/
set_option maxRecDepth 100000
set_option linter.unusedVariables false
set_option linter.unusedSimpArgs false
namespace Go.Ev.S
open Go Go.Ev
end Go.Ev.S

/- The functions as the evaluator has them: what each comes to. -/
set_option maxRecDepth 100000
set_option linter.unusedVariables false
set_option linter.unusedSimpArgs false
namespace Go.Ev.S
open Go Go.Ev
def law10_alive.d (K : Bool → Prop) : Prop :=
  round_Pack 2 0 false (upd (fun x => 0) 0 4095) 0 false fun y0 y1 y2 y3 => round_Pack 2 3 false (upd (fun x => 0) 0 4095) 0 true fun y0_1 y1_1 y2_1 y3_1 => br (eqI y0 0 && eqI y1 27648) (br (eqI y2 1) (br (eqI y3 0) (K (eqI y3_1 2)) (K false)) (K false)) (K false)
noncomputable def law10_alive : (Bool → Prop) → Prop := Classical.choose (⟨law10_alive.d, rfl⟩ : ∃ f, f = law10_alive.d)
theorem law10_alive.is : law10_alive = law10_alive.d := Classical.choose_spec (⟨law10_alive.d, rfl⟩ : ∃ f, f = law10_alive.d)
def law10_RoundDoubled.d (a0 : Int) (a1 : Int) (a2_0 : Bool) (a2_1 : Nat → Int) (a2_2 : Int) (a2_3 : Bool) (a3 : Int) (K : Bool → Prop) : Prop :=
  r02_Left a2_1 (andI IntKind.i64 a3 63) fun y0 y1 => br y1 (law10_alive fun y0 => K y0) (br a2_3 (law10_alive fun y0 => K y0) (br (ltI a2_2 (-1048512)) (law10_alive fun y0 => K y0) (br (ltI 1048576 a2_2) (law10_alive fun y0 => K y0) (round_Pack a0 a1 a2_0 a2_1 a2_2 a2_3 fun y0_1 y1 y2 y3 => round_Pack a0 a1 a2_0 y0 (subI IntKind.i64 a2_2 (andI IntKind.i64 a3 63)) a2_3 fun y0 y1_1 y2_1 y3_1 => br (eqI y0_1 y0 && eqI y1 y1_1) (br (eqI y2 y2_1) (br (eqI y3 y3_1) (law10_alive fun y0 => K y0) (K false)) (K false)) (K false)))))
noncomputable def law10_RoundDoubled : Int → Int → Bool → (Nat → Int) → Int → Bool → Int → (Bool → Prop) → Prop := Classical.choose (⟨law10_RoundDoubled.d, rfl⟩ : ∃ f, f = law10_RoundDoubled.d)
theorem law10_RoundDoubled.is : law10_RoundDoubled = law10_RoundDoubled.d := Classical.choose_spec (⟨law10_RoundDoubled.d, rfl⟩ : ∃ f, f = law10_RoundDoubled.d)
end Go.Ev.S

/- The functions as the evaluator has them: what each comes to. -/
set_option maxRecDepth 100000
set_option linter.unusedVariables false
set_option linter.unusedSimpArgs false
namespace Go.Ev.S
open Go Go.Ev
end Go.Ev.S

/- The functions as the evaluator has them: what each comes to. -/
set_option maxRecDepth 100000
set_option linter.unusedVariables false
set_option linter.unusedSimpArgs false
namespace Go.Ev.S
open Go Go.Ev
end Go.Ev.S

/- The functions as the evaluator has them: what each comes to. -/
set_option maxRecDepth 100000
set_option linter.unusedVariables false
set_option linter.unusedSimpArgs false
namespace Go.Ev.S
open Go Go.Ev
end Go.Ev.S

/- The functions as the evaluator has them: what each comes to. -/
set_option maxRecDepth 100000
set_option linter.unusedVariables false
set_option linter.unusedSimpArgs false
namespace Go.Ev.S
open Go Go.Ev
end Go.Ev.S

/- The functions as the evaluator has them: what each comes to. -/
set_option maxRecDepth 100000
set_option linter.unusedVariables false
set_option linter.unusedSimpArgs false
namespace Go.Ev.S
open Go Go.Ev
end Go.Ev.S

/- The functions as the evaluator has them: what each comes to. -/
set_option maxRecDepth 100000
set_option linter.unusedVariables false
set_option linter.unusedSimpArgs false
namespace Go.Ev.S
open Go Go.Ev
end Go.Ev.S

/- The functions as the evaluator has them: what each comes to. -/
set_option maxRecDepth 100000
set_option linter.unusedVariables false
set_option linter.unusedSimpArgs false
namespace Go.Ev.S
open Go Go.Ev
end Go.Ev.S

/- The functions as the evaluator has them: what each comes to. -/
set_option maxRecDepth 100000
set_option linter.unusedVariables false
set_option linter.unusedSimpArgs false
namespace Go.Ev.S
open Go Go.Ev
end Go.Ev.S

/- The functions as the evaluator has them: what each comes to. -/
set_option maxRecDepth 100000
set_option linter.unusedVariables false
set_option linter.unusedSimpArgs false
namespace Go.Ev.S
open Go Go.Ev
end Go.Ev.S
