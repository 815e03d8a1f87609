/- The functions as the evaluator has them: what each comes to. -/
import Derived.Test.YtfglhfahphncdaaDoorEvNum
set_option maxRecDepth 100000
set_option linter.unusedVariables false
set_option linter.unusedSimpArgs false
namespace Go.Ev.S
open Go Go.Ev
def r01_Bit.d (a0 : Int) (a1 : Int) (K : Bool → Prop) : Prop :=
  br (leI 0 a1) (br (ltI a1 64) (gd (!ltI (cvI IntKind.u64 a1) 0) (K (eqI (andI IntKind.u64 (shrI IntKind.u64 a0 (cvI IntKind.u64 a1)) 1) 1))) (K false)) (K false)
noncomputable def r01_Bit : Int → Int → (Bool → Prop) → Prop := Classical.choose (⟨r01_Bit.d, rfl⟩ : ∃ f, f = r01_Bit.d)
theorem r01_Bit.is : r01_Bit = r01_Bit.d := Classical.choose_spec (⟨r01_Bit.d, rfl⟩ : ∃ f, f = r01_Bit.d)
def r01_Add.l3.step (again : Int → Int → Bool → Int → Int → Prop) (k0 : Bool → Int → Prop) (x0 : Int) (x1 : Int) (x2 : Bool) (x3 : Int) (x4 : Int) : Prop :=
  br (ltI x4 64) (r01_Bit x0 x4 fun y0 => r01_Bit x1 x4 fun y0_1 => br (!beqB (!beqB y0 y0_1) x2) (gd (!ltI (cvI IntKind.u64 x4) 0) (br y0 (br y0_1 (again x0 x1 true (orI IntKind.u64 x3 (shlI IntKind.u64 1 (cvI IntKind.u64 x4))) (addI IntKind.i64 x4 1)) (br y0 (br x2 (again x0 x1 true (orI IntKind.u64 x3 (shlI IntKind.u64 1 (cvI IntKind.u64 x4))) (addI IntKind.i64 x4 1)) (br y0_1 (again x0 x1 x2 (orI IntKind.u64 x3 (shlI IntKind.u64 1 (cvI IntKind.u64 x4))) (addI IntKind.i64 x4 1)) (again x0 x1 false (orI IntKind.u64 x3 (shlI IntKind.u64 1 (cvI IntKind.u64 x4))) (addI IntKind.i64 x4 1)))) (br y0_1 (again x0 x1 x2 (orI IntKind.u64 x3 (shlI IntKind.u64 1 (cvI IntKind.u64 x4))) (addI IntKind.i64 x4 1)) (again x0 x1 false (orI IntKind.u64 x3 (shlI IntKind.u64 1 (cvI IntKind.u64 x4))) (addI IntKind.i64 x4 1))))) (br y0 (br x2 (again x0 x1 true (orI IntKind.u64 x3 (shlI IntKind.u64 1 (cvI IntKind.u64 x4))) (addI IntKind.i64 x4 1)) (br y0_1 (again x0 x1 x2 (orI IntKind.u64 x3 (shlI IntKind.u64 1 (cvI IntKind.u64 x4))) (addI IntKind.i64 x4 1)) (again x0 x1 false (orI IntKind.u64 x3 (shlI IntKind.u64 1 (cvI IntKind.u64 x4))) (addI IntKind.i64 x4 1)))) (br y0_1 (again x0 x1 x2 (orI IntKind.u64 x3 (shlI IntKind.u64 1 (cvI IntKind.u64 x4))) (addI IntKind.i64 x4 1)) (again x0 x1 false (orI IntKind.u64 x3 (shlI IntKind.u64 1 (cvI IntKind.u64 x4))) (addI IntKind.i64 x4 1)))))) (br y0 (br y0_1 (again x0 x1 true x3 (addI IntKind.i64 x4 1)) (br y0 (br x2 (again x0 x1 true x3 (addI IntKind.i64 x4 1)) (br y0_1 (again x0 x1 x2 x3 (addI IntKind.i64 x4 1)) (again x0 x1 false x3 (addI IntKind.i64 x4 1)))) (br y0_1 (again x0 x1 x2 x3 (addI IntKind.i64 x4 1)) (again x0 x1 false x3 (addI IntKind.i64 x4 1))))) (br y0 (br x2 (again x0 x1 true x3 (addI IntKind.i64 x4 1)) (br y0_1 (again x0 x1 x2 x3 (addI IntKind.i64 x4 1)) (again x0 x1 false x3 (addI IntKind.i64 x4 1)))) (br y0_1 (again x0 x1 x2 x3 (addI IntKind.i64 x4 1)) (again x0 x1 false x3 (addI IntKind.i64 x4 1)))))) (k0 x2 x3)
def r01_Add.l3 (k0 : Bool → Int → Prop) : Nat → Int → Int → Bool → Int → Int → Prop
  | 0 => fun _ _ _ _ _ => False
  | n + 1 => r01_Add.l3.step (r01_Add.l3 k0 n) k0
def r01_Add.l3.entry : LoopEntry := ⟨LV.mk 260 [(0, 260)] 192 0, 0, 50, fun vs H K => match vs, H with
  | [EV.int IntKind.u64 x0, EV.int IntKind.u64 x1, EV.bool x2, EV.int IntKind.u64 x3, EV.int IntKind.i64 x4], [] => ∃ n, r01_Add.l3 (fun y0 y1 => K (.exit 0) [EV.bool y0, EV.int IntKind.u64 y1] []) n x0 x1 x2 x3 x4
  | _, _ => False⟩
def r01_Add.d (a0 : Int) (a1 : Int) (a2 : Bool) (K : Int → Bool → Prop) : Prop :=
  ∃ n, r01_Add.l3 (fun y0 y1 => K y1 y0) n a0 a1 a2 0 0
noncomputable def r01_Add : Int → Int → Bool → (Int → Bool → Prop) → Prop := Classical.choose (⟨r01_Add.d, rfl⟩ : ∃ f, f = r01_Add.d)
theorem r01_Add.is : r01_Add = r01_Add.d := Classical.choose_spec (⟨r01_Add.d, rfl⟩ : ∃ f, f = r01_Add.d)
def r01_count.d (a0 : Int) (K : Int → Prop) : Prop :=
  br (ltI a0 0) (K 0) (br (ltI 64 a0) (K 64) (K a0))
noncomputable def r01_count : Int → (Int → Prop) → Prop := Classical.choose (⟨r01_count.d, rfl⟩ : ∃ f, f = r01_count.d)
theorem r01_count.is : r01_count = r01_count.d := Classical.choose_spec (⟨r01_count.d, rfl⟩ : ∃ f, f = r01_count.d)
def r01_Left.l2.step (again : Int → Int → Prop) (k0 : Int → Prop) (x0 : Int) (x1 : Int) : Prop :=
  br (ltI 0 x1) (again (mulI IntKind.u64 x0 2) (subI IntKind.i64 x1 1)) (k0 x0)
def r01_Left.l2 (k0 : Int → Prop) : Nat → Int → Int → Prop
  | 0 => fun _ _ => False
  | n + 1 => r01_Left.l2.step (r01_Left.l2 k0 n) k0
def r01_Left.l2.entry : LoopEntry := ⟨LV.mk 1 [(0, 1)] 16 0, 0, 15, fun vs H K => match vs, H with
  | [EV.int IntKind.u64 x0, EV.int IntKind.i64 x1], [] => ∃ n, r01_Left.l2 (fun y0 => K (.exit 0) [EV.int IntKind.u64 y0] []) n x0 x1
  | _, _ => False⟩
def r01_Left.d (a0 : Int) (a1 : Int) (K : Int → Prop) : Prop :=
  r01_count a1 fun y0 => ∃ n, r01_Left.l2 (fun y0 => K y0) n a0 y0
noncomputable def r01_Left : Int → Int → (Int → Prop) → Prop := Classical.choose (⟨r01_Left.d, rfl⟩ : ∃ f, f = r01_Left.d)
theorem r01_Left.is : r01_Left = r01_Left.d := Classical.choose_spec (⟨r01_Left.d, rfl⟩ : ∃ f, f = r01_Left.d)
def r01_Mask.d (a0 : Int) (K : Int → Prop) : Prop :=
  r01_Left 1 a0 fun y0 => K (subI IntKind.u64 y0 1)
noncomputable def r01_Mask : Int → (Int → Prop) → Prop := Classical.choose (⟨r01_Mask.d, rfl⟩ : ∃ f, f = r01_Mask.d)
theorem r01_Mask.is : r01_Mask = r01_Mask.d := Classical.choose_spec (⟨r01_Mask.d, rfl⟩ : ∃ f, f = r01_Mask.d)
def r01_Extend.d (a0 : Int) (a1 : Int) (K : Int → Prop) : Prop :=
  r01_count a1 fun y0 => br (ltI y0 1) (r01_Mask 1 fun y0 => r01_Bit a0 0 fun y0_1 => br y0_1 (r01_Mask 1 fun y0_2 => K (orI IntKind.u64 (andI IntKind.u64 a0 y0) (notI IntKind.u64 y0_2))) (K (andI IntKind.u64 a0 y0))) (r01_Mask y0 fun y0_1 => r01_Bit a0 (subI IntKind.i64 y0 1) fun y0_2 => br y0_2 (r01_Mask y0 fun y0 => K (orI IntKind.u64 (andI IntKind.u64 a0 y0_1) (notI IntKind.u64 y0))) (K (andI IntKind.u64 a0 y0_1)))
noncomputable def r01_Extend : Int → Int → (Int → Prop) → Prop := Classical.choose (⟨r01_Extend.d, rfl⟩ : ∃ f, f = r01_Extend.d)
theorem r01_Extend.is : r01_Extend = r01_Extend.d := Classical.choose_spec (⟨r01_Extend.d, rfl⟩ : ∃ f, f = r01_Extend.d)
def r01_Len.l3.step (again : Int → Int → Int → Prop) (k0 : Int → Prop) (x0 : Int) (x1 : Int) (x2 : Int) : Prop :=
  br (ltI x2 64) (r01_Bit x0 x2 fun y0 => br y0 (again x0 (addI IntKind.i64 x2 1) (addI IntKind.i64 x2 1)) (again x0 x1 (addI IntKind.i64 x2 1))) (k0 x1)
def r01_Len.l3 (k0 : Int → Prop) : Nat → Int → Int → Int → Prop
  | 0 => fun _ _ _ => False
  | n + 1 => r01_Len.l3.step (r01_Len.l3 k0 n) k0
def r01_Len.l3.entry : LoopEntry := ⟨LV.mk 8 [(0, 8)] 4 0, 0, 15, fun vs H K => match vs, H with
  | [EV.int IntKind.u64 x0, EV.int IntKind.i64 x1, EV.int IntKind.i64 x2], [] => ∃ n, r01_Len.l3 (fun y0 => K (.exit 0) [EV.int IntKind.i64 y0] []) n x0 x1 x2
  | _, _ => False⟩
def r01_Len.d (a0 : Int) (K : Int → Prop) : Prop :=
  ∃ n, r01_Len.l3 (fun y0 => K y0) n a0 0 0
noncomputable def r01_Len : Int → (Int → Prop) → Prop := Classical.choose (⟨r01_Len.d, rfl⟩ : ∃ f, f = r01_Len.d)
theorem r01_Len.is : r01_Len = r01_Len.d := Classical.choose_spec (⟨r01_Len.d, rfl⟩ : ∃ f, f = r01_Len.d)
def r01_Sub.l3.step (again : Int → Int → Bool → Int → Int → Prop) (k0 : Bool → Int → Prop) (x0 : Int) (x1 : Int) (x2 : Bool) (x3 : Int) (x4 : Int) : Prop :=
  br (ltI x4 64) (r01_Bit x0 x4 fun y0 => r01_Bit x1 x4 fun y0_1 => br (!beqB (!beqB y0 y0_1) x2) (gd (!ltI (cvI IntKind.u64 x4) 0) (br (!y0) (br y0_1 (again x0 x1 true (orI IntKind.u64 x3 (shlI IntKind.u64 1 (cvI IntKind.u64 x4))) (addI IntKind.i64 x4 1)) (br (!y0) (br x2 (again x0 x1 true (orI IntKind.u64 x3 (shlI IntKind.u64 1 (cvI IntKind.u64 x4))) (addI IntKind.i64 x4 1)) (br y0_1 (again x0 x1 x2 (orI IntKind.u64 x3 (shlI IntKind.u64 1 (cvI IntKind.u64 x4))) (addI IntKind.i64 x4 1)) (again x0 x1 false (orI IntKind.u64 x3 (shlI IntKind.u64 1 (cvI IntKind.u64 x4))) (addI IntKind.i64 x4 1)))) (br y0_1 (again x0 x1 x2 (orI IntKind.u64 x3 (shlI IntKind.u64 1 (cvI IntKind.u64 x4))) (addI IntKind.i64 x4 1)) (again x0 x1 false (orI IntKind.u64 x3 (shlI IntKind.u64 1 (cvI IntKind.u64 x4))) (addI IntKind.i64 x4 1))))) (br (!y0) (br x2 (again x0 x1 true (orI IntKind.u64 x3 (shlI IntKind.u64 1 (cvI IntKind.u64 x4))) (addI IntKind.i64 x4 1)) (br y0_1 (again x0 x1 x2 (orI IntKind.u64 x3 (shlI IntKind.u64 1 (cvI IntKind.u64 x4))) (addI IntKind.i64 x4 1)) (again x0 x1 false (orI IntKind.u64 x3 (shlI IntKind.u64 1 (cvI IntKind.u64 x4))) (addI IntKind.i64 x4 1)))) (br y0_1 (again x0 x1 x2 (orI IntKind.u64 x3 (shlI IntKind.u64 1 (cvI IntKind.u64 x4))) (addI IntKind.i64 x4 1)) (again x0 x1 false (orI IntKind.u64 x3 (shlI IntKind.u64 1 (cvI IntKind.u64 x4))) (addI IntKind.i64 x4 1)))))) (br (!y0) (br y0_1 (again x0 x1 true x3 (addI IntKind.i64 x4 1)) (br (!y0) (br x2 (again x0 x1 true x3 (addI IntKind.i64 x4 1)) (br y0_1 (again x0 x1 x2 x3 (addI IntKind.i64 x4 1)) (again x0 x1 false x3 (addI IntKind.i64 x4 1)))) (br y0_1 (again x0 x1 x2 x3 (addI IntKind.i64 x4 1)) (again x0 x1 false x3 (addI IntKind.i64 x4 1))))) (br (!y0) (br x2 (again x0 x1 true x3 (addI IntKind.i64 x4 1)) (br y0_1 (again x0 x1 x2 x3 (addI IntKind.i64 x4 1)) (again x0 x1 false x3 (addI IntKind.i64 x4 1)))) (br y0_1 (again x0 x1 x2 x3 (addI IntKind.i64 x4 1)) (again x0 x1 false x3 (addI IntKind.i64 x4 1)))))) (k0 x2 x3)
def r01_Sub.l3 (k0 : Bool → Int → Prop) : Nat → Int → Int → Bool → Int → Int → Prop
  | 0 => fun _ _ _ _ _ => False
  | n + 1 => r01_Sub.l3.step (r01_Sub.l3 k0 n) k0
def r01_Sub.l3.entry : LoopEntry := ⟨LV.mk 260 [(0, 260)] 192 0, 0, 52, fun vs H K => match vs, H with
  | [EV.int IntKind.u64 x0, EV.int IntKind.u64 x1, EV.bool x2, EV.int IntKind.u64 x3, EV.int IntKind.i64 x4], [] => ∃ n, r01_Sub.l3 (fun y0 y1 => K (.exit 0) [EV.bool y0, EV.int IntKind.u64 y1] []) n x0 x1 x2 x3 x4
  | _, _ => False⟩
def r01_Sub.d (a0 : Int) (a1 : Int) (a2 : Bool) (K : Int → Bool → Prop) : Prop :=
  ∃ n, r01_Sub.l3 (fun y0 y1 => K y1 y0) n a0 a1 a2 0 0
noncomputable def r01_Sub : Int → Int → Bool → (Int → Bool → Prop) → Prop := Classical.choose (⟨r01_Sub.d, rfl⟩ : ∃ f, f = r01_Sub.d)
theorem r01_Sub.is : r01_Sub = r01_Sub.d := Classical.choose_spec (⟨r01_Sub.d, rfl⟩ : ∃ f, f = r01_Sub.d)
end Go.Ev.S
