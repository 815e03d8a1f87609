/- The functions as the evaluator has them: what each comes to. -/
import Derived.Test.YtfglhfahphncdaaDoorEvNum
import Derived.Test.YtfglhfahphncdaaDoorDR01
set_option maxRecDepth 100000
set_option linter.unusedVariables false
set_option linter.unusedSimpArgs false
namespace Go.Ev.S
open Go Go.Ev
def r02_Add.l4.step (again : Bool → Int → (Nat → Int) → (Nat → Int) → (Nat → Int) → (Nat → Int) → Prop) (k0 : Bool → (Nat → Int) → (Nat → Int) → Prop) (x0 : Bool) (x1 : Int) (x2 : Nat → Int) (x3 : Nat → Int) (x4 : Nat → Int) (x5 : Nat → Int) : Prop :=
  br (ltI x1 6) (gd (leI 0 x1 && ltI x1 6) (gd (leI 0 x1 && ltI x1 6) (r01_Add (x2 (Int.toNat x1)) (x3 (Int.toNat x1)) x0 fun y0 y1 => gd (leI 0 x1 && ltI x1 6) (again y1 (addI IntKind.i64 x1 1) x2 x3 x4 (upd x5 (Int.toNat x1) y0))))) (k0 x0 x4 x5)
def r02_Add.l4 (k0 : Bool → (Nat → Int) → (Nat → Int) → Prop) : Nat → Bool → Int → (Nat → Int) → (Nat → Int) → (Nat → Int) → (Nat → Int) → Prop
  | 0 => fun _ _ _ _ _ _ => False
  | n + 1 => r02_Add.l4.step (r02_Add.l4 k0 n) k0
def r02_Add.l4.entry : LoopEntry := ⟨LV.mk 208 [(0, 208)] 48 0, 0, 32, fun vs H K => match vs, H with
  | [EV.ptr 0 [], EV.ptr 1 [], EV.ptr 2 [], EV.ptr 3 [], EV.bool x0, EV.int IntKind.i64 x1], [some (EV.arr IntKind.u64 6 x2), some (EV.arr IntKind.u64 6 x3), some (EV.arr IntKind.u64 6 x4), some (EV.arr IntKind.u64 6 x5)] => ∃ n, r02_Add.l4 (fun y0 y1 y2 => K (.exit 0) [EV.ptr 0 [], EV.ptr 1 [], EV.bool y0] [some (EV.arr IntKind.u64 6 y1), some (EV.arr IntKind.u64 6 y2)]) n x0 x1 x2 x3 x4 x5
  | _, _ => False⟩
def r02_Add.d (a0 : Nat → Int) (a1 : Nat → Int) (K : (Nat → Int) → Bool → Prop) : Prop :=
  ∃ n, r02_Add.l4 (fun y0 y1 y2 => K y2 y0) n false 0 a0 a1 (fun x => 0) fun x => 0
noncomputable def r02_Add : (Nat → Int) → (Nat → Int) → ((Nat → Int) → Bool → Prop) → Prop := Classical.choose (⟨r02_Add.d, rfl⟩ : ∃ f, f = r02_Add.d)
theorem r02_Add.is : r02_Add = r02_Add.d := Classical.choose_spec (⟨r02_Add.d, rfl⟩ : ∃ f, f = r02_Add.d)
def r02_And.l2.step (again : Int → (Nat → Int) → (Nat → Int) → (Nat → Int) → Prop) (k0 : (Nat → Int) → (Nat → Int) → Prop) (x0 : Int) (x1 : Nat → Int) (x2 : Nat → Int) (x3 : Nat → Int) : Prop :=
  br (ltI x0 6) (gd (leI 0 x0 && ltI x0 6) (gd (leI 0 x0 && ltI x0 6) (gd (leI 0 x0 && ltI x0 6) (again (addI IntKind.i64 x0 1) (upd x1 (Int.toNat x0) (andI IntKind.u64 (x1 (Int.toNat x0)) (x2 (Int.toNat x0)))) x2 x3)))) (k0 x1 x3)
def r02_And.l2 (k0 : (Nat → Int) → (Nat → Int) → Prop) : Nat → Int → (Nat → Int) → (Nat → Int) → (Nat → Int) → Prop
  | 0 => fun _ _ _ _ => False
  | n + 1 => r02_And.l2.step (r02_And.l2 k0 n) k0
def r02_And.l2.entry : LoopEntry := ⟨LV.mk 20 [(0, 20)] 16 0, 0, 20, fun vs H K => match vs, H with
  | [EV.ptr 0 [], EV.ptr 1 [], EV.ptr 2 [], EV.int IntKind.i64 x0], [some (EV.arr IntKind.u64 6 x1), some (EV.arr IntKind.u64 6 x2), some (EV.arr IntKind.u64 6 x3)] => ∃ n, r02_And.l2 (fun y0 y1 => K (.exit 0) [EV.ptr 0 [], EV.ptr 1 []] [some (EV.arr IntKind.u64 6 y0), some (EV.arr IntKind.u64 6 y1)]) n x0 x1 x2 x3
  | _, _ => False⟩
def r02_And.d (a0 : Nat → Int) (a1 : Nat → Int) (K : (Nat → Int) → Prop) : Prop :=
  ∃ n, r02_And.l2 (fun y0 y1 => K y0) n 0 a0 a1 fun x => 0
noncomputable def r02_And : (Nat → Int) → (Nat → Int) → ((Nat → Int) → Prop) → Prop := Classical.choose (⟨r02_And.d, rfl⟩ : ∃ f, f = r02_And.d)
theorem r02_And.is : r02_And = r02_And.d := Classical.choose_spec (⟨r02_And.d, rfl⟩ : ∃ f, f = r02_And.d)
def r02_Bit.d (a0 : Nat → Int) (a1 : Int) (K : Bool → Prop) : Prop :=
  br (leI 0 a1) (br (ltI a1 384) (gd (leI 0 (quoI IntKind.i64 a1 64) && ltI (quoI IntKind.i64 a1 64) 6) (r01_Bit (a0 (Int.toNat (quoI IntKind.i64 a1 64))) (remI IntKind.i64 a1 64) fun y0 => K y0)) (K false)) (K false)
noncomputable def r02_Bit : (Nat → Int) → Int → (Bool → Prop) → Prop := Classical.choose (⟨r02_Bit.d, rfl⟩ : ∃ f, f = r02_Bit.d)
theorem r02_Bit.is : r02_Bit = r02_Bit.d := Classical.choose_spec (⟨r02_Bit.d, rfl⟩ : ∃ f, f = r02_Bit.d)
def r02_Cmp.l2.step (again : Int → (Nat → Int) → (Nat → Int) → Prop) (k0 : Int → Prop) (k1 : Prop) (x0 : Int) (x1 : Nat → Int) (x2 : Nat → Int) : Prop :=
  br (leI 0 x0) (gd (leI 0 x0 && ltI x0 6) (gd (leI 0 x0 && ltI x0 6) (br (ltI (x1 (Int.toNat x0)) (x2 (Int.toNat x0))) (k0 (-1)) (gd (leI 0 x0 && ltI x0 6) (gd (leI 0 x0 && ltI x0 6) (br (ltI (x2 (Int.toNat x0)) (x1 (Int.toNat x0))) (k0 1) (again (subI IntKind.i64 x0 1) x1 x2))))))) k1
def r02_Cmp.l2 (k0 : Int → Prop) (k1 : Prop) : Nat → Int → (Nat → Int) → (Nat → Int) → Prop
  | 0 => fun _ _ _ => False
  | n + 1 => r02_Cmp.l2.step (r02_Cmp.l2 k0 k1 n) k0 k1
def r02_Cmp.l2.entry : LoopEntry := ⟨LV.mk 0 [(0, 0)] 16 0, 0, 24, fun vs H K => match vs, H with
  | [EV.ptr 0 [], EV.ptr 1 [], EV.int IntKind.i64 x0], [some (EV.arr IntKind.u64 6 x1), some (EV.arr IntKind.u64 6 x2)] => ∃ n, r02_Cmp.l2 (fun y0 => K .ret [EV.int IntKind.i64 y0] []) (K (.exit 0) [] []) n x0 x1 x2
  | _, _ => False⟩
def r02_Cmp.d (a0 : Nat → Int) (a1 : Nat → Int) (K : Int → Prop) : Prop :=
  ∃ n, r02_Cmp.l2 (fun y0 => K y0) (K 0) n 5 a0 a1
noncomputable def r02_Cmp : (Nat → Int) → (Nat → Int) → (Int → Prop) → Prop := Classical.choose (⟨r02_Cmp.d, rfl⟩ : ∃ f, f = r02_Cmp.d)
theorem r02_Cmp.is : r02_Cmp = r02_Cmp.d := Classical.choose_spec (⟨r02_Cmp.d, rfl⟩ : ∃ f, f = r02_Cmp.d)
def r02_Count.d (a0 : Int) (K : Int → Prop) : Prop :=
  br (ltI a0 0) (K 0) (br (ltI 384 a0) (K 384) (K a0))
noncomputable def r02_Count : Int → (Int → Prop) → Prop := Classical.choose (⟨r02_Count.d, rfl⟩ : ∃ f, f = r02_Count.d)
theorem r02_Count.is : r02_Count = r02_Count.d := Classical.choose_spec (⟨r02_Count.d, rfl⟩ : ∃ f, f = r02_Count.d)
def r02_Left.l5.step (again : Int → Bool → Int → (Nat → Int) → (Nat → Int) → (Nat → Int) → Prop) (k0 : Bool → (Nat → Int) → (Nat → Int) → Prop) (x0 : Int) (x1 : Bool) (x2 : Int) (x3 : Nat → Int) (x4 : Nat → Int) (x5 : Nat → Int) : Prop :=
  br (ltI x2 384) (r02_Bit x3 x2 fun y0 => br y0 (br (ltI (addI IntKind.i64 x2 x0) 384) (gd (leI 0 (quoI IntKind.i64 (addI IntKind.i64 x2 x0) 64) && ltI (quoI IntKind.i64 (addI IntKind.i64 x2 x0) 64) 6) (gd (!ltI (cvI IntKind.u64 (remI IntKind.i64 (addI IntKind.i64 x2 x0) 64)) 0) (gd (leI 0 (quoI IntKind.i64 (addI IntKind.i64 x2 x0) 64) && ltI (quoI IntKind.i64 (addI IntKind.i64 x2 x0) 64) 6) (again x0 x1 (addI IntKind.i64 x2 1) x3 x4 (upd x5 (Int.toNat (quoI IntKind.i64 (addI IntKind.i64 x2 x0) 64)) (orI IntKind.u64 (x5 (Int.toNat (quoI IntKind.i64 (addI IntKind.i64 x2 x0) 64))) (shlI IntKind.u64 1 (cvI IntKind.u64 (remI IntKind.i64 (addI IntKind.i64 x2 x0) 64))))))))) (again x0 true (addI IntKind.i64 x2 1) x3 x4 x5)) (again x0 x1 (addI IntKind.i64 x2 1) x3 x4 x5)) (k0 x1 x4 x5)
def r02_Left.l5 (k0 : Bool → (Nat → Int) → (Nat → Int) → Prop) : Nat → Int → Bool → Int → (Nat → Int) → (Nat → Int) → (Nat → Int) → Prop
  | 0 => fun _ _ _ _ _ _ => False
  | n + 1 => r02_Left.l5.step (r02_Left.l5 k0 n) k0
def r02_Left.l5.entry : LoopEntry := ⟨LV.mk 208 [(0, 208)] 48 0, 0, 42, fun vs H K => match vs, H with
  | [EV.int IntKind.i64 x0, EV.ptr 0 [], EV.ptr 1 [], EV.ptr 2 [], EV.bool x1, EV.int IntKind.i64 x2], [some (EV.arr IntKind.u64 6 x3), some (EV.arr IntKind.u64 6 x4), some (EV.arr IntKind.u64 6 x5)] => ∃ n, r02_Left.l5 (fun y0 y1 y2 => K (.exit 0) [EV.ptr 0 [], EV.ptr 1 [], EV.bool y0] [some (EV.arr IntKind.u64 6 y1), some (EV.arr IntKind.u64 6 y2)]) n x0 x1 x2 x3 x4 x5
  | _, _ => False⟩
def r02_Left.d (a0 : Nat → Int) (a1 : Int) (K : (Nat → Int) → Bool → Prop) : Prop :=
  r02_Count a1 fun y0 => ∃ n, r02_Left.l5 (fun y0 y1 y2 => K y2 y0) n y0 false 0 a0 (fun x => 0) fun x => 0
noncomputable def r02_Left : (Nat → Int) → Int → ((Nat → Int) → Bool → Prop) → Prop := Classical.choose (⟨r02_Left.d, rfl⟩ : ∃ f, f = r02_Left.d)
theorem r02_Left.is : r02_Left = r02_Left.d := Classical.choose_spec (⟨r02_Left.d, rfl⟩ : ∃ f, f = r02_Left.d)
def r02_Len.l2.step (again : Int → (Nat → Int) → Prop) (k0 : Int → Prop) (k1 : Prop) (x0 : Int) (x1 : Nat → Int) : Prop :=
  br (leI 0 x0) (gd (leI 0 x0 && ltI x0 6) (br (!eqI (x1 (Int.toNat x0)) 0) (gd (leI 0 x0 && ltI x0 6) (r01_Len (x1 (Int.toNat x0)) fun y0 => k0 (addI IntKind.i64 (mulI IntKind.i64 64 x0) y0))) (again (subI IntKind.i64 x0 1) x1))) k1
def r02_Len.l2 (k0 : Int → Prop) (k1 : Prop) : Nat → Int → (Nat → Int) → Prop
  | 0 => fun _ _ => False
  | n + 1 => r02_Len.l2.step (r02_Len.l2 k0 k1 n) k0 k1
def r02_Len.l2.entry : LoopEntry := ⟨LV.mk 0 [(0, 0)] 4 0, 0, 19, fun vs H K => match vs, H with
  | [EV.ptr 0 [], EV.int IntKind.i64 x0], [some (EV.arr IntKind.u64 6 x1)] => ∃ n, r02_Len.l2 (fun y0 => K .ret [EV.int IntKind.i64 y0] []) (K (.exit 0) [] []) n x0 x1
  | _, _ => False⟩
def r02_Len.d (a0 : Nat → Int) (K : Int → Prop) : Prop :=
  ∃ n, r02_Len.l2 (fun y0 => K y0) (K 0) n 5 a0
noncomputable def r02_Len : (Nat → Int) → (Int → Prop) → Prop := Classical.choose (⟨r02_Len.d, rfl⟩ : ∃ f, f = r02_Len.d)
theorem r02_Len.is : r02_Len = r02_Len.d := Classical.choose_spec (⟨r02_Len.d, rfl⟩ : ∃ f, f = r02_Len.d)
def r02_Mask.l4.step (again : Int → Int → (Nat → Int) → (Nat → Int) → Prop) (k0 : (Nat → Int) → (Nat → Int) → Prop) (x0 : Int) (x1 : Int) (x2 : Nat → Int) (x3 : Nat → Int) : Prop :=
  br (ltI x1 x0) (gd (leI 0 (quoI IntKind.i64 x1 64) && ltI (quoI IntKind.i64 x1 64) 6) (gd (!ltI (cvI IntKind.u64 (remI IntKind.i64 x1 64)) 0) (gd (leI 0 (quoI IntKind.i64 x1 64) && ltI (quoI IntKind.i64 x1 64) 6) (again x0 (addI IntKind.i64 x1 1) x2 (upd x3 (Int.toNat (quoI IntKind.i64 x1 64)) (orI IntKind.u64 (x3 (Int.toNat (quoI IntKind.i64 x1 64))) (shlI IntKind.u64 1 (cvI IntKind.u64 (remI IntKind.i64 x1 64))))))))) (k0 x2 x3)
def r02_Mask.l4 (k0 : (Nat → Int) → (Nat → Int) → Prop) : Nat → Int → Int → (Nat → Int) → (Nat → Int) → Prop
  | 0 => fun _ _ _ _ => False
  | n + 1 => r02_Mask.l4.step (r02_Mask.l4 k0 n) k0
def r02_Mask.l4.entry : LoopEntry := ⟨LV.mk 12 [(0, 12)] 4 0, 0, 25, fun vs H K => match vs, H with
  | [EV.int IntKind.i64 x0, EV.ptr 0 [], EV.ptr 1 [], EV.int IntKind.i64 x1], [some (EV.arr IntKind.u64 6 x2), some (EV.arr IntKind.u64 6 x3)] => ∃ n, r02_Mask.l4 (fun y0 y1 => K (.exit 0) [EV.ptr 0 [], EV.ptr 1 []] [some (EV.arr IntKind.u64 6 y0), some (EV.arr IntKind.u64 6 y1)]) n x0 x1 x2 x3
  | _, _ => False⟩
def r02_Mask.d (a0 : Int) (K : (Nat → Int) → Prop) : Prop :=
  r02_Count a0 fun y0 => ∃ n, r02_Mask.l4 (fun y0 y1 => K y1) n y0 0 (fun x => 0) fun x => 0
noncomputable def r02_Mask : Int → ((Nat → Int) → Prop) → Prop := Classical.choose (⟨r02_Mask.d, rfl⟩ : ∃ f, f = r02_Mask.d)
theorem r02_Mask.is : r02_Mask = r02_Mask.d := Classical.choose_spec (⟨r02_Mask.d, rfl⟩ : ∃ f, f = r02_Mask.d)
def r02_Of.d (a0 : Int) (K : (Nat → Int) → Prop) : Prop :=
  K (upd (fun x => 0) 0 a0)
noncomputable def r02_Of : Int → ((Nat → Int) → Prop) → Prop := Classical.choose (⟨r02_Of.d, rfl⟩ : ∃ f, f = r02_Of.d)
theorem r02_Of.is : r02_Of = r02_Of.d := Classical.choose_spec (⟨r02_Of.d, rfl⟩ : ∃ f, f = r02_Of.d)
def r02_OfBits.d (a0_0 : Int) (a0_1 : Int) (K : (Nat → Int) → Prop) : Prop :=
  K (upd (upd (fun x => 0) 0 a0_1) 1 a0_0)
noncomputable def r02_OfBits : Int → Int → ((Nat → Int) → Prop) → Prop := Classical.choose (⟨r02_OfBits.d, rfl⟩ : ∃ f, f = r02_OfBits.d)
theorem r02_OfBits.is : r02_OfBits = r02_OfBits.d := Classical.choose_spec (⟨r02_OfBits.d, rfl⟩ : ∃ f, f = r02_OfBits.d)
def r02_Or.l2.step (again : Int → (Nat → Int) → (Nat → Int) → (Nat → Int) → Prop) (k0 : (Nat → Int) → (Nat → Int) → Prop) (x0 : Int) (x1 : Nat → Int) (x2 : Nat → Int) (x3 : Nat → Int) : Prop :=
  br (ltI x0 6) (gd (leI 0 x0 && ltI x0 6) (gd (leI 0 x0 && ltI x0 6) (gd (leI 0 x0 && ltI x0 6) (again (addI IntKind.i64 x0 1) (upd x1 (Int.toNat x0) (orI IntKind.u64 (x1 (Int.toNat x0)) (x2 (Int.toNat x0)))) x2 x3)))) (k0 x1 x3)
def r02_Or.l2 (k0 : (Nat → Int) → (Nat → Int) → Prop) : Nat → Int → (Nat → Int) → (Nat → Int) → (Nat → Int) → Prop
  | 0 => fun _ _ _ _ => False
  | n + 1 => r02_Or.l2.step (r02_Or.l2 k0 n) k0
def r02_Or.l2.entry : LoopEntry := ⟨LV.mk 20 [(0, 20)] 16 0, 0, 20, fun vs H K => match vs, H with
  | [EV.ptr 0 [], EV.ptr 1 [], EV.ptr 2 [], EV.int IntKind.i64 x0], [some (EV.arr IntKind.u64 6 x1), some (EV.arr IntKind.u64 6 x2), some (EV.arr IntKind.u64 6 x3)] => ∃ n, r02_Or.l2 (fun y0 y1 => K (.exit 0) [EV.ptr 0 [], EV.ptr 1 []] [some (EV.arr IntKind.u64 6 y0), some (EV.arr IntKind.u64 6 y1)]) n x0 x1 x2 x3
  | _, _ => False⟩
def r02_Or.d (a0 : Nat → Int) (a1 : Nat → Int) (K : (Nat → Int) → Prop) : Prop :=
  ∃ n, r02_Or.l2 (fun y0 y1 => K y0) n 0 a0 a1 fun x => 0
noncomputable def r02_Or : (Nat → Int) → (Nat → Int) → ((Nat → Int) → Prop) → Prop := Classical.choose (⟨r02_Or.d, rfl⟩ : ∃ f, f = r02_Or.d)
theorem r02_Or.is : r02_Or = r02_Or.d := Classical.choose_spec (⟨r02_Or.d, rfl⟩ : ∃ f, f = r02_Or.d)
def r02_Right.l5.step (again : Int → Bool → Int → (Nat → Int) → (Nat → Int) → (Nat → Int) → Prop) (k0 : Bool → (Nat → Int) → (Nat → Int) → Prop) (x0 : Int) (x1 : Bool) (x2 : Int) (x3 : Nat → Int) (x4 : Nat → Int) (x5 : Nat → Int) : Prop :=
  br (ltI x2 384) (r02_Bit x3 x2 fun y0 => br y0 (br (leI x0 x2) (gd (leI 0 (quoI IntKind.i64 (subI IntKind.i64 x2 x0) 64) && ltI (quoI IntKind.i64 (subI IntKind.i64 x2 x0) 64) 6) (gd (!ltI (cvI IntKind.u64 (remI IntKind.i64 (subI IntKind.i64 x2 x0) 64)) 0) (gd (leI 0 (quoI IntKind.i64 (subI IntKind.i64 x2 x0) 64) && ltI (quoI IntKind.i64 (subI IntKind.i64 x2 x0) 64) 6) (again x0 x1 (addI IntKind.i64 x2 1) x3 x4 (upd x5 (Int.toNat (quoI IntKind.i64 (subI IntKind.i64 x2 x0) 64)) (orI IntKind.u64 (x5 (Int.toNat (quoI IntKind.i64 (subI IntKind.i64 x2 x0) 64))) (shlI IntKind.u64 1 (cvI IntKind.u64 (remI IntKind.i64 (subI IntKind.i64 x2 x0) 64))))))))) (again x0 true (addI IntKind.i64 x2 1) x3 x4 x5)) (again x0 x1 (addI IntKind.i64 x2 1) x3 x4 x5)) (k0 x1 x4 x5)
def r02_Right.l5 (k0 : Bool → (Nat → Int) → (Nat → Int) → Prop) : Nat → Int → Bool → Int → (Nat → Int) → (Nat → Int) → (Nat → Int) → Prop
  | 0 => fun _ _ _ _ _ _ => False
  | n + 1 => r02_Right.l5.step (r02_Right.l5 k0 n) k0
def r02_Right.l5.entry : LoopEntry := ⟨LV.mk 208 [(0, 208)] 48 0, 0, 41, fun vs H K => match vs, H with
  | [EV.int IntKind.i64 x0, EV.ptr 0 [], EV.ptr 1 [], EV.ptr 2 [], EV.bool x1, EV.int IntKind.i64 x2], [some (EV.arr IntKind.u64 6 x3), some (EV.arr IntKind.u64 6 x4), some (EV.arr IntKind.u64 6 x5)] => ∃ n, r02_Right.l5 (fun y0 y1 y2 => K (.exit 0) [EV.ptr 0 [], EV.ptr 1 [], EV.bool y0] [some (EV.arr IntKind.u64 6 y1), some (EV.arr IntKind.u64 6 y2)]) n x0 x1 x2 x3 x4 x5
  | _, _ => False⟩
def r02_Right.d (a0 : Nat → Int) (a1 : Int) (K : (Nat → Int) → Bool → Prop) : Prop :=
  r02_Count a1 fun y0 => ∃ n, r02_Right.l5 (fun y0 y1 y2 => K y2 y0) n y0 false 0 a0 (fun x => 0) fun x => 0
noncomputable def r02_Right : (Nat → Int) → Int → ((Nat → Int) → Bool → Prop) → Prop := Classical.choose (⟨r02_Right.d, rfl⟩ : ∃ f, f = r02_Right.d)
theorem r02_Right.is : r02_Right = r02_Right.d := Classical.choose_spec (⟨r02_Right.d, rfl⟩ : ∃ f, f = r02_Right.d)
def r02_Sub.l4.step (again : Bool → Int → (Nat → Int) → (Nat → Int) → (Nat → Int) → (Nat → Int) → Prop) (k0 : Bool → (Nat → Int) → (Nat → Int) → Prop) (x0 : Bool) (x1 : Int) (x2 : Nat → Int) (x3 : Nat → Int) (x4 : Nat → Int) (x5 : Nat → Int) : Prop :=
  br (ltI x1 6) (gd (leI 0 x1 && ltI x1 6) (gd (leI 0 x1 && ltI x1 6) (r01_Sub (x2 (Int.toNat x1)) (x3 (Int.toNat x1)) x0 fun y0 y1 => gd (leI 0 x1 && ltI x1 6) (again y1 (addI IntKind.i64 x1 1) x2 x3 x4 (upd x5 (Int.toNat x1) y0))))) (k0 x0 x4 x5)
def r02_Sub.l4 (k0 : Bool → (Nat → Int) → (Nat → Int) → Prop) : Nat → Bool → Int → (Nat → Int) → (Nat → Int) → (Nat → Int) → (Nat → Int) → Prop
  | 0 => fun _ _ _ _ _ _ => False
  | n + 1 => r02_Sub.l4.step (r02_Sub.l4 k0 n) k0
def r02_Sub.l4.entry : LoopEntry := ⟨LV.mk 208 [(0, 208)] 48 0, 0, 32, fun vs H K => match vs, H with
  | [EV.ptr 0 [], EV.ptr 1 [], EV.ptr 2 [], EV.ptr 3 [], EV.bool x0, EV.int IntKind.i64 x1], [some (EV.arr IntKind.u64 6 x2), some (EV.arr IntKind.u64 6 x3), some (EV.arr IntKind.u64 6 x4), some (EV.arr IntKind.u64 6 x5)] => ∃ n, r02_Sub.l4 (fun y0 y1 y2 => K (.exit 0) [EV.ptr 0 [], EV.ptr 1 [], EV.bool y0] [some (EV.arr IntKind.u64 6 y1), some (EV.arr IntKind.u64 6 y2)]) n x0 x1 x2 x3 x4 x5
  | _, _ => False⟩
def r02_Sub.d (a0 : Nat → Int) (a1 : Nat → Int) (K : (Nat → Int) → Bool → Prop) : Prop :=
  ∃ n, r02_Sub.l4 (fun y0 y1 y2 => K y2 y0) n false 0 a0 a1 (fun x => 0) fun x => 0
noncomputable def r02_Sub : (Nat → Int) → (Nat → Int) → ((Nat → Int) → Bool → Prop) → Prop := Classical.choose (⟨r02_Sub.d, rfl⟩ : ∃ f, f = r02_Sub.d)
theorem r02_Sub.is : r02_Sub = r02_Sub.d := Classical.choose_spec (⟨r02_Sub.d, rfl⟩ : ∃ f, f = r02_Sub.d)
def r02_ToBits.d (a0 : Nat → Int) (K : Int → Int → Bool → Prop) : Prop :=
  br (!eqI (a0 2) 0) (K 0 0 false) (br (!eqI (a0 3) 0) (K 0 0 false) (br (!eqI (a0 4) 0) (K 0 0 false) (br (!eqI (a0 5) 0) (K 0 0 false) (K (a0 1) (a0 0) true))))
noncomputable def r02_ToBits : (Nat → Int) → (Int → Int → Bool → Prop) → Prop := Classical.choose (⟨r02_ToBits.d, rfl⟩ : ∃ f, f = r02_ToBits.d)
theorem r02_ToBits.is : r02_ToBits = r02_ToBits.d := Classical.choose_spec (⟨r02_ToBits.d, rfl⟩ : ∃ f, f = r02_ToBits.d)
end Go.Ev.S
