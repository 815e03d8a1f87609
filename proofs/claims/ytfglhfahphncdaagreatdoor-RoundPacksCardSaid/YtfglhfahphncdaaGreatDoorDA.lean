/- The functions as the evaluator has them: what each comes to. -/
import Derived.Test.YtfglhfahphncdaaGreatDoorEvC
set_option maxRecDepth 100000
set_option linter.unusedVariables false
set_option linter.unusedSimpArgs false
namespace Go.Ev.S
open Go Go.Ev
def r01_Bit.d (a0 : Int) (a1 : Int) (K : Bool → Prop) : Prop :=
  br (leI 0 a1) (br (ltI a1 64) (gd (!ltI (cvI IntKind.u64 a1) 0) (K (eqI (andI IntKind.u64 (shrI IntKind.u64 a0 (cvI IntKind.u64 a1)) 1) 1))) (K false)) (K false)
noncomputable def r01_Bit : Int → Int → (Bool → Prop) → Prop := Classical.choose (⟨r01_Bit.d, rfl⟩ : ∃ f, f = r01_Bit.d)
theorem r01_Bit.is : r01_Bit = r01_Bit.d := Classical.choose_spec (⟨r01_Bit.d, rfl⟩ : ∃ f, f = r01_Bit.d)
def r01_Add.l3.step (again : Int → Int → Bool → Int → Int → Prop) (k0 : Bool → Int → Prop) (x0 : Int) (x1 : Int) (x2 : Bool) (x3 : Int) (x4 : Int) : Prop :=
  br (ltI x4 64) (r01_Bit x0 x4 fun y0 => r01_Bit x1 x4 fun y0_1 => br (!beqB (!beqB y0 y0_1) x2) (gd (!ltI (cvI IntKind.u64 x4) 0) (br y0 (br y0_1 (again x0 x1 true (orI IntKind.u64 x3 (shlI IntKind.u64 1 (cvI IntKind.u64 x4))) (addI IntKind.i64 x4 1)) (br y0 (br x2 (again x0 x1 true (orI IntKind.u64 x3 (shlI IntKind.u64 1 (cvI IntKind.u64 x4))) (addI IntKind.i64 x4 1)) (br y0_1 (again x0 x1 x2 (orI IntKind.u64 x3 (shlI IntKind.u64 1 (cvI IntKind.u64 x4))) (addI IntKind.i64 x4 1)) (again x0 x1 false (orI IntKind.u64 x3 (shlI IntKind.u64 1 (cvI IntKind.u64 x4))) (addI IntKind.i64 x4 1)))) (br y0_1 (again x0 x1 x2 (orI IntKind.u64 x3 (shlI IntKind.u64 1 (cvI IntKind.u64 x4))) (addI IntKind.i64 x4 1)) (again x0 x1 false (orI IntKind.u64 x3 (shlI IntKind.u64 1 (cvI IntKind.u64 x4))) (addI IntKind.i64 x4 1))))) (br y0 (br x2 (again x0 x1 true (orI IntKind.u64 x3 (shlI IntKind.u64 1 (cvI IntKind.u64 x4))) (addI IntKind.i64 x4 1)) (br y0_1 (again x0 x1 x2 (orI IntKind.u64 x3 (shlI IntKind.u64 1 (cvI IntKind.u64 x4))) (addI IntKind.i64 x4 1)) (again x0 x1 false (orI IntKind.u64 x3 (shlI IntKind.u64 1 (cvI IntKind.u64 x4))) (addI IntKind.i64 x4 1)))) (br y0_1 (again x0 x1 x2 (orI IntKind.u64 x3 (shlI IntKind.u64 1 (cvI IntKind.u64 x4))) (addI IntKind.i64 x4 1)) (again x0 x1 false (orI IntKind.u64 x3 (shlI IntKind.u64 1 (cvI IntKind.u64 x4))) (addI IntKind.i64 x4 1)))))) (br y0 (br y0_1 (again x0 x1 true x3 (addI IntKind.i64 x4 1)) (br y0 (br x2 (again x0 x1 true x3 (addI IntKind.i64 x4 1)) (br y0_1 (again x0 x1 x2 x3 (addI IntKind.i64 x4 1)) (again x0 x1 false x3 (addI IntKind.i64 x4 1)))) (br y0_1 (again x0 x1 x2 x3 (addI IntKind.i64 x4 1)) (again x0 x1 false x3 (addI IntKind.i64 x4 1))))) (br y0 (br x2 (again x0 x1 true x3 (addI IntKind.i64 x4 1)) (br y0_1 (again x0 x1 x2 x3 (addI IntKind.i64 x4 1)) (again x0 x1 false x3 (addI IntKind.i64 x4 1)))) (br y0_1 (again x0 x1 x2 x3 (addI IntKind.i64 x4 1)) (again x0 x1 false x3 (addI IntKind.i64 x4 1)))))) (k0 x2 x3)
def r01_Add.l3 (k0 : Bool → Int → Prop) : Nat → Int → Int → Bool → Int → Int → Prop
  | 0 => fun _ _ _ _ _ => False
  | n + 1 => r01_Add.l3.step (r01_Add.l3 k0 n) k0
def r01_Add.l3.entry : LoopEntry := ⟨LV.mk 260 [(0, 260)] 192 0 false, 0, 50, fun vs H K => match vs, H with
  | [EV.int IntKind.u64 x0, EV.int IntKind.u64 x1, EV.bool x2, EV.int IntKind.u64 x3, EV.int IntKind.i64 x4], [] => ∃ n, r01_Add.l3 (fun y0 y1 => K (.exit 0) [EV.bool y0, EV.int IntKind.u64 y1] []) n x0 x1 x2 x3 x4
  | _, _ => False⟩
def r01_Add.d (a0 : Int) (a1 : Int) (a2 : Bool) (K : Int → Bool → Prop) : Prop :=
  ∃ n, r01_Add.l3 (fun y0 y1 => K y1 y0) n a0 a1 a2 0 0
noncomputable def r01_Add : Int → Int → Bool → (Int → Bool → Prop) → Prop := Classical.choose (⟨r01_Add.d, rfl⟩ : ∃ f, f = r01_Add.d)
theorem r01_Add.is : r01_Add = r01_Add.d := Classical.choose_spec (⟨r01_Add.d, rfl⟩ : ∃ f, f = r01_Add.d)
def r01_Len.l3.step (again : Int → Int → Int → Prop) (k0 : Int → Prop) (x0 : Int) (x1 : Int) (x2 : Int) : Prop :=
  br (ltI x2 64) (r01_Bit x0 x2 fun y0 => br y0 (again x0 (addI IntKind.i64 x2 1) (addI IntKind.i64 x2 1)) (again x0 x1 (addI IntKind.i64 x2 1))) (k0 x1)
def r01_Len.l3 (k0 : Int → Prop) : Nat → Int → Int → Int → Prop
  | 0 => fun _ _ _ => False
  | n + 1 => r01_Len.l3.step (r01_Len.l3 k0 n) k0
def r01_Len.l3.entry : LoopEntry := ⟨LV.mk 8 [(0, 8)] 4 0 false, 0, 15, fun vs H K => match vs, H with
  | [EV.int IntKind.u64 x0, EV.int IntKind.i64 x1, EV.int IntKind.i64 x2], [] => ∃ n, r01_Len.l3 (fun y0 => K (.exit 0) [EV.int IntKind.i64 y0] []) n x0 x1 x2
  | _, _ => False⟩
def r01_Len.d (a0 : Int) (K : Int → Prop) : Prop :=
  ∃ n, r01_Len.l3 (fun y0 => K y0) n a0 0 0
noncomputable def r01_Len : Int → (Int → Prop) → Prop := Classical.choose (⟨r01_Len.d, rfl⟩ : ∃ f, f = r01_Len.d)
theorem r01_Len.is : r01_Len = r01_Len.d := Classical.choose_spec (⟨r01_Len.d, rfl⟩ : ∃ f, f = r01_Len.d)
def r01_Low.l2.step (again : Int → Int → Prop) (k0 : Int → Prop) (k1 : Prop) (x0 : Int) (x1 : Int) : Prop :=
  br (ltI x1 64) (r01_Bit x0 x1 fun y0 => br y0 (k0 x1) (again x0 (addI IntKind.i64 x1 1))) k1
def r01_Low.l2 (k0 : Int → Prop) (k1 : Prop) : Nat → Int → Int → Prop
  | 0 => fun _ _ => False
  | n + 1 => r01_Low.l2.step (r01_Low.l2 k0 k1 n) k0 k1
def r01_Low.l2.entry : LoopEntry := ⟨LV.mk 0 [(0, 0)] 4 0 false, 0, 12, fun vs H K => match vs, H with
  | [EV.int IntKind.u64 x0, EV.int IntKind.i64 x1], [] => ∃ n, r01_Low.l2 (fun y0 => K .ret [EV.int IntKind.i64 y0] []) (K (.exit 0) [] []) n x0 x1
  | _, _ => False⟩
def r01_Low.d (a0 : Int) (K : Int → Prop) : Prop :=
  ∃ n, r01_Low.l2 (fun y0 => K y0) (K 64) n a0 0
noncomputable def r01_Low : Int → (Int → Prop) → Prop := Classical.choose (⟨r01_Low.d, rfl⟩ : ∃ f, f = r01_Low.d)
theorem r01_Low.is : r01_Low = r01_Low.d := Classical.choose_spec (⟨r01_Low.d, rfl⟩ : ∃ f, f = r01_Low.d)
end Go.Ev.S

/- The functions as the evaluator has them: what each comes to. -/
set_option maxRecDepth 100000
set_option linter.unusedVariables false
set_option linter.unusedSimpArgs false
namespace Go.Ev.S
open Go Go.Ev
def r02_Add.l4.step (again : Bool → Int → (Nat → Int) → (Nat → Int) → (Nat → Int) → (Nat → Int) → Prop) (k0 : Bool → (Nat → Int) → (Nat → Int) → Prop) (x0 : Bool) (x1 : Int) (x2 : Nat → Int) (x3 : Nat → Int) (x4 : Nat → Int) (x5 : Nat → Int) : Prop :=
  br (ltI x1 6) (gd (leI 0 x1 && ltI x1 6) (gd (leI 0 x1 && ltI x1 6) (r01_Add (x2 (Int.toNat x1)) (x3 (Int.toNat x1)) x0 fun y0 y1 => gd (leI 0 x1 && ltI x1 6) (again y1 (addI IntKind.i64 x1 1) x2 x3 x4 (upd x5 (Int.toNat x1) y0))))) (k0 x0 x4 x5)
def r02_Add.l4 (k0 : Bool → (Nat → Int) → (Nat → Int) → Prop) : Nat → Bool → Int → (Nat → Int) → (Nat → Int) → (Nat → Int) → (Nat → Int) → Prop
  | 0 => fun _ _ _ _ _ _ => False
  | n + 1 => r02_Add.l4.step (r02_Add.l4 k0 n) k0
def r02_Add.l4.entry : LoopEntry := ⟨LV.mk 208 [(0, 208)] 48 0 false, 0, 32, fun vs H K => match vs, H with
  | [EV.ptr 0 [], EV.ptr 1 [], EV.ptr 2 [], EV.ptr 3 [], EV.bool x0, EV.int IntKind.i64 x1], [some (EV.arr IntKind.u64 6 x2), some (EV.arr IntKind.u64 6 x3), some (EV.arr IntKind.u64 6 x4), some (EV.arr IntKind.u64 6 x5)] => ∃ n, r02_Add.l4 (fun y0 y1 y2 => K (.exit 0) [EV.ptr 0 [], EV.ptr 1 [], EV.bool y0] [some (EV.arr IntKind.u64 6 y1), some (EV.arr IntKind.u64 6 y2)]) n x0 x1 x2 x3 x4 x5
  | _, _ => False⟩
def r02_Add.d (a0 : Nat → Int) (a1 : Nat → Int) (K : (Nat → Int) → Bool → Prop) : Prop :=
  ∃ n, r02_Add.l4 (fun y0 y1 y2 => K y2 y0) n false 0 a0 a1 (fun x => 0) fun x => 0
noncomputable def r02_Add : (Nat → Int) → (Nat → Int) → ((Nat → Int) → Bool → Prop) → Prop := Classical.choose (⟨r02_Add.d, rfl⟩ : ∃ f, f = r02_Add.d)
theorem r02_Add.is : r02_Add = r02_Add.d := Classical.choose_spec (⟨r02_Add.d, rfl⟩ : ∃ f, f = r02_Add.d)
def r02_And.l2.step (again : Int → (Nat → Int) → (Nat → Int) → (Nat → Int) → Prop) (k0 : (Nat → Int) → (Nat → Int) → Prop) (x0 : Int) (x1 : Nat → Int) (x2 : Nat → Int) (x3 : Nat → Int) : Prop :=
  br (ltI x0 6) (gd (leI 0 x0 && ltI x0 6) (gd (leI 0 x0 && ltI x0 6) (gd (leI 0 x0 && ltI x0 6) (again (addI IntKind.i64 x0 1) (upd x1 (Int.toNat x0) (andI IntKind.u64 (x1 (Int.toNat x0)) (x2 (Int.toNat x0)))) x2 x3)))) (k0 x1 x3)
def r02_And.l2 (k0 : (Nat → Int) → (Nat → Int) → Prop) : Nat → Int → (Nat → Int) → (Nat → Int) → (Nat → Int) → Prop
  | 0 => fun _ _ _ _ => False
  | n + 1 => r02_And.l2.step (r02_And.l2 k0 n) k0
def r02_And.l2.entry : LoopEntry := ⟨LV.mk 20 [(0, 20)] 16 0 false, 0, 20, fun vs H K => match vs, H with
  | [EV.ptr 0 [], EV.ptr 1 [], EV.ptr 2 [], EV.int IntKind.i64 x0], [some (EV.arr IntKind.u64 6 x1), some (EV.arr IntKind.u64 6 x2), some (EV.arr IntKind.u64 6 x3)] => ∃ n, r02_And.l2 (fun y0 y1 => K (.exit 0) [EV.ptr 0 [], EV.ptr 1 []] [some (EV.arr IntKind.u64 6 y0), some (EV.arr IntKind.u64 6 y1)]) n x0 x1 x2 x3
  | _, _ => False⟩
def r02_And.d (a0 : Nat → Int) (a1 : Nat → Int) (K : (Nat → Int) → Prop) : Prop :=
  ∃ n, r02_And.l2 (fun y0 y1 => K y0) n 0 a0 a1 fun x => 0
noncomputable def r02_And : (Nat → Int) → (Nat → Int) → ((Nat → Int) → Prop) → Prop := Classical.choose (⟨r02_And.d, rfl⟩ : ∃ f, f = r02_And.d)
theorem r02_And.is : r02_And = r02_And.d := Classical.choose_spec (⟨r02_And.d, rfl⟩ : ∃ f, f = r02_And.d)
def r02_Bit.d (a0 : Nat → Int) (a1 : Int) (K : Bool → Prop) : Prop :=
  br (leI 0 a1) (br (ltI a1 384) (gd (leI 0 (quoI IntKind.i64 a1 64) && ltI (quoI IntKind.i64 a1 64) 6) (r01_Bit (a0 (Int.toNat (quoI IntKind.i64 a1 64))) (remI IntKind.i64 a1 64) fun y0 => K y0)) (K false)) (K false)
noncomputable def r02_Bit : (Nat → Int) → Int → (Bool → Prop) → Prop := Classical.choose (⟨r02_Bit.d, rfl⟩ : ∃ f, f = r02_Bit.d)
theorem r02_Bit.is : r02_Bit = r02_Bit.d := Classical.choose_spec (⟨r02_Bit.d, rfl⟩ : ∃ f, f = r02_Bit.d)
def r02_Count.d (a0 : Int) (K : Int → Prop) : Prop :=
  br (ltI a0 0) (K 0) (br (ltI 384 a0) (K 384) (K a0))
noncomputable def r02_Count : Int → (Int → Prop) → Prop := Classical.choose (⟨r02_Count.d, rfl⟩ : ∃ f, f = r02_Count.d)
theorem r02_Count.is : r02_Count = r02_Count.d := Classical.choose_spec (⟨r02_Count.d, rfl⟩ : ∃ f, f = r02_Count.d)
def r02_Left.l5.step (again : Int → Bool → Int → (Nat → Int) → (Nat → Int) → (Nat → Int) → Prop) (k0 : Bool → (Nat → Int) → (Nat → Int) → Prop) (x0 : Int) (x1 : Bool) (x2 : Int) (x3 : Nat → Int) (x4 : Nat → Int) (x5 : Nat → Int) : Prop :=
  br (ltI x2 384) (r02_Bit x3 x2 fun y0 => br y0 (br (ltI (addI IntKind.i64 x2 x0) 384) (gd (leI 0 (quoI IntKind.i64 (addI IntKind.i64 x2 x0) 64) && ltI (quoI IntKind.i64 (addI IntKind.i64 x2 x0) 64) 6) (gd (!ltI (cvI IntKind.u64 (remI IntKind.i64 (addI IntKind.i64 x2 x0) 64)) 0) (gd (leI 0 (quoI IntKind.i64 (addI IntKind.i64 x2 x0) 64) && ltI (quoI IntKind.i64 (addI IntKind.i64 x2 x0) 64) 6) (again x0 x1 (addI IntKind.i64 x2 1) x3 x4 (upd x5 (Int.toNat (quoI IntKind.i64 (addI IntKind.i64 x2 x0) 64)) (orI IntKind.u64 (x5 (Int.toNat (quoI IntKind.i64 (addI IntKind.i64 x2 x0) 64))) (shlI IntKind.u64 1 (cvI IntKind.u64 (remI IntKind.i64 (addI IntKind.i64 x2 x0) 64))))))))) (again x0 true (addI IntKind.i64 x2 1) x3 x4 x5)) (again x0 x1 (addI IntKind.i64 x2 1) x3 x4 x5)) (k0 x1 x4 x5)
def r02_Left.l5 (k0 : Bool → (Nat → Int) → (Nat → Int) → Prop) : Nat → Int → Bool → Int → (Nat → Int) → (Nat → Int) → (Nat → Int) → Prop
  | 0 => fun _ _ _ _ _ _ => False
  | n + 1 => r02_Left.l5.step (r02_Left.l5 k0 n) k0
def r02_Left.l5.entry : LoopEntry := ⟨LV.mk 208 [(0, 208)] 48 0 false, 0, 42, fun vs H K => match vs, H with
  | [EV.int IntKind.i64 x0, EV.ptr 0 [], EV.ptr 1 [], EV.ptr 2 [], EV.bool x1, EV.int IntKind.i64 x2], [some (EV.arr IntKind.u64 6 x3), some (EV.arr IntKind.u64 6 x4), some (EV.arr IntKind.u64 6 x5)] => ∃ n, r02_Left.l5 (fun y0 y1 y2 => K (.exit 0) [EV.ptr 0 [], EV.ptr 1 [], EV.bool y0] [some (EV.arr IntKind.u64 6 y1), some (EV.arr IntKind.u64 6 y2)]) n x0 x1 x2 x3 x4 x5
  | _, _ => False⟩
def r02_Left.d (a0 : Nat → Int) (a1 : Int) (K : (Nat → Int) → Bool → Prop) : Prop :=
  r02_Count a1 fun y0 => ∃ n, r02_Left.l5 (fun y0 y1 y2 => K y2 y0) n y0 false 0 a0 (fun x => 0) fun x => 0
noncomputable def r02_Left : (Nat → Int) → Int → ((Nat → Int) → Bool → Prop) → Prop := Classical.choose (⟨r02_Left.d, rfl⟩ : ∃ f, f = r02_Left.d)
theorem r02_Left.is : r02_Left = r02_Left.d := Classical.choose_spec (⟨r02_Left.d, rfl⟩ : ∃ f, f = r02_Left.d)
def r02_Len.l2.step (again : Int → (Nat → Int) → Prop) (k0 : Int → Prop) (k1 : Prop) (x0 : Int) (x1 : Nat → Int) : Prop :=
  br (leI 0 x0) (gd (leI 0 x0 && ltI x0 6) (br (!eqI (x1 (Int.toNat x0)) 0) (gd (leI 0 x0 && ltI x0 6) (r01_Len (x1 (Int.toNat x0)) fun y0 => k0 (addI IntKind.i64 (mulI IntKind.i64 64 x0) y0))) (again (subI IntKind.i64 x0 1) x1))) k1
def r02_Len.l2 (k0 : Int → Prop) (k1 : Prop) : Nat → Int → (Nat → Int) → Prop
  | 0 => fun _ _ => False
  | n + 1 => r02_Len.l2.step (r02_Len.l2 k0 k1 n) k0 k1
def r02_Len.l2.entry : LoopEntry := ⟨LV.mk 0 [(0, 0)] 4 0 false, 0, 19, fun vs H K => match vs, H with
  | [EV.ptr 0 [], EV.int IntKind.i64 x0], [some (EV.arr IntKind.u64 6 x1)] => ∃ n, r02_Len.l2 (fun y0 => K .ret [EV.int IntKind.i64 y0] []) (K (.exit 0) [] []) n x0 x1
  | _, _ => False⟩
def r02_Len.d (a0 : Nat → Int) (K : Int → Prop) : Prop :=
  ∃ n, r02_Len.l2 (fun y0 => K y0) (K 0) n 5 a0
noncomputable def r02_Len : (Nat → Int) → (Int → Prop) → Prop := Classical.choose (⟨r02_Len.d, rfl⟩ : ∃ f, f = r02_Len.d)
theorem r02_Len.is : r02_Len = r02_Len.d := Classical.choose_spec (⟨r02_Len.d, rfl⟩ : ∃ f, f = r02_Len.d)
def r02_Mask.l4.step (again : Int → Int → (Nat → Int) → (Nat → Int) → Prop) (k0 : (Nat → Int) → (Nat → Int) → Prop) (x0 : Int) (x1 : Int) (x2 : Nat → Int) (x3 : Nat → Int) : Prop :=
  br (ltI x1 x0) (gd (leI 0 (quoI IntKind.i64 x1 64) && ltI (quoI IntKind.i64 x1 64) 6) (gd (!ltI (cvI IntKind.u64 (remI IntKind.i64 x1 64)) 0) (gd (leI 0 (quoI IntKind.i64 x1 64) && ltI (quoI IntKind.i64 x1 64) 6) (again x0 (addI IntKind.i64 x1 1) x2 (upd x3 (Int.toNat (quoI IntKind.i64 x1 64)) (orI IntKind.u64 (x3 (Int.toNat (quoI IntKind.i64 x1 64))) (shlI IntKind.u64 1 (cvI IntKind.u64 (remI IntKind.i64 x1 64))))))))) (k0 x2 x3)
def r02_Mask.l4 (k0 : (Nat → Int) → (Nat → Int) → Prop) : Nat → Int → Int → (Nat → Int) → (Nat → Int) → Prop
  | 0 => fun _ _ _ _ => False
  | n + 1 => r02_Mask.l4.step (r02_Mask.l4 k0 n) k0
def r02_Mask.l4.entry : LoopEntry := ⟨LV.mk 12 [(0, 12)] 4 0 false, 0, 25, fun vs H K => match vs, H with
  | [EV.int IntKind.i64 x0, EV.ptr 0 [], EV.ptr 1 [], EV.int IntKind.i64 x1], [some (EV.arr IntKind.u64 6 x2), some (EV.arr IntKind.u64 6 x3)] => ∃ n, r02_Mask.l4 (fun y0 y1 => K (.exit 0) [EV.ptr 0 [], EV.ptr 1 []] [some (EV.arr IntKind.u64 6 y0), some (EV.arr IntKind.u64 6 y1)]) n x0 x1 x2 x3
  | _, _ => False⟩
def r02_Mask.d (a0 : Int) (K : (Nat → Int) → Prop) : Prop :=
  r02_Count a0 fun y0 => ∃ n, r02_Mask.l4 (fun y0 y1 => K y1) n y0 0 (fun x => 0) fun x => 0
noncomputable def r02_Mask : Int → ((Nat → Int) → Prop) → Prop := Classical.choose (⟨r02_Mask.d, rfl⟩ : ∃ f, f = r02_Mask.d)
theorem r02_Mask.is : r02_Mask = r02_Mask.d := Classical.choose_spec (⟨r02_Mask.d, rfl⟩ : ∃ f, f = r02_Mask.d)
def r02_Of.d (a0 : Int) (K : (Nat → Int) → Prop) : Prop :=
  K (upd (fun x => 0) 0 a0)
noncomputable def r02_Of : Int → ((Nat → Int) → Prop) → Prop := Classical.choose (⟨r02_Of.d, rfl⟩ : ∃ f, f = r02_Of.d)
theorem r02_Of.is : r02_Of = r02_Of.d := Classical.choose_spec (⟨r02_Of.d, rfl⟩ : ∃ f, f = r02_Of.d)
def r02_ToBits.d (a0 : Nat → Int) (K : Int → Int → Bool → Prop) : Prop :=
  br (!eqI (a0 2) 0) (K 0 0 false) (br (!eqI (a0 3) 0) (K 0 0 false) (br (!eqI (a0 4) 0) (K 0 0 false) (br (!eqI (a0 5) 0) (K 0 0 false) (K (a0 1) (a0 0) true))))
noncomputable def r02_ToBits : (Nat → Int) → (Int → Int → Bool → Prop) → Prop := Classical.choose (⟨r02_ToBits.d, rfl⟩ : ∃ f, f = r02_ToBits.d)
theorem r02_ToBits.is : r02_ToBits = r02_ToBits.d := Classical.choose_spec (⟨r02_ToBits.d, rfl⟩ : ∃ f, f = r02_ToBits.d)
end Go.Ev.S

/- The functions as the evaluator has them: what each comes to. -/
set_option maxRecDepth 100000
set_option linter.unusedVariables false
set_option linter.unusedSimpArgs false
namespace Go.Ev.S
open Go Go.Ev
def r05_at.d (a0 : List UInt8) (a1 : Int) (K : Int → Prop) : Prop :=
  br (leI (↑(List.length a0)) a1) (K 0) (gd (leI 0 (subI IntKind.i64 (subI IntKind.i64 (↑(List.length a0)) 1) a1) && ltI (subI IntKind.i64 (subI IntKind.i64 (↑(List.length a0)) 1) a1) ↑(List.length a0)) (K (cvI IntKind.i64 (byteAt a0 (Int.toNat (subI IntKind.i64 (subI IntKind.i64 (↑(List.length a0)) 1) a1))))))
noncomputable def r05_at : List UInt8 → Int → (Int → Prop) → Prop := Classical.choose (⟨r05_at.d, rfl⟩ : ∃ f, f = r05_at.d)
theorem r05_at.is : r05_at = r05_at.d := Classical.choose_spec (⟨r05_at.d, rfl⟩ : ∃ f, f = r05_at.d)
def r05_fit.l2.step (again : Nat → (Nat → Int) → Int → Prop) (k0 : Nat → (Nat → Int) → Int → Prop) (x0 : Nat) (x1 : Nat → Int) (x2 : Int) : Prop :=
  br (ltI 0 x2) (gd (leI 0 (subI IntKind.i64 x2 1) && ltI (subI IntKind.i64 x2 1) ↑x0) (br (eqI (x1 (Int.toNat (subI IntKind.i64 x2 1))) 0) (again x0 x1 (subI IntKind.i64 x2 1)) (k0 x0 x1 x2))) (k0 x0 x1 x2)
def r05_fit.l2 (k0 : Nat → (Nat → Int) → Int → Prop) : Nat → Nat → (Nat → Int) → Int → Prop
  | 0 => fun _ _ _ => False
  | n + 1 => r05_fit.l2.step (r05_fit.l2 k0 n) k0
def r05_fit.l2.entry : LoopEntry := ⟨LV.mk 9 [(0, 9)] 4 0 false, 0, 39, fun vs H K => match vs, H with
  | [EV.rsI IntKind.u8 x0 x1, EV.int IntKind.i64 x2], [] => ∃ n, r05_fit.l2 (fun y0 y1 y2 => K (.exit 0) [EV.rsI IntKind.u8 y0 y1, EV.int IntKind.i64 y2] []) n x0 x1 x2
  | _, _ => False⟩
def r05_fit.l6.step (again : Nat → (Nat → Int) → Int → Nat → Nat → Int → Nat → (Nat → Int) → Prop) (k0 : Nat → Nat → Nat → (Nat → Int) → Prop) (x0 : Nat) (x1 : Nat → Int) (x2 : Int) (x3 : Nat) (x4 : Nat) (x5 : Int) (x6 : Nat) (x7 : Nat → Int) : Prop :=
  br (ltI x5 x2) (gd (leI 0 x5 && ltI x5 ↑x0) (gd (leI 0 (subI IntKind.i64 (subI IntKind.i64 x2 1) x5) && ltI (subI IntKind.i64 (subI IntKind.i64 x2 1) x5) ↑x3) (again x0 x1 x2 x3 x4 (addI IntKind.i64 x5 1) x6 (upd x7 (Int.toNat (subI IntKind.i64 (subI IntKind.i64 x2 1) x5)) (x1 (Int.toNat x5)))))) (k0 x3 x4 x6 x7)
def r05_fit.l6 (k0 : Nat → Nat → Nat → (Nat → Int) → Prop) : Nat → Nat → (Nat → Int) → Int → Nat → Nat → Int → Nat → (Nat → Int) → Prop
  | 0 => fun _ _ _ _ _ _ _ _ => False
  | n + 1 => r05_fit.l6.step (r05_fit.l6 k0 n) k0
def r05_fit.l6.entry : LoopEntry := ⟨LV.mk 16 [(2, 16)] 4 0 false, 0, 39, fun vs H K => match vs, H with
  | [EV.rsI IntKind.u8 x0 x1, EV.int IntKind.i64 x2, EV.slice 0 0 x3 (some x4) 1, EV.int IntKind.i64 x5], [some (EV.arr IntKind.u8 x6 x7)] => ∃ n, r05_fit.l6 (fun y0 y1 y2 y3 => K (.exit 2) [EV.slice 0 0 y0 (some y1) 1] [some (EV.arr IntKind.u8 y2 y3)]) n x0 x1 x2 x3 x4 x5 x6 x7
  | _, _ => False⟩
def r05_fit.d (a0n : Nat) (a0 : Nat → Int) (K : List UInt8 → Prop) : Prop :=
  ∃ n, r05_fit.l2 (fun y0 y1 y2 => gd (leI 0 y2 && (leI y2 y2 && leI y2 1099511627776)) (∃ n, r05_fit.l6 (fun y0 y1 y2 y3 => K (bytesOf y0 y3)) n y0 y1 y2 (Int.toNat y2) (Int.toNat y2) 0 (Int.toNat y2) fun x => 0)) n a0n a0 ↑a0n
noncomputable def r05_fit : Nat → (Nat → Int) → (List UInt8 → Prop) → Prop := Classical.choose (⟨r05_fit.d, rfl⟩ : ∃ f, f = r05_fit.d)
theorem r05_fit.is : r05_fit = r05_fit.d := Classical.choose_spec (⟨r05_fit.d, rfl⟩ : ∃ f, f = r05_fit.d)
def r05_add.l7.step (again : List UInt8 → List UInt8 → Int → Nat → Nat → Int → Int → Nat → (Nat → Int) → Prop) (k0 : Nat → Nat → Nat → (Nat → Int) → Prop) (x0 : List UInt8) (x1 : List UInt8) (x2 : Int) (x3 : Nat) (x4 : Nat) (x5 : Int) (x6 : Int) (x7 : Nat) (x8 : Nat → Int) : Prop :=
  br (leI x6 x2) (r05_at x0 x6 fun y0 => r05_at x1 x6 fun y0_1 => gd (leI 0 x6 && ltI x6 ↑x3) (again x0 x1 x2 x3 x4 (shrI IntKind.i64 (addI IntKind.i64 (addI IntKind.i64 x5 y0) y0_1) 8) (addI IntKind.i64 x6 1) x7 (upd x8 (Int.toNat x6) (cvI IntKind.u8 (addI IntKind.i64 (addI IntKind.i64 x5 y0) y0_1))))) (k0 x3 x4 x7 x8)
def r05_add.l7 (k0 : Nat → Nat → Nat → (Nat → Int) → Prop) : Nat → List UInt8 → List UInt8 → Int → Nat → Nat → Int → Int → Nat → (Nat → Int) → Prop
  | 0 => fun _ _ _ _ _ _ _ _ _ => False
  | n + 1 => r05_add.l7.step (r05_add.l7 k0 n) k0
def r05_add.l7.entry : LoopEntry := ⟨LV.mk 64 [(0, 64)] 16 0 false, 0, 43, fun vs H K => match vs, H with
  | [EV.str x0, EV.str x1, EV.int IntKind.i64 x2, EV.slice 0 0 x3 (some x4) 1, EV.int IntKind.i64 x5, EV.int IntKind.i64 x6], [some (EV.arr IntKind.u8 x7 x8)] => ∃ n, r05_add.l7 (fun y0 y1 y2 y3 => K (.exit 0) [EV.slice 0 0 y0 (some y1) 1] [some (EV.arr IntKind.u8 y2 y3)]) n x0 x1 x2 x3 x4 x5 x6 x7 x8
  | _, _ => False⟩
def r05_add.d (a0 : List UInt8) (a1 : List UInt8) (K : List UInt8 → Prop) : Prop :=
  br (ltI ↑(List.length a0) ↑(List.length a1)) (gd (leI 0 (addI IntKind.i64 (↑(List.length a1)) 1) && (leI (addI IntKind.i64 (↑(List.length a1)) 1) (addI IntKind.i64 (↑(List.length a1)) 1) && leI (addI IntKind.i64 (↑(List.length a1)) 1) 1099511627776)) (∃ n, r05_add.l7 (fun y0 y1 y2 y3 => r05_fit y0 y3 fun y0 => K y0) n a0 a1 (↑(List.length a1)) (Int.toNat (addI IntKind.i64 (↑(List.length a1)) 1)) (Int.toNat (addI IntKind.i64 (↑(List.length a1)) 1)) 0 0 (Int.toNat (addI IntKind.i64 (↑(List.length a1)) 1)) fun x => 0)) (gd (leI 0 (addI IntKind.i64 (↑(List.length a0)) 1) && (leI (addI IntKind.i64 (↑(List.length a0)) 1) (addI IntKind.i64 (↑(List.length a0)) 1) && leI (addI IntKind.i64 (↑(List.length a0)) 1) 1099511627776)) (∃ n, r05_add.l7 (fun y0 y1 y2 y3 => r05_fit y0 y3 fun y0 => K y0) n a0 a1 (↑(List.length a0)) (Int.toNat (addI IntKind.i64 (↑(List.length a0)) 1)) (Int.toNat (addI IntKind.i64 (↑(List.length a0)) 1)) 0 0 (Int.toNat (addI IntKind.i64 (↑(List.length a0)) 1)) fun x => 0))
noncomputable def r05_add : List UInt8 → List UInt8 → (List UInt8 → Prop) → Prop := Classical.choose (⟨r05_add.d, rfl⟩ : ∃ f, f = r05_add.d)
theorem r05_add.is : r05_add = r05_add.d := Classical.choose_spec (⟨r05_add.d, rfl⟩ : ∃ f, f = r05_add.d)
def r05_long.d (a0 : List UInt8) (K : List UInt8 → Int → Prop) : Prop :=
  br (ltI 16384 ↑(List.length a0)) (K [] 4) (K a0 0)
noncomputable def r05_long : List UInt8 → (List UInt8 → Int → Prop) → Prop := Classical.choose (⟨r05_long.d, rfl⟩ : ∃ f, f = r05_long.d)
theorem r05_long.is : r05_long = r05_long.d := Classical.choose_spec (⟨r05_long.d, rfl⟩ : ∃ f, f = r05_long.d)
def r05_Add.d (a0 : List UInt8) (a1 : List UInt8) (K : List UInt8 → Int → Prop) : Prop :=
  r05_add a0 a1 fun y0 => r05_long y0 fun y0 y1 => K y0 y1
noncomputable def r05_Add : List UInt8 → List UInt8 → (List UInt8 → Int → Prop) → Prop := Classical.choose (⟨r05_Add.d, rfl⟩ : ∃ f, f = r05_Add.d)
theorem r05_Add.is : r05_Add = r05_Add.d := Classical.choose_spec (⟨r05_Add.d, rfl⟩ : ∃ f, f = r05_Add.d)
def r05_Cmp.d (a0 : List UInt8) (a1 : List UInt8) (K : Int → Prop) : Prop :=
  br (!eqI ↑(List.length a0) ↑(List.length a1)) (br (ltI ↑(List.length a0) ↑(List.length a1)) (K (-1)) (K 1)) (br (ltS a0 a1) (K (-1)) (br (!(ltS a0 a1 || eqS a0 a1)) (K 1) (K 0)))
noncomputable def r05_Cmp : List UInt8 → List UInt8 → (Int → Prop) → Prop := Classical.choose (⟨r05_Cmp.d, rfl⟩ : ∃ f, f = r05_Cmp.d)
theorem r05_Cmp.is : r05_Cmp = r05_Cmp.d := Classical.choose_spec (⟨r05_Cmp.d, rfl⟩ : ∃ f, f = r05_Cmp.d)
def r05_May.d (a0 : List UInt8) (K : Bool → Prop) : Prop :=
  br (leI (↑(List.length a0)) 16384) (br (eqS a0 []) (K true) (gd (ltI 0 ↑(List.length a0)) (K !eqI (byteAt a0 0) 0))) (K false)
noncomputable def r05_May : List UInt8 → (Bool → Prop) → Prop := Classical.choose (⟨r05_May.d, rfl⟩ : ∃ f, f = r05_May.d)
theorem r05_May.is : r05_May = r05_May.d := Classical.choose_spec (⟨r05_May.d, rfl⟩ : ∃ f, f = r05_May.d)
def r05_Len.d (a0 : List UInt8) (K : Int → Prop) : Prop :=
  r05_May a0 fun y0 => br (!y0) (K 0) (br (eqS a0 []) (K 0) (gd (ltI 0 ↑(List.length a0)) (r01_Len (cvI IntKind.u64 (byteAt a0 0)) fun y0 => K (addI IntKind.i64 (mulI IntKind.i64 8 (subI IntKind.i64 (↑(List.length a0)) 1)) y0))))
noncomputable def r05_Len : List UInt8 → (Int → Prop) → Prop := Classical.choose (⟨r05_Len.d, rfl⟩ : ∃ f, f = r05_Len.d)
theorem r05_Len.is : r05_Len = r05_Len.d := Classical.choose_spec (⟨r05_Len.d, rfl⟩ : ∃ f, f = r05_Len.d)
def r05_Low.l4.step (again : List UInt8 → Int → Prop) (k0 : Int → Prop) (k1 : Prop) (x0 : List UInt8) (x1 : Int) : Prop :=
  br (ltI x1 ↑(List.length x0)) (r05_at x0 x1 fun y0 => br (!eqI y0 0) (r05_at x0 x1 fun y0 => r01_Low (cvI IntKind.u64 y0) fun y0 => k0 (addI IntKind.i64 (mulI IntKind.i64 8 x1) y0)) (again x0 (addI IntKind.i64 x1 1))) k1
def r05_Low.l4 (k0 : Int → Prop) (k1 : Prop) : Nat → List UInt8 → Int → Prop
  | 0 => fun _ _ => False
  | n + 1 => r05_Low.l4.step (r05_Low.l4 k0 k1 n) k0 k1
def r05_Low.l4.entry : LoopEntry := ⟨LV.mk 0 [(0, 0)] 4 0 false, 0, 25, fun vs H K => match vs, H with
  | [EV.str x0, EV.int IntKind.i64 x1], [] => ∃ n, r05_Low.l4 (fun y0 => K .ret [EV.int IntKind.i64 y0] []) (K (.exit 0) [] []) n x0 x1
  | _, _ => False⟩
def r05_Low.d (a0 : List UInt8) (K : Int → Prop) : Prop :=
  r05_May a0 fun y0 => br (!y0) (K 0) (∃ n, r05_Low.l4 (fun y0 => K y0) (K 0) n a0 0)
noncomputable def r05_Low : List UInt8 → (Int → Prop) → Prop := Classical.choose (⟨r05_Low.d, rfl⟩ : ∃ f, f = r05_Low.d)
theorem r05_Low.is : r05_Low = r05_Low.d := Classical.choose_spec (⟨r05_Low.d, rfl⟩ : ∃ f, f = r05_Low.d)
def r05_Right.l11.step (again : List UInt8 → Int → Bool → Int → Nat → Nat → Int → Nat → (Nat → Int) → Prop) (k0 : Bool → Nat → Nat → Nat → (Nat → Int) → Prop) (x0 : List UInt8) (x1 : Int) (x2 : Bool) (x3 : Int) (x4 : Nat) (x5 : Nat) (x6 : Int) (x7 : Nat) (x8 : Nat → Int) : Prop :=
  br (ltI x6 x3) (r05_at x0 (addI IntKind.i64 x6 (quoI IntKind.i64 x1 8)) fun y0 => r05_at x0 (addI IntKind.i64 (addI IntKind.i64 x6 (quoI IntKind.i64 x1 8)) 1) fun y0_1 => gd (!ltI (cvI IntKind.u64 (remI IntKind.i64 x1 8)) 0) (gd (leI 0 x6 && ltI x6 ↑x4) (again x0 x1 x2 x3 x4 x5 (addI IntKind.i64 x6 1) x7 (upd x8 (Int.toNat x6) (cvI IntKind.u8 (shrI IntKind.i64 (orI IntKind.i64 y0 (shlI IntKind.i64 y0_1 8)) (cvI IntKind.u64 (remI IntKind.i64 x1 8)))))))) (k0 x2 x4 x5 x7 x8)
def r05_Right.l11 (k0 : Bool → Nat → Nat → Nat → (Nat → Int) → Prop) : Nat → List UInt8 → Int → Bool → Int → Nat → Nat → Int → Nat → (Nat → Int) → Prop
  | 0 => fun _ _ _ _ _ _ _ _ _ => False
  | n + 1 => r05_Right.l11.step (r05_Right.l11 k0 n) k0
def r05_Right.l11.entry : LoopEntry := ⟨LV.mk 640 [(0, 640)] 112 0 false, 0, 65, fun vs H K => match vs, H with
  | [EV.str x0, EV.int IntKind.i64 x1, EV.bool x2, EV.int IntKind.i64 x3, EV.slice 0 0 x4 (some x5) 1, EV.int IntKind.i64 x6], [some (EV.arr IntKind.u8 x7 x8)] => ∃ n, r05_Right.l11 (fun y0 y1 y2 y3 y4 => K (.exit 0) [EV.bool y0, EV.slice 0 0 y1 (some y2) 1] [some (EV.arr IntKind.u8 y3 y4)]) n x0 x1 x2 x3 x4 x5 x6 x7 x8
  | _, _ => False⟩
def r05_Right.d (a0 : List UInt8) (a1 : Int) (K : List UInt8 → Bool → Int → Prop) : Prop :=
  br (ltI a1 0) (K [] false 2) (br (eqS a0 []) (K [] false 0) (r05_Low a0 fun y0 => br (leI (mulI IntKind.i64 8 ↑(List.length a0)) a1) (K [] (ltI y0 a1) 0) (gd (leI 0 (subI IntKind.i64 (↑(List.length a0)) (quoI IntKind.i64 a1 8)) && (leI (subI IntKind.i64 (↑(List.length a0)) (quoI IntKind.i64 a1 8)) (subI IntKind.i64 (↑(List.length a0)) (quoI IntKind.i64 a1 8)) && leI (subI IntKind.i64 (↑(List.length a0)) (quoI IntKind.i64 a1 8)) 1099511627776)) (∃ n, r05_Right.l11 (fun y0 y1 y2 y3 y4 => r05_fit y1 y4 fun y0_1 => K y0_1 y0 0) n a0 a1 (ltI y0 a1) (subI IntKind.i64 (↑(List.length a0)) (quoI IntKind.i64 a1 8)) (Int.toNat (subI IntKind.i64 (↑(List.length a0)) (quoI IntKind.i64 a1 8))) (Int.toNat (subI IntKind.i64 (↑(List.length a0)) (quoI IntKind.i64 a1 8))) 0 (Int.toNat (subI IntKind.i64 (↑(List.length a0)) (quoI IntKind.i64 a1 8))) fun x => 0))))
noncomputable def r05_Right : List UInt8 → Int → (List UInt8 → Bool → Int → Prop) → Prop := Classical.choose (⟨r05_Right.d, rfl⟩ : ∃ f, f = r05_Right.d)
theorem r05_Right.is : r05_Right = r05_Right.d := Classical.choose_spec (⟨r05_Right.d, rfl⟩ : ∃ f, f = r05_Right.d)
def r05_bit.d (a0 : List UInt8) (a1 : Int) (K : Int → Prop) : Prop :=
  r05_at a0 (quoI IntKind.i64 a1 8) fun y0 => gd (!ltI (cvI IntKind.u64 (remI IntKind.i64 a1 8)) 0) (K (andI IntKind.i64 (shrI IntKind.i64 y0 (cvI IntKind.u64 (remI IntKind.i64 a1 8))) 1))
noncomputable def r05_bit : List UInt8 → Int → (Int → Prop) → Prop := Classical.choose (⟨r05_bit.d, rfl⟩ : ∃ f, f = r05_bit.d)
theorem r05_bit.is : r05_bit = r05_bit.d := Classical.choose_spec (⟨r05_bit.d, rfl⟩ : ∃ f, f = r05_bit.d)
def r05_double.l4.step (again : List UInt8 → Nat → Nat → Int → Int → Nat → (Nat → Int) → Prop) (k0 : Nat → Nat → Nat → (Nat → Int) → Prop) (x0 : List UInt8) (x1 : Nat) (x2 : Nat) (x3 : Int) (x4 : Int) (x5 : Nat) (x6 : Nat → Int) : Prop :=
  br (leI x4 ↑(List.length x0)) (r05_at x0 x4 fun y0 => gd (leI 0 x4 && ltI x4 ↑x1) (again x0 x1 x2 (shrI IntKind.i64 (addI IntKind.i64 x3 (mulI IntKind.i64 2 y0)) 8) (addI IntKind.i64 x4 1) x5 (upd x6 (Int.toNat x4) (cvI IntKind.u8 (addI IntKind.i64 x3 (mulI IntKind.i64 2 y0)))))) (k0 x1 x2 x5 x6)
def r05_double.l4 (k0 : Nat → Nat → Nat → (Nat → Int) → Prop) : Nat → List UInt8 → Nat → Nat → Int → Int → Nat → (Nat → Int) → Prop
  | 0 => fun _ _ _ _ _ _ _ => False
  | n + 1 => r05_double.l4.step (r05_double.l4 k0 n) k0
def r05_double.l4.entry : LoopEntry := ⟨LV.mk 32 [(0, 32)] 16 0 false, 0, 34, fun vs H K => match vs, H with
  | [EV.str x0, EV.slice 0 0 x1 (some x2) 1, EV.int IntKind.i64 x3, EV.int IntKind.i64 x4], [some (EV.arr IntKind.u8 x5 x6)] => ∃ n, r05_double.l4 (fun y0 y1 y2 y3 => K (.exit 0) [EV.slice 0 0 y0 (some y1) 1] [some (EV.arr IntKind.u8 y2 y3)]) n x0 x1 x2 x3 x4 x5 x6
  | _, _ => False⟩
def r05_double.d (a0 : List UInt8) (a1 : Int) (K : List UInt8 → Prop) : Prop :=
  gd (leI 0 (addI IntKind.i64 (↑(List.length a0)) 1) && (leI (addI IntKind.i64 (↑(List.length a0)) 1) (addI IntKind.i64 (↑(List.length a0)) 1) && leI (addI IntKind.i64 (↑(List.length a0)) 1) 1099511627776)) (∃ n, r05_double.l4 (fun y0 y1 y2 y3 => r05_fit y0 y3 fun y0 => K y0) n a0 (Int.toNat (addI IntKind.i64 (↑(List.length a0)) 1)) (Int.toNat (addI IntKind.i64 (↑(List.length a0)) 1)) a1 0 (Int.toNat (addI IntKind.i64 (↑(List.length a0)) 1)) fun x => 0)
noncomputable def r05_double : List UInt8 → Int → (List UInt8 → Prop) → Prop := Classical.choose (⟨r05_double.d, rfl⟩ : ∃ f, f = r05_double.d)
theorem r05_double.is : r05_double = r05_double.d := Classical.choose_spec (⟨r05_double.d, rfl⟩ : ∃ f, f = r05_double.d)
def r05_sub.l4.step (again : List UInt8 → List UInt8 → Nat → Nat → Int → Int → Nat → (Nat → Int) → Prop) (k0 : Nat → Nat → Nat → (Nat → Int) → Prop) (x0 : List UInt8) (x1 : List UInt8) (x2 : Nat) (x3 : Nat) (x4 : Int) (x5 : Int) (x6 : Nat) (x7 : Nat → Int) : Prop :=
  br (ltI x5 ↑(List.length x0)) (r05_at x0 x5 fun y0 => r05_at x1 x5 fun y0_1 => gd (leI 0 x5 && ltI x5 ↑x2) (br (ltI (subI IntKind.i64 (subI IntKind.i64 y0 y0_1) x4) 0) (again x0 x1 x2 x3 1 (addI IntKind.i64 x5 1) x6 (upd x7 (Int.toNat x5) (cvI IntKind.u8 (subI IntKind.i64 (subI IntKind.i64 y0 y0_1) x4)))) (again x0 x1 x2 x3 0 (addI IntKind.i64 x5 1) x6 (upd x7 (Int.toNat x5) (cvI IntKind.u8 (subI IntKind.i64 (subI IntKind.i64 y0 y0_1) x4)))))) (k0 x2 x3 x6 x7)
def r05_sub.l4 (k0 : Nat → Nat → Nat → (Nat → Int) → Prop) : Nat → List UInt8 → List UInt8 → Nat → Nat → Int → Int → Nat → (Nat → Int) → Prop
  | 0 => fun _ _ _ _ _ _ _ _ => False
  | n + 1 => r05_sub.l4.step (r05_sub.l4 k0 n) k0
def r05_sub.l4.entry : LoopEntry := ⟨LV.mk 32 [(0, 32)] 16 0 false, 0, 35, fun vs H K => match vs, H with
  | [EV.str x0, EV.str x1, EV.slice 0 0 x2 (some x3) 1, EV.int IntKind.i64 x4, EV.int IntKind.i64 x5], [some (EV.arr IntKind.u8 x6 x7)] => ∃ n, r05_sub.l4 (fun y0 y1 y2 y3 => K (.exit 0) [EV.slice 0 0 y0 (some y1) 1] [some (EV.arr IntKind.u8 y2 y3)]) n x0 x1 x2 x3 x4 x5 x6 x7
  | _, _ => False⟩
def r05_sub.d (a0 : List UInt8) (a1 : List UInt8) (K : List UInt8 → Prop) : Prop :=
  gd (leI 0 ↑(List.length a0) && (leI ↑(List.length a0) ↑(List.length a0) && leI (↑(List.length a0)) 1099511627776)) (∃ n, r05_sub.l4 (fun y0 y1 y2 y3 => r05_fit y0 y3 fun y0 => K y0) n a0 a1 (Int.toNat ↑(List.length a0)) (Int.toNat ↑(List.length a0)) 0 0 (Int.toNat ↑(List.length a0)) fun x => 0)
noncomputable def r05_sub : List UInt8 → List UInt8 → (List UInt8 → Prop) → Prop := Classical.choose (⟨r05_sub.d, rfl⟩ : ∃ f, f = r05_sub.d)
theorem r05_sub.is : r05_sub = r05_sub.d := Classical.choose_spec (⟨r05_sub.d, rfl⟩ : ∃ f, f = r05_sub.d)
def r05_Div.l10.step (again : List UInt8 → List UInt8 → List UInt8 → Nat → Nat → Int → Nat → (Nat → Int) → Prop) (k0 : List UInt8 → Nat → Nat → Nat → (Nat → Int) → Prop) (x0 : List UInt8) (x1 : List UInt8) (x2 : List UInt8) (x3 : Nat) (x4 : Nat) (x5 : Int) (x6 : Nat) (x7 : Nat → Int) : Prop :=
  br (leI 0 x5) (r05_bit x0 x5 fun y0 => r05_double x2 y0 fun y0 => r05_Cmp y0 x1 fun y0_1 => br (leI 0 y0_1) (r05_sub y0 x1 fun y0 => gd (leI 0 (quoI IntKind.i64 x5 8) && ltI (quoI IntKind.i64 x5 8) ↑x3) (gd (!ltI (cvI IntKind.u64 (remI IntKind.i64 x5 8)) 0) (gd (leI 0 (quoI IntKind.i64 x5 8) && ltI (quoI IntKind.i64 x5 8) ↑x3) (again x0 x1 y0 x3 x4 (subI IntKind.i64 x5 1) x6 (upd x7 (Int.toNat (quoI IntKind.i64 x5 8)) (orI IntKind.u8 (x7 (Int.toNat (quoI IntKind.i64 x5 8))) (shlI IntKind.u8 1 (cvI IntKind.u64 (remI IntKind.i64 x5 8))))))))) (again x0 x1 y0 x3 x4 (subI IntKind.i64 x5 1) x6 x7)) (k0 x2 x3 x4 x6 x7)
def r05_Div.l10 (k0 : List UInt8 → Nat → Nat → Nat → (Nat → Int) → Prop) : Nat → List UInt8 → List UInt8 → List UInt8 → Nat → Nat → Int → Nat → (Nat → Int) → Prop
  | 0 => fun _ _ _ _ _ _ _ _ => False
  | n + 1 => r05_Div.l10.step (r05_Div.l10 k0 n) k0
def r05_Div.l10.entry : LoopEntry := ⟨LV.mk 4608 [(0, 4608)] 112 0 false, 0, 76, fun vs H K => match vs, H with
  | [EV.str x0, EV.str x1, EV.str x2, EV.slice 0 0 x3 (some x4) 1, EV.int IntKind.i64 x5], [some (EV.arr IntKind.u8 x6 x7)] => ∃ n, r05_Div.l10 (fun y0 y1 y2 y3 y4 => K (.exit 0) [EV.str y0, EV.slice 0 0 y1 (some y2) 1] [some (EV.arr IntKind.u8 y3 y4)]) n x0 x1 x2 x3 x4 x5 x6 x7
  | _, _ => False⟩
def r05_Div.d (a0 : List UInt8) (a1 : List UInt8) (K : List UInt8 → List UInt8 → Int → Prop) : Prop :=
  br (eqS a1 []) (K [] [] 2) (r05_Cmp a0 a1 fun y0 => br (ltI y0 0) (K [] a0 0) (r05_Len a0 fun y0 => r05_Len a1 fun y0_1 => r05_Right a0 (subI IntKind.i64 y0 (subI IntKind.i64 y0_1 1)) fun y0_2 y1 y2 => gd (leI 0 (addI IntKind.i64 (↑(List.length a0)) 1) && (leI (addI IntKind.i64 (↑(List.length a0)) 1) (addI IntKind.i64 (↑(List.length a0)) 1) && leI (addI IntKind.i64 (↑(List.length a0)) 1) 1099511627776)) (∃ n, r05_Div.l10 (fun y0 y1 y2 y3 y4 => r05_fit y1 y4 fun y0_3 => K y0_3 y0 0) n a0 a1 y0_2 (Int.toNat (addI IntKind.i64 (↑(List.length a0)) 1)) (Int.toNat (addI IntKind.i64 (↑(List.length a0)) 1)) (subI IntKind.i64 (subI IntKind.i64 y0 (subI IntKind.i64 y0_1 1)) 1) (Int.toNat (addI IntKind.i64 (↑(List.length a0)) 1)) fun x => 0)))
noncomputable def r05_Div : List UInt8 → List UInt8 → (List UInt8 → List UInt8 → Int → Prop) → Prop := Classical.choose (⟨r05_Div.d, rfl⟩ : ∃ f, f = r05_Div.d)
theorem r05_Div.is : r05_Div = r05_Div.d := Classical.choose_spec (⟨r05_Div.d, rfl⟩ : ∃ f, f = r05_Div.d)
def r05_Gcd.l1.step (again : List UInt8 → List UInt8 → Prop) (k0 : List UInt8 → Prop) (x0 : List UInt8) (x1 : List UInt8) : Prop :=
  br (!eqS x1 []) (r05_Div x0 x1 fun y0 y1 y2 => again x1 y1) (k0 x0)
def r05_Gcd.l1 (k0 : List UInt8 → Prop) : Nat → List UInt8 → List UInt8 → Prop
  | 0 => fun _ _ => False
  | n + 1 => r05_Gcd.l1.step (r05_Gcd.l1 k0 n) k0
def r05_Gcd.l1.entry : LoopEntry := ⟨LV.mk 1 [(0, 1)] 16 0 false, 0, 20, fun vs H K => match vs, H with
  | [EV.str x0, EV.str x1], [] => ∃ n, r05_Gcd.l1 (fun y0 => K (.exit 0) [EV.str y0] []) n x0 x1
  | _, _ => False⟩
def r05_Gcd.d (a0 : List UInt8) (a1 : List UInt8) (K : List UInt8 → Prop) : Prop :=
  ∃ n, r05_Gcd.l1 (fun y0 => K y0) n a0 a1
noncomputable def r05_Gcd : List UInt8 → List UInt8 → (List UInt8 → Prop) → Prop := Classical.choose (⟨r05_Gcd.d, rfl⟩ : ∃ f, f = r05_Gcd.d)
theorem r05_Gcd.is : r05_Gcd = r05_Gcd.d := Classical.choose_spec (⟨r05_Gcd.d, rfl⟩ : ∃ f, f = r05_Gcd.d)
def r05_Left.l9.step (again : List UInt8 → Int → Nat → Nat → Int → Nat → (Nat → Int) → Prop) (k0 : Nat → Nat → Nat → (Nat → Int) → Prop) (x0 : List UInt8) (x1 : Int) (x2 : Nat) (x3 : Nat) (x4 : Int) (x5 : Nat) (x6 : Nat → Int) : Prop :=
  br (ltI x4 ↑(List.length x0)) (r05_at x0 x4 fun y0 => gd (!ltI (cvI IntKind.u64 (remI IntKind.i64 x1 8)) 0) (gd (leI 0 (addI IntKind.i64 x4 (quoI IntKind.i64 x1 8)) && ltI (addI IntKind.i64 x4 (quoI IntKind.i64 x1 8)) ↑x2) (gd (leI 0 (addI IntKind.i64 x4 (quoI IntKind.i64 x1 8)) && ltI (addI IntKind.i64 x4 (quoI IntKind.i64 x1 8)) ↑x2) (gd (leI 0 (addI IntKind.i64 (addI IntKind.i64 x4 (quoI IntKind.i64 x1 8)) 1) && ltI (addI IntKind.i64 (addI IntKind.i64 x4 (quoI IntKind.i64 x1 8)) 1) ↑x2) (again x0 x1 x2 x3 (addI IntKind.i64 x4 1) x5 (upd (upd x6 (Int.toNat (addI IntKind.i64 x4 (quoI IntKind.i64 x1 8))) (orI IntKind.u8 (x6 (Int.toNat (addI IntKind.i64 x4 (quoI IntKind.i64 x1 8)))) (cvI IntKind.u8 (shlI IntKind.i64 y0 (cvI IntKind.u64 (remI IntKind.i64 x1 8)))))) (Int.toNat (addI IntKind.i64 (addI IntKind.i64 x4 (quoI IntKind.i64 x1 8)) 1)) (cvI IntKind.u8 (shrI IntKind.i64 (shlI IntKind.i64 y0 (cvI IntKind.u64 (remI IntKind.i64 x1 8))) 8)))))))) (k0 x2 x3 x5 x6)
def r05_Left.l9 (k0 : Nat → Nat → Nat → (Nat → Int) → Prop) : Nat → List UInt8 → Int → Nat → Nat → Int → Nat → (Nat → Int) → Prop
  | 0 => fun _ _ _ _ _ _ _ => False
  | n + 1 => r05_Left.l9.step (r05_Left.l9 k0 n) k0
def r05_Left.l9.entry : LoopEntry := ⟨LV.mk 64 [(0, 64)] 48 0 false, 0, 70, fun vs H K => match vs, H with
  | [EV.str x0, EV.int IntKind.i64 x1, EV.slice 0 0 x2 (some x3) 1, EV.int IntKind.i64 x4], [some (EV.arr IntKind.u8 x5 x6)] => ∃ n, r05_Left.l9 (fun y0 y1 y2 y3 => K (.exit 0) [EV.slice 0 0 y0 (some y1) 1] [some (EV.arr IntKind.u8 y2 y3)]) n x0 x1 x2 x3 x4 x5 x6
  | _, _ => False⟩
def r05_Left.d (a0 : List UInt8) (a1 : Int) (K : List UInt8 → Int → Prop) : Prop :=
  br (ltI a1 0) (K [] 2) (br (eqS a0 []) (K [] 0) (br (ltI 131072 a1) (K [] 4) (r05_Len a0 fun y0 => br (ltI 131072 (addI IntKind.i64 y0 a1)) (K [] 4) (gd (leI 0 (addI IntKind.i64 (addI IntKind.i64 (↑(List.length a0)) (quoI IntKind.i64 a1 8)) 1) && (leI (addI IntKind.i64 (addI IntKind.i64 (↑(List.length a0)) (quoI IntKind.i64 a1 8)) 1) (addI IntKind.i64 (addI IntKind.i64 (↑(List.length a0)) (quoI IntKind.i64 a1 8)) 1) && leI (addI IntKind.i64 (addI IntKind.i64 (↑(List.length a0)) (quoI IntKind.i64 a1 8)) 1) 1099511627776)) (∃ n, r05_Left.l9 (fun y0 y1 y2 y3 => r05_fit y0 y3 fun y0 => K y0 0) n a0 a1 (Int.toNat (addI IntKind.i64 (addI IntKind.i64 (↑(List.length a0)) (quoI IntKind.i64 a1 8)) 1)) (Int.toNat (addI IntKind.i64 (addI IntKind.i64 (↑(List.length a0)) (quoI IntKind.i64 a1 8)) 1)) 0 (Int.toNat (addI IntKind.i64 (addI IntKind.i64 (↑(List.length a0)) (quoI IntKind.i64 a1 8)) 1)) fun x => 0)))))
noncomputable def r05_Left : List UInt8 → Int → (List UInt8 → Int → Prop) → Prop := Classical.choose (⟨r05_Left.d, rfl⟩ : ∃ f, f = r05_Left.d)
theorem r05_Left.is : r05_Left = r05_Left.d := Classical.choose_spec (⟨r05_Left.d, rfl⟩ : ∃ f, f = r05_Left.d)
def r05_Of.l3.step (again : Int → Int → (Nat → Int) → Prop) (k0 : (Nat → Int) → Prop) (x0 : Int) (x1 : Int) (x2 : Nat → Int) : Prop :=
  br (ltI x1 8) (gd (!ltI (cvI IntKind.u64 (mulI IntKind.i64 8 x1)) 0) (gd (leI 0 x1 && ltI x1 8) (again x0 (addI IntKind.i64 x1 1) (upd x2 (Int.toNat x1) (cvI IntKind.u8 (shrI IntKind.u64 x0 (cvI IntKind.u64 (mulI IntKind.i64 8 x1)))))))) (k0 x2)
def r05_Of.l3 (k0 : (Nat → Int) → Prop) : Nat → Int → Int → (Nat → Int) → Prop
  | 0 => fun _ _ _ => False
  | n + 1 => r05_Of.l3.step (r05_Of.l3 k0 n) k0
def r05_Of.l3.entry : LoopEntry := ⟨LV.mk 8 [(0, 8)] 4 0 false, 0, 21, fun vs H K => match vs, H with
  | [EV.int IntKind.u64 x0, EV.slice 0 0 8 (some 8) 1, EV.int IntKind.i64 x1], [some (EV.arr IntKind.u8 8 x2)] => ∃ n, r05_Of.l3 (fun y0 => K (.exit 0) [EV.slice 0 0 8 (some 8) 1] [some (EV.arr IntKind.u8 8 y0)]) n x0 x1 x2
  | _, _ => False⟩
def r05_Of.d (a0 : Int) (K : List UInt8 → Prop) : Prop :=
  ∃ n, r05_Of.l3 (fun y0 => r05_fit 8 y0 fun y0 => K y0) n a0 0 fun x => 0
noncomputable def r05_Of : Int → (List UInt8 → Prop) → Prop := Classical.choose (⟨r05_Of.d, rfl⟩ : ∃ f, f = r05_Of.d)
theorem r05_Of.is : r05_Of = r05_Of.d := Classical.choose_spec (⟨r05_Of.d, rfl⟩ : ∃ f, f = r05_Of.d)
def r05_OfWide.l3.step (again : Int → (Nat → Int) → (Nat → Int) → Prop) (k0 : (Nat → Int) → Prop) (x0 : Int) (x1 : Nat → Int) (x2 : Nat → Int) : Prop :=
  br (ltI x0 48) (gd (leI 0 (quoI IntKind.i64 x0 8) && ltI (quoI IntKind.i64 x0 8) 6) (gd (!ltI (cvI IntKind.u64 (mulI IntKind.i64 8 (remI IntKind.i64 x0 8))) 0) (gd (leI 0 x0 && ltI x0 48) (again (addI IntKind.i64 x0 1) x1 (upd x2 (Int.toNat x0) (cvI IntKind.u8 (shrI IntKind.u64 (x1 (Int.toNat (quoI IntKind.i64 x0 8))) (cvI IntKind.u64 (mulI IntKind.i64 8 (remI IntKind.i64 x0 8)))))))))) (k0 x2)
def r05_OfWide.l3 (k0 : (Nat → Int) → Prop) : Nat → Int → (Nat → Int) → (Nat → Int) → Prop
  | 0 => fun _ _ _ => False
  | n + 1 => r05_OfWide.l3.step (r05_OfWide.l3 k0 n) k0
def r05_OfWide.l3.entry : LoopEntry := ⟨LV.mk 8 [(0, 8)] 4 0 false, 0, 25, fun vs H K => match vs, H with
  | [EV.ptr 0 [], EV.slice 1 0 48 (some 48) 1, EV.int IntKind.i64 x0], [some (EV.arr IntKind.u64 6 x1), some (EV.arr IntKind.u8 48 x2)] => ∃ n, r05_OfWide.l3 (fun y0 => K (.exit 0) [EV.slice 0 0 48 (some 48) 1] [some (EV.arr IntKind.u8 48 y0)]) n x0 x1 x2
  | _, _ => False⟩
def r05_OfWide.d (a0 : Nat → Int) (K : List UInt8 → Prop) : Prop :=
  ∃ n, r05_OfWide.l3 (fun y0 => r05_fit 48 y0 fun y0 => K y0) n 0 a0 fun x => 0
noncomputable def r05_OfWide : (Nat → Int) → (List UInt8 → Prop) → Prop := Classical.choose (⟨r05_OfWide.d, rfl⟩ : ∃ f, f = r05_OfWide.d)
theorem r05_OfWide.is : r05_OfWide = r05_OfWide.d := Classical.choose_spec (⟨r05_OfWide.d, rfl⟩ : ∃ f, f = r05_OfWide.d)
def r05_Sqrt.l4.step (again : List UInt8 → List UInt8 → List UInt8 → Int → Prop) (k0 : List UInt8 → List UInt8 → Prop) (x0 : List UInt8) (x1 : List UInt8) (x2 : List UInt8) (x3 : Int) : Prop :=
  br (leI 0 x3) (r05_bit x0 (addI IntKind.i64 (mulI IntKind.i64 2 x3) 1) fun y0 => r05_double x2 y0 fun y0 => r05_bit x0 (mulI IntKind.i64 2 x3) fun y0_1 => r05_double y0 y0_1 fun y0 => r05_double x1 0 fun y0_2 => r05_double y0_2 1 fun y0_3 => r05_double x1 0 fun y0_4 => r05_Cmp y0 y0_3 fun y0_5 => br (leI 0 y0_5) (r05_sub y0 y0_3 fun y0 => r05_Of 1 fun y0_6 => r05_add y0_4 y0_6 fun y0_7 => again x0 y0_7 y0 (subI IntKind.i64 x3 1)) (again x0 y0_4 y0 (subI IntKind.i64 x3 1))) (k0 x1 x2)
def r05_Sqrt.l4 (k0 : List UInt8 → List UInt8 → Prop) : Nat → List UInt8 → List UInt8 → List UInt8 → Int → Prop
  | 0 => fun _ _ _ _ => False
  | n + 1 => r05_Sqrt.l4.step (r05_Sqrt.l4 k0 n) k0
def r05_Sqrt.l4.entry : LoopEntry := ⟨LV.mk 48 [(0, 48)] 12 0 false, 0, 45, fun vs H K => match vs, H with
  | [EV.str x0, EV.str x1, EV.str x2, EV.int IntKind.i64 x3], [] => ∃ n, r05_Sqrt.l4 (fun y0 y1 => K (.exit 0) [EV.str y0, EV.str y1] []) n x0 x1 x2 x3
  | _, _ => False⟩
def r05_Sqrt.d (a0 : List UInt8) (K : List UInt8 → List UInt8 → Prop) : Prop :=
  r05_Len a0 fun y0 => ∃ n, r05_Sqrt.l4 (fun y0 y1 => K y0 y1) n a0 [] [] (quoI IntKind.i64 (addI IntKind.i64 y0 1) 2)
noncomputable def r05_Sqrt : List UInt8 → (List UInt8 → List UInt8 → Prop) → Prop := Classical.choose (⟨r05_Sqrt.d, rfl⟩ : ∃ f, f = r05_Sqrt.d)
theorem r05_Sqrt.is : r05_Sqrt = r05_Sqrt.d := Classical.choose_spec (⟨r05_Sqrt.d, rfl⟩ : ∃ f, f = r05_Sqrt.d)
def r05_ToWide.l5.step (again : List UInt8 → Int → (Nat → Int) → (Nat → Int) → Prop) (k0 : (Nat → Int) → (Nat → Int) → Prop) (x0 : List UInt8) (x1 : Int) (x2 : Nat → Int) (x3 : Nat → Int) : Prop :=
  br (ltI x1 ↑(List.length x0)) (gd (leI 0 (quoI IntKind.i64 x1 8) && ltI (quoI IntKind.i64 x1 8) 6) (r05_at x0 x1 fun y0 => gd (!ltI (cvI IntKind.u64 (mulI IntKind.i64 8 (remI IntKind.i64 x1 8))) 0) (gd (leI 0 (quoI IntKind.i64 x1 8) && ltI (quoI IntKind.i64 x1 8) 6) (again x0 (addI IntKind.i64 x1 1) x2 (upd x3 (Int.toNat (quoI IntKind.i64 x1 8)) (orI IntKind.u64 (x3 (Int.toNat (quoI IntKind.i64 x1 8))) (shlI IntKind.u64 (cvI IntKind.u64 y0) (cvI IntKind.u64 (mulI IntKind.i64 8 (remI IntKind.i64 x1 8)))))))))) (k0 x2 x3)
def r05_ToWide.l5 (k0 : (Nat → Int) → (Nat → Int) → Prop) : Nat → List UInt8 → Int → (Nat → Int) → (Nat → Int) → Prop
  | 0 => fun _ _ _ _ => False
  | n + 1 => r05_ToWide.l5.step (r05_ToWide.l5 k0 n) k0
def r05_ToWide.l5.entry : LoopEntry := ⟨LV.mk 20 [(0, 20)] 12 0 false, 0, 39, fun vs H K => match vs, H with
  | [EV.str x0, EV.ptr 0 [], EV.ptr 1 [], EV.int IntKind.i64 x1], [some (EV.arr IntKind.u64 6 x2), some (EV.arr IntKind.u64 6 x3)] => ∃ n, r05_ToWide.l5 (fun y0 y1 => K (.exit 0) [EV.ptr 0 [], EV.ptr 1 []] [some (EV.arr IntKind.u64 6 y0), some (EV.arr IntKind.u64 6 y1)]) n x0 x1 x2 x3
  | _, _ => False⟩
def r05_ToWide.d (a0 : List UInt8) (K : (Nat → Int) → Bool → Prop) : Prop :=
  r05_May a0 fun y0 => br (!y0) (K (fun x => 0) false) (br (ltI 48 ↑(List.length a0)) (K (fun x => 0) false) (∃ n, r05_ToWide.l5 (fun y0 y1 => K y1 true) n a0 0 (fun x => 0) fun x => 0))
noncomputable def r05_ToWide : List UInt8 → ((Nat → Int) → Bool → Prop) → Prop := Classical.choose (⟨r05_ToWide.d, rfl⟩ : ∃ f, f = r05_ToWide.d)
theorem r05_ToWide.is : r05_ToWide = r05_ToWide.d := Classical.choose_spec (⟨r05_ToWide.d, rfl⟩ : ∃ f, f = r05_ToWide.d)
end Go.Ev.S

/- The functions as the evaluator has them: what each comes to. -/
set_option maxRecDepth 100000
set_option linter.unusedVariables false
set_option linter.unusedSimpArgs false
namespace Go.Ev.S
open Go Go.Ev
def r06_Null.d (K : Bool → List UInt8 → List UInt8 → Int → Prop) : Prop :=
  K false [] [1] 0
noncomputable def r06_Null : (Bool → List UInt8 → List UInt8 → Int → Prop) → Prop := Classical.choose (⟨r06_Null.d, rfl⟩ : ∃ f, f = r06_Null.d)
theorem r06_Null.is : r06_Null = r06_Null.d := Classical.choose_spec (⟨r06_Null.d, rfl⟩ : ∃ f, f = r06_Null.d)
def r06_odd.d (a0 : List UInt8) (K : Bool → Prop) : Prop :=
  br (!eqS a0 []) (gd (leI 0 (subI IntKind.i64 (↑(List.length a0)) 1) && ltI (subI IntKind.i64 (↑(List.length a0)) 1) ↑(List.length a0)) (K (eqI (andI IntKind.u8 (byteAt a0 (Int.toNat (subI IntKind.i64 (↑(List.length a0)) 1))) 1) 1))) (K false)
noncomputable def r06_odd : List UInt8 → (Bool → Prop) → Prop := Classical.choose (⟨r06_odd.d, rfl⟩ : ∃ f, f = r06_odd.d)
theorem r06_odd.is : r06_odd = r06_odd.d := Classical.choose_spec (⟨r06_odd.d, rfl⟩ : ∃ f, f = r06_odd.d)
def r06_May.d (a0_0 : Bool) (a0_1 : List UInt8) (a0_2 : List UInt8) (a0_3 : Int) (K : Bool → Prop) : Prop :=
  r05_May a0_1 fun y0 => br (!y0) (K false) (r05_May a0_2 fun y0 => br (!y0) (K false) (r06_odd a0_2 fun y0 => br (!y0) (K false) (br (ltI a0_3 (-1048576)) (K false) (br (ltI 1048576 a0_3) (K false) (br (eqS a0_1 []) (r06_Null fun y0 y1 y2 y3 => K (beqB a0_0 y0 && (eqS a0_1 y1 && (eqS a0_2 y2 && eqI a0_3 y3)))) (r06_odd a0_1 fun y0 => br y0 (r05_Gcd a0_1 a0_2 fun y0 => K (eqS y0 [1])) (K false)))))))
noncomputable def r06_May : Bool → List UInt8 → List UInt8 → Int → (Bool → Prop) → Prop := Classical.choose (⟨r06_May.d, rfl⟩ : ∃ f, f = r06_May.d)
theorem r06_May.is : r06_May = r06_May.d := Classical.choose_spec (⟨r06_May.d, rfl⟩ : ∃ f, f = r06_May.d)
def r06_Make.d (a0 : Bool) (a1 : List UInt8) (a2 : List UInt8) (a3 : Int) (K : Bool → List UInt8 → List UInt8 → Int → Int → Prop) : Prop :=
  r05_May a1 fun y0 => br (!y0) (K false [] [] 0 2) (r05_May a2 fun y0 => br (!y0) (K false [] [] 0 2) (br (eqS a2 []) (K false [] [] 0 2) (br (ltI a3 (-1048576)) (K false [] [] 0 2) (br (ltI 1048576 a3) (K false [] [] 0 2) (br (eqS a1 []) (r06_Null fun y0 y1 y2 y3 => K y0 y1 y2 y3 0) (r05_Low a1 fun y0 => r05_Low a2 fun y0_1 => r05_Right a1 y0 fun y0_2 y1 y2 => r05_Right a2 y0_1 fun y0_3 y1 y2 => r05_Gcd y0_2 y0_3 fun y0_4 => br (!eqS y0_4 [1]) (r05_Div y0_2 y0_4 fun y0_5 y1 y2 => r05_Div y0_3 y0_4 fun y0_6 y1 y2 => br (ltI (subI IntKind.i64 (addI IntKind.i64 a3 y0) y0_1) (-1048576)) (K false [] [] 0 4) (br (ltI 1048576 (subI IntKind.i64 (addI IntKind.i64 a3 y0) y0_1)) (K false [] [] 0 4) (K a0 y0_5 y0_6 (subI IntKind.i64 (addI IntKind.i64 a3 y0) y0_1) 0))) (br (ltI (subI IntKind.i64 (addI IntKind.i64 a3 y0) y0_1) (-1048576)) (K false [] [] 0 4) (br (ltI 1048576 (subI IntKind.i64 (addI IntKind.i64 a3 y0) y0_1)) (K false [] [] 0 4) (K a0 y0_2 y0_3 (subI IntKind.i64 (addI IntKind.i64 a3 y0) y0_1) 0)))))))))
noncomputable def r06_Make : Bool → List UInt8 → List UInt8 → Int → (Bool → List UInt8 → List UInt8 → Int → Int → Prop) → Prop := Classical.choose (⟨r06_Make.d, rfl⟩ : ∃ f, f = r06_Make.d)
theorem r06_Make.is : r06_Make = r06_Make.d := Classical.choose_spec (⟨r06_Make.d, rfl⟩ : ∃ f, f = r06_Make.d)
def r06_shifted.d (a0 : List UInt8) (a1 : Int) (K : List UInt8 → Prop) : Prop :=
  r05_Left a0 a1 fun y0 y1 => K y0
noncomputable def r06_shifted : List UInt8 → Int → (List UInt8 → Prop) → Prop := Classical.choose (⟨r06_shifted.d, rfl⟩ : ∃ f, f = r06_shifted.d)
theorem r06_shifted.is : r06_shifted = r06_shifted.d := Classical.choose_spec (⟨r06_shifted.d, rfl⟩ : ∃ f, f = r06_shifted.d)
def r06_Top.d (a0_0 : Bool) (a0_1 : List UInt8) (a0_2 : List UInt8) (a0_3 : Int) (K : Int → Int → Prop) : Prop :=
  br (eqS a0_1 []) (K 0 2) (r05_Len a0_1 fun y0 => r05_Len a0_2 fun y0_1 => br (leI 0 (subI IntKind.i64 y0 y0_1)) (r06_shifted a0_2 (subI IntKind.i64 y0 y0_1) fun y0_2 => r05_Cmp a0_1 y0_2 fun y0_3 => br (!leI 0 y0_3) (K (addI IntKind.i64 (subI IntKind.i64 (subI IntKind.i64 y0 y0_1) 1) a0_3) 0) (K (addI IntKind.i64 (subI IntKind.i64 y0 y0_1) a0_3) 0)) (r06_shifted a0_1 (negI IntKind.i64 (subI IntKind.i64 y0 y0_1)) fun y0_2 => r05_Cmp y0_2 a0_2 fun y0_3 => br (!leI 0 y0_3) (K (addI IntKind.i64 (subI IntKind.i64 (subI IntKind.i64 y0 y0_1) 1) a0_3) 0) (K (addI IntKind.i64 (subI IntKind.i64 y0 y0_1) a0_3) 0)))
noncomputable def r06_Top : Bool → List UInt8 → List UInt8 → Int → (Int → Int → Prop) → Prop := Classical.choose (⟨r06_Top.d, rfl⟩ : ∃ f, f = r06_Top.d)
theorem r06_Top.is : r06_Top = r06_Top.d := Classical.choose_spec (⟨r06_Top.d, rfl⟩ : ∃ f, f = r06_Top.d)
def r06_Floor.d (a0_0 : Bool) (a0_1 : List UInt8) (a0_2 : List UInt8) (a0_3 : Int) (a1 : Int) (K : List UInt8 → Bool → Int → Prop) : Prop :=
  br (ltI a1 (-2097152)) (K [] false 2) (br (ltI 2097152 a1) (K [] false 2) (br (eqS a0_1 []) (K [] true 0) (br (leI a1 a0_3) (r05_Left a0_1 (subI IntKind.i64 a0_3 a1) fun y0 y1 => br (!eqI y1 0) (K [] false 4) (r05_Div y0 a0_2 fun y0 y1 y2 => K y0 (eqS y1 []) 0)) (r06_Top a0_0 a0_1 a0_2 a0_3 fun y0 y1 => br (ltI y0 a1) (K [] false 0) (r05_Left a0_2 (subI IntKind.i64 a1 a0_3) fun y0 y1 => r05_Div a0_1 y0 fun y0 y1 y2 => K y0 (eqS y1 []) 0)))))
noncomputable def r06_Floor : Bool → List UInt8 → List UInt8 → Int → Int → (List UInt8 → Bool → Int → Prop) → Prop := Classical.choose (⟨r06_Floor.d, rfl⟩ : ∃ f, f = r06_Floor.d)
theorem r06_Floor.is : r06_Floor = r06_Floor.d := Classical.choose_spec (⟨r06_Floor.d, rfl⟩ : ∃ f, f = r06_Floor.d)
end Go.Ev.S

/- The functions as the evaluator has them: what each comes to. -/
set_option maxRecDepth 100000
set_option linter.unusedVariables false
set_option linter.unusedSimpArgs false
namespace Go.Ev.S
open Go Go.Ev
def r07_Precision.d (a0 : Int) (K : Int → Prop) : Prop :=
  br (eqI a0 2) (K 11) (br (eqI a0 0) (K 24) (br (eqI a0 1) (K 53) (br (eqI a0 3) (K 113) (K 0))))
noncomputable def r07_Precision : Int → (Int → Prop) → Prop := Classical.choose (⟨r07_Precision.d, rfl⟩ : ∃ f, f = r07_Precision.d)
theorem r07_Precision.is : r07_Precision = r07_Precision.d := Classical.choose_spec (⟨r07_Precision.d, rfl⟩ : ∃ f, f = r07_Precision.d)
def r07_Right.d (a0 : Int) (K : Bool → Prop) : Prop :=
  K (leI a0 3)
noncomputable def r07_Right : Int → (Bool → Prop) → Prop := Classical.choose (⟨r07_Right.d, rfl⟩ : ∃ f, f = r07_Right.d)
theorem r07_Right.is : r07_Right = r07_Right.d := Classical.choose_spec (⟨r07_Right.d, rfl⟩ : ∃ f, f = r07_Right.d)
def r07_Width.d (a0 : Int) (K : Int → Prop) : Prop :=
  br (eqI a0 2) (K 16) (br (eqI a0 0) (K 32) (br (eqI a0 1) (K 64) (br (eqI a0 3) (K 128) (K 0))))
noncomputable def r07_Width : Int → (Int → Prop) → Prop := Classical.choose (⟨r07_Width.d, rfl⟩ : ∃ f, f = r07_Width.d)
theorem r07_Width.is : r07_Width = r07_Width.d := Classical.choose_spec (⟨r07_Width.d, rfl⟩ : ∃ f, f = r07_Width.d)
def r07_Build.d (a0 : Int) (a1 : Bool) (a2 : Int) (a3 : Nat → Int) (K : Int → Int → Prop) : Prop :=
  r07_Right a0 fun y0 => br (!y0) (K 0 0) (r02_Of (cvI IntKind.u64 a2) fun y0 => r07_Precision a0 fun y0_1 => r02_Left y0 (subI IntKind.i64 y0_1 1) fun y0 y1 => r02_Add y0 a3 fun y0 y1 => br a1 (r02_Of 1 fun y0_2 => r07_Width a0 fun y0_3 => r02_Left y0_2 (subI IntKind.i64 y0_3 1) fun y0_4 y1 => r02_Add y0 y0_4 fun y0 y1 => r02_ToBits y0 fun y0 y1 y2 => K y0 y1) (r02_ToBits y0 fun y0 y1 y2 => K y0 y1))
noncomputable def r07_Build : Int → Bool → Int → (Nat → Int) → (Int → Int → Prop) → Prop := Classical.choose (⟨r07_Build.d, rfl⟩ : ∃ f, f = r07_Build.d)
theorem r07_Build.is : r07_Build = r07_Build.d := Classical.choose_spec (⟨r07_Build.d, rfl⟩ : ∃ f, f = r07_Build.d)
def r07_Emax.d (a0 : Int) (K : Int → Prop) : Prop :=
  br (eqI a0 2) (K 15) (br (eqI a0 0) (K 127) (br (eqI a0 1) (K 1023) (br (eqI a0 3) (K 16383) (K 0))))
noncomputable def r07_Emax : Int → (Int → Prop) → Prop := Classical.choose (⟨r07_Emax.d, rfl⟩ : ∃ f, f = r07_Emax.d)
theorem r07_Emax.is : r07_Emax = r07_Emax.d := Classical.choose_spec (⟨r07_Emax.d, rfl⟩ : ∃ f, f = r07_Emax.d)
def r07_Emin.d (a0 : Int) (K : Int → Prop) : Prop :=
  r07_Right a0 fun y0 => br (!y0) (K 0) (r07_Emax a0 fun y0 => K (subI IntKind.i64 1 y0))
noncomputable def r07_Emin : Int → (Int → Prop) → Prop := Classical.choose (⟨r07_Emin.d, rfl⟩ : ∃ f, f = r07_Emin.d)
theorem r07_Emin.is : r07_Emin = r07_Emin.d := Classical.choose_spec (⟨r07_Emin.d, rfl⟩ : ∃ f, f = r07_Emin.d)
def r07_Ones.d (a0 : Int) (K : Int → Prop) : Prop :=
  r07_Emax a0 fun y0 => K (addI IntKind.i64 (mulI IntKind.i64 2 y0) 1)
noncomputable def r07_Ones : Int → (Int → Prop) → Prop := Classical.choose (⟨r07_Ones.d, rfl⟩ : ∃ f, f = r07_Ones.d)
theorem r07_Ones.is : r07_Ones = r07_Ones.d := Classical.choose_spec (⟨r07_Ones.d, rfl⟩ : ∃ f, f = r07_Ones.d)
def r07_Greatest.d (a0 : Int) (a1 : Bool) (K : Int → Int → Prop) : Prop :=
  r07_Ones a0 fun y0 => r07_Precision a0 fun y0_1 => r02_Mask (subI IntKind.i64 y0_1 1) fun y0_2 => r07_Build a0 a1 (subI IntKind.i64 y0 1) y0_2 fun y0 y1 => K y0 y1
noncomputable def r07_Greatest : Int → Bool → (Int → Int → Prop) → Prop := Classical.choose (⟨r07_Greatest.d, rfl⟩ : ∃ f, f = r07_Greatest.d)
theorem r07_Greatest.is : r07_Greatest = r07_Greatest.d := Classical.choose_spec (⟨r07_Greatest.d, rfl⟩ : ∃ f, f = r07_Greatest.d)
def r07_Inf.d (a0 : Int) (a1 : Bool) (K : Int → Int → Prop) : Prop :=
  r07_Ones a0 fun y0 => r07_Build a0 a1 y0 (fun x => 0) fun y0 y1 => K y0 y1
noncomputable def r07_Inf : Int → Bool → (Int → Int → Prop) → Prop := Classical.choose (⟨r07_Inf.d, rfl⟩ : ∃ f, f = r07_Inf.d)
theorem r07_Inf.is : r07_Inf = r07_Inf.d := Classical.choose_spec (⟨r07_Inf.d, rfl⟩ : ∃ f, f = r07_Inf.d)
def r07_RightMode.d (a0 : Int) (K : Bool → Prop) : Prop :=
  K (leI a0 4)
noncomputable def r07_RightMode : Int → (Bool → Prop) → Prop := Classical.choose (⟨r07_RightMode.d, rfl⟩ : ∃ f, f = r07_RightMode.d)
theorem r07_RightMode.is : r07_RightMode = r07_RightMode.d := Classical.choose_spec (⟨r07_RightMode.d, rfl⟩ : ∃ f, f = r07_RightMode.d)
def r07_Zero.d (a0 : Int) (a1 : Bool) (K : Int → Int → Prop) : Prop :=
  r07_Build a0 a1 0 (fun x => 0) fun y0 y1 => K y0 y1
noncomputable def r07_Zero : Int → Bool → (Int → Int → Prop) → Prop := Classical.choose (⟨r07_Zero.d, rfl⟩ : ∃ f, f = r07_Zero.d)
theorem r07_Zero.is : r07_Zero = r07_Zero.d := Classical.choose_spec (⟨r07_Zero.d, rfl⟩ : ∃ f, f = r07_Zero.d)
end Go.Ev.S

/- The functions as the evaluator has them: what each comes to. -/
set_option maxRecDepth 100000
set_option linter.unusedVariables false
set_option linter.unusedSimpArgs false
namespace Go.Ev.S
open Go Go.Ev
def r08_Of.d (a0 : Int) (a1_0 : Bool) (a1_1 : List UInt8) (a1_2 : List UInt8) (a1_3 : Int) (K : Int → Int → Bool → Prop) : Prop :=
  br (eqS a1_1 []) (K 0 0 true) (r07_Precision a0 fun y0 => r06_Top a1_0 a1_1 a1_2 a1_3 fun y0_1 y1 => br (!eqS a1_2 [1]) (K 0 0 false) (r07_Emax a0 fun y0_2 => br (ltI y0_2 y0_1) (K 0 0 false) (r07_Emin a0 fun y0_3 => br (ltI y0_1 y0_3) (r07_Emin a0 fun y0_4 => br (ltI a1_3 (addI IntKind.i64 (subI IntKind.i64 y0_4 y0) 1)) (K 0 0 false) (r06_Floor a1_0 a1_1 a1_2 a1_3 (addI IntKind.i64 (subI IntKind.i64 y0_4 y0) 1) fun y0_5 y1 y2 => r05_ToWide y0_5 fun y0_6 y1 => r02_Len y0_6 fun y0_7 => br (ltI y0_7 y0) (r07_Build a0 a1_0 0 y0_6 fun y0 y1 => K y0 y1 true) (r02_Mask (subI IntKind.i64 y0 1) fun y0_8 => r02_And y0_6 y0_8 fun y0_9 => r07_Emin a0 fun y0_10 => r07_Build a0 a1_0 (addI IntKind.i64 (subI IntKind.i64 (addI IntKind.i64 (subI IntKind.i64 y0_4 y0) 1) y0_10) y0) y0_9 fun y0 y1 => K y0 y1 true))) (br (ltI a1_3 (addI IntKind.i64 (subI IntKind.i64 y0_1 y0) 1)) (K 0 0 false) (r06_Floor a1_0 a1_1 a1_2 a1_3 (addI IntKind.i64 (subI IntKind.i64 y0_1 y0) 1) fun y0_4 y1 y2 => r05_ToWide y0_4 fun y0_5 y1 => r02_Len y0_5 fun y0_6 => br (ltI y0_6 y0) (r07_Build a0 a1_0 0 y0_5 fun y0 y1 => K y0 y1 true) (r02_Mask (subI IntKind.i64 y0 1) fun y0_7 => r02_And y0_5 y0_7 fun y0_8 => r07_Emin a0 fun y0_9 => r07_Build a0 a1_0 (addI IntKind.i64 (subI IntKind.i64 (addI IntKind.i64 (subI IntKind.i64 y0_1 y0) 1) y0_9) y0) y0_8 fun y0 y1 => K y0 y1 true))))))
noncomputable def r08_Of : Int → Bool → List UInt8 → List UInt8 → Int → (Int → Int → Bool → Prop) → Prop := Classical.choose (⟨r08_Of.d, rfl⟩ : ∃ f, f = r08_Of.d)
theorem r08_Of.is : r08_Of = r08_Of.d := Classical.choose_spec (⟨r08_Of.d, rfl⟩ : ∃ f, f = r08_Of.d)
end Go.Ev.S

/- The functions as the evaluator has them: what each comes to. -/
set_option maxRecDepth 100000
set_option linter.unusedVariables false
set_option linter.unusedSimpArgs false
namespace Go.Ev.S
open Go Go.Ev
def r09_Fault.d (a0 : Int) (a1 : Int) (a2_0 : Bool) (a2_1 : List UInt8) (a2_2 : List UInt8) (a2_3 : Int) (K : Int → Prop) : Prop :=
  r07_Right a0 fun y0 => br (!y0) (K 2) (r07_RightMode a1 fun y0 => br (!y0) (K 2) (r06_May a2_0 a2_1 a2_2 a2_3 fun y0 => br (!y0) (K 2) (br (ltI 8192 ↑(List.length a2_1)) (K 4) (br (ltI 8192 ↑(List.length a2_2)) (K 4) (K 0)))))
noncomputable def r09_Fault : Int → Int → Bool → List UInt8 → List UInt8 → Int → (Int → Prop) → Prop := Classical.choose (⟨r09_Fault.d, rfl⟩ : ∃ f, f = r09_Fault.d)
theorem r09_Fault.is : r09_Fault = r09_Fault.d := Classical.choose_spec (⟨r09_Fault.d, rfl⟩ : ∃ f, f = r09_Fault.d)
def r09_Over.d (a0 : Int) (a1 : Int) (a2 : Bool) (K : Int → Int → Prop) : Prop :=
  br (eqI a1 1) (r07_Greatest a0 a2 fun y0 y1 => K y0 y1) (br (eqI a1 2) (br (!a2) (r07_Greatest a0 a2 fun y0 y1 => K y0 y1) (br (eqI a1 3) (br a2 (r07_Greatest a0 a2 fun y0 y1 => K y0 y1) (r07_Inf a0 a2 fun y0 y1 => K y0 y1)) (r07_Inf a0 a2 fun y0 y1 => K y0 y1))) (br (eqI a1 3) (br a2 (r07_Greatest a0 a2 fun y0 y1 => K y0 y1) (r07_Inf a0 a2 fun y0 y1 => K y0 y1)) (r07_Inf a0 a2 fun y0 y1 => K y0 y1)))
noncomputable def r09_Over : Int → Int → Bool → (Int → Int → Prop) → Prop := Classical.choose (⟨r09_Over.d, rfl⟩ : ∃ f, f = r09_Over.d)
theorem r09_Over.is : r09_Over = r09_Over.d := Classical.choose_spec (⟨r09_Over.d, rfl⟩ : ∃ f, f = r09_Over.d)
def r09_last.d (a0 : List UInt8) (K : Bool → Prop) : Prop :=
  br (!eqS a0 []) (gd (leI 0 (subI IntKind.i64 (↑(List.length a0)) 1) && ltI (subI IntKind.i64 (↑(List.length a0)) 1) ↑(List.length a0)) (K (eqI (andI IntKind.u8 (byteAt a0 (Int.toNat (subI IntKind.i64 (↑(List.length a0)) 1))) 1) 1))) (K false)
noncomputable def r09_last : List UInt8 → (Bool → Prop) → Prop := Classical.choose (⟨r09_last.d, rfl⟩ : ∃ f, f = r09_last.d)
theorem r09_last.is : r09_last = r09_last.d := Classical.choose_spec (⟨r09_last.d, rfl⟩ : ∃ f, f = r09_last.d)
def r09_find.d (a0_0 : Bool) (a0_1 : List UInt8) (a0_2 : List UInt8) (a0_3 : Int) (a1 : Bool) (a2 : Int) (K : List UInt8 → Int → Int → Bool → Prop) : Prop :=
  br (!a1) (r06_Floor a0_0 a0_1 a0_2 a0_3 a2 fun y0 y1 y2 => br y1 (K y0 a2 (-1) y1) (r06_Floor a0_0 a0_1 a0_2 a0_3 (subI IntKind.i64 a2 1) fun y0_1 y1_1 y2 => r09_last y0_1 fun y0_2 => br y0_2 (br y1_1 (K y0 a2 0 y1) (K y0 a2 1 y1)) (K y0 a2 (-1) y1))) (r06_Floor a0_0 a0_1 a0_2 a0_3 (mulI IntKind.i64 2 a2) fun y0 y1 y2 => r05_Sqrt y0 fun y0 y1_1 => br y1 (br (eqS y1_1 []) (K y0 a2 (-1) (eqS y1_1 [])) (r06_Floor a0_0 a0_1 a0_2 a0_3 (subI IntKind.i64 (mulI IntKind.i64 2 a2) 2) fun y0_1 y1 y2 => r05_Sqrt y0_1 fun y0_2 y1_2 => r09_last y0_2 fun y0_3 => br y0_3 (br y1 (br (eqS y1_2 []) (K y0 a2 0 (eqS y1_1 [])) (K y0 a2 1 (eqS y1_1 []))) (K y0 a2 1 (eqS y1_1 []))) (K y0 a2 (-1) (eqS y1_1 [])))) (r06_Floor a0_0 a0_1 a0_2 a0_3 (subI IntKind.i64 (mulI IntKind.i64 2 a2) 2) fun y0_1 y1 y2 => r05_Sqrt y0_1 fun y0_2 y1_2 => r09_last y0_2 fun y0_3 => br y0_3 (br y1 (br (eqS y1_2 []) (K y0 a2 0 false) (K y0 a2 1 false)) (K y0 a2 1 false)) (K y0 a2 (-1) false)))
noncomputable def r09_find : Bool → List UInt8 → List UInt8 → Int → Bool → Int → (List UInt8 → Int → Int → Bool → Prop) → Prop := Classical.choose (⟨r09_find.d, rfl⟩ : ∃ f, f = r09_find.d)
theorem r09_find.is : r09_find = r09_find.d := Classical.choose_spec (⟨r09_find.d, rfl⟩ : ∃ f, f = r09_find.d)
def r09_up.d (a0 : Int) (a1 : Bool) (a2_0 : List UInt8) (a2_1 : Int) (a2_2 : Int) (a2_3 : Bool) (K : Bool → Prop) : Prop :=
  br a2_3 (K false) (br (eqI a0 2) (K a1) (br (eqI a0 3) (K !a1) (br (eqI a0 0) (br (ltI 0 a2_2) (K true) (br (eqI a2_2 0) (r09_last a2_0 fun y0 => K y0) (K false))) (br (eqI a0 4) (K (leI 0 a2_2)) (K false)))))
noncomputable def r09_up : Int → Bool → List UInt8 → Int → Int → Bool → (Bool → Prop) → Prop := Classical.choose (⟨r09_up.d, rfl⟩ : ∃ f, f = r09_up.d)
theorem r09_up.is : r09_up = r09_up.d := Classical.choose_spec (⟨r09_up.d, rfl⟩ : ∃ f, f = r09_up.d)
def r09_taken.d (a0 : Int) (a1 : Bool) (a2_0 : List UInt8) (a2_1 : Int) (a2_2 : Int) (a2_3 : Bool) (K : List UInt8 → Prop) : Prop :=
  r09_up a0 a1 a2_0 a2_1 a2_2 a2_3 fun y0 => br (!y0) (K a2_0) (r05_Add a2_0 [1] fun y0 y1 => K y0)
noncomputable def r09_taken : Int → Bool → List UInt8 → Int → Int → Bool → (List UInt8 → Prop) → Prop := Classical.choose (⟨r09_taken.d, rfl⟩ : ∃ f, f = r09_taken.d)
theorem r09_taken.is : r09_taken = r09_taken.d := Classical.choose_spec (⟨r09_taken.d, rfl⟩ : ∃ f, f = r09_taken.d)
def r09_top.d (a0_0 : Bool) (a0_1 : List UInt8) (a0_2 : List UInt8) (a0_3 : Int) (a1 : Bool) (K : Int → Prop) : Prop :=
  r06_Top a0_0 a0_1 a0_2 a0_3 fun y0 y1 => br a1 (br (ltI y0 0) (br (!eqI (remI IntKind.i64 y0 2) 0) (K (subI IntKind.i64 (quoI IntKind.i64 y0 2) 1)) (K (quoI IntKind.i64 y0 2))) (K (quoI IntKind.i64 y0 2))) (K y0)
noncomputable def r09_top : Bool → List UInt8 → List UInt8 → Int → Bool → (Int → Prop) → Prop := Classical.choose (⟨r09_top.d, rfl⟩ : ∃ f, f = r09_top.d)
theorem r09_top.is : r09_top = r09_top.d := Classical.choose_spec (⟨r09_top.d, rfl⟩ : ∃ f, f = r09_top.d)
def r09_tiny.d (a0 : Int) (a1 : Int) (a2_0 : Bool) (a2_1 : List UInt8) (a2_2 : List UInt8) (a2_3 : Int) (a3 : Bool) (K : Bool → Prop) : Prop :=
  r09_top a2_0 a2_1 a2_2 a2_3 a3 fun y0 => r07_Emin a0 fun y0_1 => br (leI y0_1 y0) (K false) (br (ltI y0 (subI IntKind.i64 y0_1 1)) (K true) (r07_Precision a0 fun y0_2 => r09_find a2_0 a2_1 a2_2 a2_3 a3 (addI IntKind.i64 (subI IntKind.i64 y0 y0_2) 1) fun y0 y1 y2 y3 => r09_taken a1 a2_0 y0 y1 y2 y3 fun y0 => r05_Len y0 fun y0 => r07_Precision a0 fun y0_3 => K (leI y0 y0_3)))
noncomputable def r09_tiny : Int → Int → Bool → List UInt8 → List UInt8 → Int → Bool → (Bool → Prop) → Prop := Classical.choose (⟨r09_tiny.d, rfl⟩ : ∃ f, f = r09_tiny.d)
theorem r09_tiny.is : r09_tiny = r09_tiny.d := Classical.choose_spec (⟨r09_tiny.d, rfl⟩ : ∃ f, f = r09_tiny.d)
def r09_deliver.d (a0 : Int) (a1 : Int) (a2_0 : Bool) (a2_1 : List UInt8) (a2_2 : List UInt8) (a2_3 : Int) (a3 : Bool) (K : Int → Int → Int → Prop) : Prop :=
  r09_top a2_0 a2_1 a2_2 a2_3 a3 fun y0 => r07_Precision a0 fun y0_1 => r07_Emax a0 fun y0_2 => br (ltI y0_2 y0) (r09_Over a0 a1 a2_0 fun y0 y1 => K y0 y1 5) (r07_Emin a0 fun y0_3 => br (ltI y0 y0_3) (r07_Emin a0 fun y0 => r09_find a2_0 a2_1 a2_2 a2_3 a3 (addI IntKind.i64 (subI IntKind.i64 y0 y0_1) 1) fun y0 y1 y2 y3 => r09_taken a1 a2_0 y0 y1 y2 y3 fun y0 => r06_Make a2_0 y0 [1] y1 fun y0 y1 y2 y3_1 y4 => br (eqS y1 []) (r07_Zero a0 a2_0 fun y0 y1 => K y0 y1 3) (r08_Of a0 y0 y1 y2 y3_1 fun y0 y1 y2 => br (!y2) (r09_Over a0 a1 a2_0 fun y0 y1 => K y0 y1 5) (br y3 (K y0 y1 0) (r09_tiny a0 a1 a2_0 a2_1 a2_2 a2_3 a3 fun y0_4 => br y0_4 (K y0 y1 3) (K y0 y1 1))))) (r09_find a2_0 a2_1 a2_2 a2_3 a3 (addI IntKind.i64 (subI IntKind.i64 y0 y0_1) 1) fun y0 y1 y2 y3 => r09_taken a1 a2_0 y0 y1 y2 y3 fun y0 => r06_Make a2_0 y0 [1] y1 fun y0 y1 y2 y3_1 y4 => br (eqS y1 []) (r07_Zero a0 a2_0 fun y0 y1 => K y0 y1 3) (r08_Of a0 y0 y1 y2 y3_1 fun y0 y1 y2 => br (!y2) (r09_Over a0 a1 a2_0 fun y0 y1 => K y0 y1 5) (br y3 (K y0 y1 0) (r09_tiny a0 a1 a2_0 a2_1 a2_2 a2_3 a3 fun y0_4 => br y0_4 (K y0 y1 3) (K y0 y1 1))))))
noncomputable def r09_deliver : Int → Int → Bool → List UInt8 → List UInt8 → Int → Bool → (Int → Int → Int → Prop) → Prop := Classical.choose (⟨r09_deliver.d, rfl⟩ : ∃ f, f = r09_deliver.d)
theorem r09_deliver.is : r09_deliver = r09_deliver.d := Classical.choose_spec (⟨r09_deliver.d, rfl⟩ : ∃ f, f = r09_deliver.d)
def r09_Round.d (a0 : Int) (a1 : Int) (a2_0 : Bool) (a2_1 : List UInt8) (a2_2 : List UInt8) (a2_3 : Int) (K : Int → Int → Int → Int → Prop) : Prop :=
  r09_Fault a0 a1 a2_0 a2_1 a2_2 a2_3 fun y0 => br (!eqI y0 0) (K 0 0 0 y0) (br (eqS a2_1 []) (K 0 0 0 y0) (r09_deliver a0 a1 a2_0 a2_1 a2_2 a2_3 false fun y0 y1 y2 => K y0 y1 y2 0))
noncomputable def r09_Round : Int → Int → Bool → List UInt8 → List UInt8 → Int → (Int → Int → Int → Int → Prop) → Prop := Classical.choose (⟨r09_Round.d, rfl⟩ : ∃ f, f = r09_Round.d)
theorem r09_Round.is : r09_Round = r09_Round.d := Classical.choose_spec (⟨r09_Round.d, rfl⟩ : ∃ f, f = r09_Round.d)
end Go.Ev.S

/- The functions as the evaluator has them: what each comes to. -/
set_option maxRecDepth 100000
set_option linter.unusedVariables false
set_option linter.unusedSimpArgs false
namespace Go.Ev.S
open Go Go.Ev
def r10_May.d (a0 : Int) (a1_0 : Bool) (a1_1 : Nat → Int) (a1_2 : Int) (a1_3 : Bool) (K : Bool → Prop) : Prop :=
  br (leI (-1048576) a1_2) (br (leI a1_2 1048576) (br (!a1_3) (K true) (r02_Len a1_1 fun y0 => r07_Precision a0 fun y0_1 => K (leI (addI IntKind.i64 y0_1 2) y0))) (K false)) (K false)
noncomputable def r10_May : Int → Bool → (Nat → Int) → Int → Bool → (Bool → Prop) → Prop := Classical.choose (⟨r10_May.d, rfl⟩ : ∃ f, f = r10_May.d)
theorem r10_May.is : r10_May = r10_May.d := Classical.choose_spec (⟨r10_May.d, rfl⟩ : ∃ f, f = r10_May.d)
def r10_Value.d (a0_0 : Bool) (a0_1 : Nat → Int) (a0_2 : Int) (a0_3 : Bool) (K : Bool → List UInt8 → List UInt8 → Int → Bool → Prop) : Prop :=
  r05_OfWide a0_1 fun y0 => br (!a0_3) (r06_Make a0_0 y0 [1] a0_2 fun y0 y1 y2 y3 y4 => K y0 y1 y2 y3 (eqI y4 0)) (r05_Left y0 1 fun y0 y1 => r05_Add y0 [1] fun y0 y1 => r06_Make a0_0 y0 [2] a0_2 fun y0 y1 y2 y3 y4 => K y0 y1 y2 y3 (eqI y4 0))
noncomputable def r10_Value : Bool → (Nat → Int) → Int → Bool → (Bool → List UInt8 → List UInt8 → Int → Bool → Prop) → Prop := Classical.choose (⟨r10_Value.d, rfl⟩ : ∃ f, f = r10_Value.d)
theorem r10_Value.is : r10_Value = r10_Value.d := Classical.choose_spec (⟨r10_Value.d, rfl⟩ : ∃ f, f = r10_Value.d)
def r10_Pack.d (a0 : Int) (a1 : Int) (a2_0 : Bool) (a2_1 : Nat → Int) (a2_2 : Int) (a2_3 : Bool) (K : Int → Int → Int → Int → Prop) : Prop :=
  r07_Right a0 fun y0 => br (!y0) (K 0 0 0 2) (r07_RightMode a1 fun y0 => br (!y0) (K 0 0 0 2) (r10_May a0 a2_0 a2_1 a2_2 a2_3 fun y0 => br (!y0) (K 0 0 0 2) (br (eqN 6 a2_1 fun x => 0) (r07_Zero a0 a2_0 fun y0 y1 => K y0 y1 0 0) (br (ltI 20000 a2_2) (r10_Value a2_0 a2_1 20000 a2_3 fun y0 y1 y2 y3 y4 => r09_Round a0 a1 y0 y1 y2 y3 fun y0 y1 y2 y3 => K y0 y1 y2 y3) (br (ltI a2_2 (-20000)) (r10_Value a2_0 a2_1 (-20000) a2_3 fun y0 y1 y2 y3 y4 => r09_Round a0 a1 y0 y1 y2 y3 fun y0 y1 y2 y3 => K y0 y1 y2 y3) (r10_Value a2_0 a2_1 a2_2 a2_3 fun y0 y1 y2 y3 y4 => r09_Round a0 a1 y0 y1 y2 y3 fun y0 y1 y2 y3 => K y0 y1 y2 y3))))))
noncomputable def r10_Pack : Int → Int → Bool → (Nat → Int) → Int → Bool → (Int → Int → Int → Int → Prop) → Prop := Classical.choose (⟨r10_Pack.d, rfl⟩ : ∃ f, f = r10_Pack.d)
theorem r10_Pack.is : r10_Pack = r10_Pack.d := Classical.choose_spec (⟨r10_Pack.d, rfl⟩ : ∃ f, f = r10_Pack.d)
end Go.Ev.S

/- The functions as the evaluator has them: what each comes to. -/
set_option maxRecDepth 100000
set_option linter.unusedVariables false
set_option linter.unusedSimpArgs false
namespace Go.Ev.S
open Go Go.Ev
def bits_Len64.d (a0 : Int) (K : Int → Prop) : Prop :=
  br (leI 4294967296 a0) (br (leI 65536 (shrI IntKind.u64 a0 32)) (br (leI 256 (shrI IntKind.u64 (shrI IntKind.u64 a0 32) 16)) (gd (leI 0 (cvI IntKind.u8 (shrI IntKind.u64 (shrI IntKind.u64 (shrI IntKind.u64 a0 32) 16) 8)) && ltI (cvI IntKind.u8 (shrI IntKind.u64 (shrI IntKind.u64 (shrI IntKind.u64 a0 32) 16) 8)) 256) (K (addI IntKind.i64 56 (cvI IntKind.i64 (byteAt [0, 1, 2, 2, 3, 3, 3, 3, 4, 4, 4, 4, 4, 4, 4, 4, 5, 5, 5, 5, 5, 5, 5, 5, 5, 5, 5, 5, 5, 5, 5, 5, 6, 6, 6, 6, 6, 6, 6, 6, 6, 6, 6, 6, 6, 6, 6, 6, 6, 6, 6, 6, 6, 6, 6, 6, 6, 6, 6, 6, 6, 6, 6, 6, 7, 7, 7, 7, 7, 7, 7, 7, 7, 7, 7, 7, 7, 7, 7, 7, 7, 7, 7, 7, 7, 7, 7, 7, 7, 7, 7, 7, 7, 7, 7, 7, 7, 7, 7, 7, 7, 7, 7, 7, 7, 7, 7, 7, 7, 7, 7, 7, 7, 7, 7, 7, 7, 7, 7, 7, 7, 7, 7, 7, 7, 7, 7, 7, 8, 8, 8, 8, 8, 8, 8, 8, 8, 8, 8, 8, 8, 8, 8, 8, 8, 8, 8, 8, 8, 8, 8, 8, 8, 8, 8, 8, 8, 8, 8, 8, 8, 8, 8, 8, 8, 8, 8, 8, 8, 8, 8, 8, 8, 8, 8, 8, 8, 8, 8, 8, 8, 8, 8, 8, 8, 8, 8, 8, 8, 8, 8, 8, 8, 8, 8, 8, 8, 8, 8, 8, 8, 8, 8, 8, 8, 8, 8, 8, 8, 8, 8, 8, 8, 8, 8, 8, 8, 8, 8, 8, 8, 8, 8, 8, 8, 8, 8, 8, 8, 8, 8, 8, 8, 8, 8, 8, 8, 8, 8, 8, 8, 8, 8, 8, 8, 8, 8, 8, 8, 8, 8, 8, 8, 8, 8, 8] (Int.toNat (cvI IntKind.u8 (shrI IntKind.u64 (shrI IntKind.u64 (shrI IntKind.u64 a0 32) 16) 8)))))))) (gd (leI 0 (cvI IntKind.u8 (shrI IntKind.u64 (shrI IntKind.u64 a0 32) 16)) && ltI (cvI IntKind.u8 (shrI IntKind.u64 (shrI IntKind.u64 a0 32) 16)) 256) (K (addI IntKind.i64 48 (cvI IntKind.i64 (byteAt [0, 1, 2, 2, 3, 3, 3, 3, 4, 4, 4, 4, 4, 4, 4, 4, 5, 5, 5, 5, 5, 5, 5, 5, 5, 5, 5, 5, 5, 5, 5, 5, 6, 6, 6, 6, 6, 6, 6, 6, 6, 6, 6, 6, 6, 6, 6, 6, 6, 6, 6, 6, 6, 6, 6, 6, 6, 6, 6, 6, 6, 6, 6, 6, 7, 7, 7, 7, 7, 7, 7, 7, 7, 7, 7, 7, 7, 7, 7, 7, 7, 7, 7, 7, 7, 7, 7, 7, 7, 7, 7, 7, 7, 7, 7, 7, 7, 7, 7, 7, 7, 7, 7, 7, 7, 7, 7, 7, 7, 7, 7, 7, 7, 7, 7, 7, 7, 7, 7, 7, 7, 7, 7, 7, 7, 7, 7, 7, 8, 8, 8, 8, 8, 8, 8, 8, 8, 8, 8, 8, 8, 8, 8, 8, 8, 8, 8, 8, 8, 8, 8, 8, 8, 8, 8, 8, 8, 8, 8, 8, 8, 8, 8, 8, 8, 8, 8, 8, 8, 8, 8, 8, 8, 8, 8, 8, 8, 8, 8, 8, 8, 8, 8, 8, 8, 8, 8, 8, 8, 8, 8, 8, 8, 8, 8, 8, 8, 8, 8, 8, 8, 8, 8, 8, 8, 8, 8, 8, 8, 8, 8, 8, 8, 8, 8, 8, 8, 8, 8, 8, 8, 8, 8, 8, 8, 8, 8, 8, 8, 8, 8, 8, 8, 8, 8, 8, 8, 8, 8, 8, 8, 8, 8, 8, 8, 8, 8, 8, 8, 8, 8, 8, 8, 8, 8, 8] (Int.toNat (cvI IntKind.u8 (shrI IntKind.u64 (shrI IntKind.u64 a0 32) 16))))))))) (br (leI 256 (shrI IntKind.u64 a0 32)) (gd (leI 0 (cvI IntKind.u8 (shrI IntKind.u64 (shrI IntKind.u64 a0 32) 8)) && ltI (cvI IntKind.u8 (shrI IntKind.u64 (shrI IntKind.u64 a0 32) 8)) 256) (K (addI IntKind.i64 40 (cvI IntKind.i64 (byteAt [0, 1, 2, 2, 3, 3, 3, 3, 4, 4, 4, 4, 4, 4, 4, 4, 5, 5, 5, 5, 5, 5, 5, 5, 5, 5, 5, 5, 5, 5, 5, 5, 6, 6, 6, 6, 6, 6, 6, 6, 6, 6, 6, 6, 6, 6, 6, 6, 6, 6, 6, 6, 6, 6, 6, 6, 6, 6, 6, 6, 6, 6, 6, 6, 7, 7, 7, 7, 7, 7, 7, 7, 7, 7, 7, 7, 7, 7, 7, 7, 7, 7, 7, 7, 7, 7, 7, 7, 7, 7, 7, 7, 7, 7, 7, 7, 7, 7, 7, 7, 7, 7, 7, 7, 7, 7, 7, 7, 7, 7, 7, 7, 7, 7, 7, 7, 7, 7, 7, 7, 7, 7, 7, 7, 7, 7, 7, 7, 8, 8, 8, 8, 8, 8, 8, 8, 8, 8, 8, 8, 8, 8, 8, 8, 8, 8, 8, 8, 8, 8, 8, 8, 8, 8, 8, 8, 8, 8, 8, 8, 8, 8, 8, 8, 8, 8, 8, 8, 8, 8, 8, 8, 8, 8, 8, 8, 8, 8, 8, 8, 8, 8, 8, 8, 8, 8, 8, 8, 8, 8, 8, 8, 8, 8, 8, 8, 8, 8, 8, 8, 8, 8, 8, 8, 8, 8, 8, 8, 8, 8, 8, 8, 8, 8, 8, 8, 8, 8, 8, 8, 8, 8, 8, 8, 8, 8, 8, 8, 8, 8, 8, 8, 8, 8, 8, 8, 8, 8, 8, 8, 8, 8, 8, 8, 8, 8, 8, 8, 8, 8, 8, 8, 8, 8, 8, 8] (Int.toNat (cvI IntKind.u8 (shrI IntKind.u64 (shrI IntKind.u64 a0 32) 8)))))))) (gd (leI 0 (cvI IntKind.u8 (shrI IntKind.u64 a0 32)) && ltI (cvI IntKind.u8 (shrI IntKind.u64 a0 32)) 256) (K (addI IntKind.i64 32 (cvI IntKind.i64 (byteAt [0, 1, 2, 2, 3, 3, 3, 3, 4, 4, 4, 4, 4, 4, 4, 4, 5, 5, 5, 5, 5, 5, 5, 5, 5, 5, 5, 5, 5, 5, 5, 5, 6, 6, 6, 6, 6, 6, 6, 6, 6, 6, 6, 6, 6, 6, 6, 6, 6, 6, 6, 6, 6, 6, 6, 6, 6, 6, 6, 6, 6, 6, 6, 6, 7, 7, 7, 7, 7, 7, 7, 7, 7, 7, 7, 7, 7, 7, 7, 7, 7, 7, 7, 7, 7, 7, 7, 7, 7, 7, 7, 7, 7, 7, 7, 7, 7, 7, 7, 7, 7, 7, 7, 7, 7, 7, 7, 7, 7, 7, 7, 7, 7, 7, 7, 7, 7, 7, 7, 7, 7, 7, 7, 7, 7, 7, 7, 7, 8, 8, 8, 8, 8, 8, 8, 8, 8, 8, 8, 8, 8, 8, 8, 8, 8, 8, 8, 8, 8, 8, 8, 8, 8, 8, 8, 8, 8, 8, 8, 8, 8, 8, 8, 8, 8, 8, 8, 8, 8, 8, 8, 8, 8, 8, 8, 8, 8, 8, 8, 8, 8, 8, 8, 8, 8, 8, 8, 8, 8, 8, 8, 8, 8, 8, 8, 8, 8, 8, 8, 8, 8, 8, 8, 8, 8, 8, 8, 8, 8, 8, 8, 8, 8, 8, 8, 8, 8, 8, 8, 8, 8, 8, 8, 8, 8, 8, 8, 8, 8, 8, 8, 8, 8, 8, 8, 8, 8, 8, 8, 8, 8, 8, 8, 8, 8, 8, 8, 8, 8, 8, 8, 8, 8, 8, 8, 8] (Int.toNat (cvI IntKind.u8 (shrI IntKind.u64 a0 32)))))))))) (br (leI 65536 a0) (br (leI 256 (shrI IntKind.u64 a0 16)) (gd (leI 0 (cvI IntKind.u8 (shrI IntKind.u64 (shrI IntKind.u64 a0 16) 8)) && ltI (cvI IntKind.u8 (shrI IntKind.u64 (shrI IntKind.u64 a0 16) 8)) 256) (K (addI IntKind.i64 24 (cvI IntKind.i64 (byteAt [0, 1, 2, 2, 3, 3, 3, 3, 4, 4, 4, 4, 4, 4, 4, 4, 5, 5, 5, 5, 5, 5, 5, 5, 5, 5, 5, 5, 5, 5, 5, 5, 6, 6, 6, 6, 6, 6, 6, 6, 6, 6, 6, 6, 6, 6, 6, 6, 6, 6, 6, 6, 6, 6, 6, 6, 6, 6, 6, 6, 6, 6, 6, 6, 7, 7, 7, 7, 7, 7, 7, 7, 7, 7, 7, 7, 7, 7, 7, 7, 7, 7, 7, 7, 7, 7, 7, 7, 7, 7, 7, 7, 7, 7, 7, 7, 7, 7, 7, 7, 7, 7, 7, 7, 7, 7, 7, 7, 7, 7, 7, 7, 7, 7, 7, 7, 7, 7, 7, 7, 7, 7, 7, 7, 7, 7, 7, 7, 8, 8, 8, 8, 8, 8, 8, 8, 8, 8, 8, 8, 8, 8, 8, 8, 8, 8, 8, 8, 8, 8, 8, 8, 8, 8, 8, 8, 8, 8, 8, 8, 8, 8, 8, 8, 8, 8, 8, 8, 8, 8, 8, 8, 8, 8, 8, 8, 8, 8, 8, 8, 8, 8, 8, 8, 8, 8, 8, 8, 8, 8, 8, 8, 8, 8, 8, 8, 8, 8, 8, 8, 8, 8, 8, 8, 8, 8, 8, 8, 8, 8, 8, 8, 8, 8, 8, 8, 8, 8, 8, 8, 8, 8, 8, 8, 8, 8, 8, 8, 8, 8, 8, 8, 8, 8, 8, 8, 8, 8, 8, 8, 8, 8, 8, 8, 8, 8, 8, 8, 8, 8, 8, 8, 8, 8, 8, 8] (Int.toNat (cvI IntKind.u8 (shrI IntKind.u64 (shrI IntKind.u64 a0 16) 8)))))))) (gd (leI 0 (cvI IntKind.u8 (shrI IntKind.u64 a0 16)) && ltI (cvI IntKind.u8 (shrI IntKind.u64 a0 16)) 256) (K (addI IntKind.i64 16 (cvI IntKind.i64 (byteAt [0, 1, 2, 2, 3, 3, 3, 3, 4, 4, 4, 4, 4, 4, 4, 4, 5, 5, 5, 5, 5, 5, 5, 5, 5, 5, 5, 5, 5, 5, 5, 5, 6, 6, 6, 6, 6, 6, 6, 6, 6, 6, 6, 6, 6, 6, 6, 6, 6, 6, 6, 6, 6, 6, 6, 6, 6, 6, 6, 6, 6, 6, 6, 6, 7, 7, 7, 7, 7, 7, 7, 7, 7, 7, 7, 7, 7, 7, 7, 7, 7, 7, 7, 7, 7, 7, 7, 7, 7, 7, 7, 7, 7, 7, 7, 7, 7, 7, 7, 7, 7, 7, 7, 7, 7, 7, 7, 7, 7, 7, 7, 7, 7, 7, 7, 7, 7, 7, 7, 7, 7, 7, 7, 7, 7, 7, 7, 7, 8, 8, 8, 8, 8, 8, 8, 8, 8, 8, 8, 8, 8, 8, 8, 8, 8, 8, 8, 8, 8, 8, 8, 8, 8, 8, 8, 8, 8, 8, 8, 8, 8, 8, 8, 8, 8, 8, 8, 8, 8, 8, 8, 8, 8, 8, 8, 8, 8, 8, 8, 8, 8, 8, 8, 8, 8, 8, 8, 8, 8, 8, 8, 8, 8, 8, 8, 8, 8, 8, 8, 8, 8, 8, 8, 8, 8, 8, 8, 8, 8, 8, 8, 8, 8, 8, 8, 8, 8, 8, 8, 8, 8, 8, 8, 8, 8, 8, 8, 8, 8, 8, 8, 8, 8, 8, 8, 8, 8, 8, 8, 8, 8, 8, 8, 8, 8, 8, 8, 8, 8, 8, 8, 8, 8, 8, 8, 8] (Int.toNat (cvI IntKind.u8 (shrI IntKind.u64 a0 16))))))))) (br (leI 256 a0) (gd (leI 0 (cvI IntKind.u8 (shrI IntKind.u64 a0 8)) && ltI (cvI IntKind.u8 (shrI IntKind.u64 a0 8)) 256) (K (addI IntKind.i64 8 (cvI IntKind.i64 (byteAt [0, 1, 2, 2, 3, 3, 3, 3, 4, 4, 4, 4, 4, 4, 4, 4, 5, 5, 5, 5, 5, 5, 5, 5, 5, 5, 5, 5, 5, 5, 5, 5, 6, 6, 6, 6, 6, 6, 6, 6, 6, 6, 6, 6, 6, 6, 6, 6, 6, 6, 6, 6, 6, 6, 6, 6, 6, 6, 6, 6, 6, 6, 6, 6, 7, 7, 7, 7, 7, 7, 7, 7, 7, 7, 7, 7, 7, 7, 7, 7, 7, 7, 7, 7, 7, 7, 7, 7, 7, 7, 7, 7, 7, 7, 7, 7, 7, 7, 7, 7, 7, 7, 7, 7, 7, 7, 7, 7, 7, 7, 7, 7, 7, 7, 7, 7, 7, 7, 7, 7, 7, 7, 7, 7, 7, 7, 7, 7, 8, 8, 8, 8, 8, 8, 8, 8, 8, 8, 8, 8, 8, 8, 8, 8, 8, 8, 8, 8, 8, 8, 8, 8, 8, 8, 8, 8, 8, 8, 8, 8, 8, 8, 8, 8, 8, 8, 8, 8, 8, 8, 8, 8, 8, 8, 8, 8, 8, 8, 8, 8, 8, 8, 8, 8, 8, 8, 8, 8, 8, 8, 8, 8, 8, 8, 8, 8, 8, 8, 8, 8, 8, 8, 8, 8, 8, 8, 8, 8, 8, 8, 8, 8, 8, 8, 8, 8, 8, 8, 8, 8, 8, 8, 8, 8, 8, 8, 8, 8, 8, 8, 8, 8, 8, 8, 8, 8, 8, 8, 8, 8, 8, 8, 8, 8, 8, 8, 8, 8, 8, 8, 8, 8, 8, 8, 8, 8] (Int.toNat (cvI IntKind.u8 (shrI IntKind.u64 a0 8)))))))) (gd (leI 0 (cvI IntKind.u8 a0) && ltI (cvI IntKind.u8 a0) 256) (K (addI IntKind.i64 0 (cvI IntKind.i64 (byteAt [0, 1, 2, 2, 3, 3, 3, 3, 4, 4, 4, 4, 4, 4, 4, 4, 5, 5, 5, 5, 5, 5, 5, 5, 5, 5, 5, 5, 5, 5, 5, 5, 6, 6, 6, 6, 6, 6, 6, 6, 6, 6, 6, 6, 6, 6, 6, 6, 6, 6, 6, 6, 6, 6, 6, 6, 6, 6, 6, 6, 6, 6, 6, 6, 7, 7, 7, 7, 7, 7, 7, 7, 7, 7, 7, 7, 7, 7, 7, 7, 7, 7, 7, 7, 7, 7, 7, 7, 7, 7, 7, 7, 7, 7, 7, 7, 7, 7, 7, 7, 7, 7, 7, 7, 7, 7, 7, 7, 7, 7, 7, 7, 7, 7, 7, 7, 7, 7, 7, 7, 7, 7, 7, 7, 7, 7, 7, 7, 8, 8, 8, 8, 8, 8, 8, 8, 8, 8, 8, 8, 8, 8, 8, 8, 8, 8, 8, 8, 8, 8, 8, 8, 8, 8, 8, 8, 8, 8, 8, 8, 8, 8, 8, 8, 8, 8, 8, 8, 8, 8, 8, 8, 8, 8, 8, 8, 8, 8, 8, 8, 8, 8, 8, 8, 8, 8, 8, 8, 8, 8, 8, 8, 8, 8, 8, 8, 8, 8, 8, 8, 8, 8, 8, 8, 8, 8, 8, 8, 8, 8, 8, 8, 8, 8, 8, 8, 8, 8, 8, 8, 8, 8, 8, 8, 8, 8, 8, 8, 8, 8, 8, 8, 8, 8, 8, 8, 8, 8, 8, 8, 8, 8, 8, 8, 8, 8, 8, 8, 8, 8, 8, 8, 8, 8, 8, 8] (Int.toNat (cvI IntKind.u8 a0)))))))))
noncomputable def bits_Len64 : Int → (Int → Prop) → Prop := Classical.choose (⟨bits_Len64.d, rfl⟩ : ∃ f, f = bits_Len64.d)
theorem bits_Len64.is : bits_Len64 = bits_Len64.d := Classical.choose_spec (⟨bits_Len64.d, rfl⟩ : ∃ f, f = bits_Len64.d)
def bits_TrailingZeros64.d (a0 : Int) (K : Int → Prop) : Prop :=
  br (eqI a0 0) (K 64) ((leI 0 (shrI IntKind.u64 (mulI IntKind.u64 (andI IntKind.u64 a0 (negI IntKind.u64 a0)) 285870213051353865) 58) && ltI (shrI IntKind.u64 (mulI IntKind.u64 (andI IntKind.u64 a0 (negI IntKind.u64 a0)) 285870213051353865) 58) 64) = true ∧ K (cvI IntKind.i64 (tab_deBruijn64tab (Int.toNat (shrI IntKind.u64 (mulI IntKind.u64 (andI IntKind.u64 a0 (negI IntKind.u64 a0)) 285870213051353865) 58)))))
noncomputable def bits_TrailingZeros64 : Int → (Int → Prop) → Prop := Classical.choose (⟨bits_TrailingZeros64.d, rfl⟩ : ∃ f, f = bits_TrailingZeros64.d)
theorem bits_TrailingZeros64.is : bits_TrailingZeros64 = bits_TrailingZeros64.d := Classical.choose_spec (⟨bits_TrailingZeros64.d, rfl⟩ : ∃ f, f = bits_TrailingZeros64.d)
end Go.Ev.S

/- The functions as the evaluator has them: what each comes to. -/
set_option maxRecDepth 100000
set_option linter.unusedVariables false
set_option linter.unusedSimpArgs false
namespace Go.Ev.S
open Go Go.Ev
def word_one.d (a0 : Bool) (K : Int → Prop) : Prop :=
  br a0 (K 1) (K 0)
noncomputable def word_one : Bool → (Int → Prop) → Prop := Classical.choose (⟨word_one.d, rfl⟩ : ∃ f, f = word_one.d)
theorem word_one.is : word_one = word_one.d := Classical.choose_spec (⟨word_one.d, rfl⟩ : ∃ f, f = word_one.d)
def word_Add.d (a0 : Int) (a1 : Int) (a2 : Bool) (K : Int → Bool → Prop) : Prop :=
  word_one a2 fun y0 => br (ltI (addI IntKind.u64 a0 a1) a0) (K (addI IntKind.u64 (addI IntKind.u64 a0 a1) y0) true) (br a2 (K (addI IntKind.u64 (addI IntKind.u64 a0 a1) y0) (eqI (addI IntKind.u64 (addI IntKind.u64 a0 a1) y0) 0)) (K (addI IntKind.u64 (addI IntKind.u64 a0 a1) y0) false))
noncomputable def word_Add : Int → Int → Bool → (Int → Bool → Prop) → Prop := Classical.choose (⟨word_Add.d, rfl⟩ : ∃ f, f = word_Add.d)
theorem word_Add.is : word_Add = word_Add.d := Classical.choose_spec (⟨word_Add.d, rfl⟩ : ∃ f, f = word_Add.d)
def word_Len.d (a0 : Int) (K : Int → Prop) : Prop :=
  bits_Len64 a0 fun y0 => K y0
noncomputable def word_Len : Int → (Int → Prop) → Prop := Classical.choose (⟨word_Len.d, rfl⟩ : ∃ f, f = word_Len.d)
theorem word_Len.is : word_Len = word_Len.d := Classical.choose_spec (⟨word_Len.d, rfl⟩ : ∃ f, f = word_Len.d)
def word_Low.d (a0 : Int) (K : Int → Prop) : Prop :=
  bits_TrailingZeros64 a0 fun y0 => K y0
noncomputable def word_Low : Int → (Int → Prop) → Prop := Classical.choose (⟨word_Low.d, rfl⟩ : ∃ f, f = word_Low.d)
theorem word_Low.is : word_Low = word_Low.d := Classical.choose_spec (⟨word_Low.d, rfl⟩ : ∃ f, f = word_Low.d)
def word_count.d (a0 : Int) (K : Int → Prop) : Prop :=
  K (cvI IntKind.u64 (minI (maxI a0 0) 64))
noncomputable def word_count : Int → (Int → Prop) → Prop := Classical.choose (⟨word_count.d, rfl⟩ : ∃ f, f = word_count.d)
theorem word_count.is : word_count = word_count.d := Classical.choose_spec (⟨word_count.d, rfl⟩ : ∃ f, f = word_count.d)
def word_Mask.d (a0 : Int) (K : Int → Prop) : Prop :=
  word_count a0 fun y0 => gd (!ltI y0 0) (K (subI IntKind.u64 (shlI IntKind.u64 1 y0) 1))
noncomputable def word_Mask : Int → (Int → Prop) → Prop := Classical.choose (⟨word_Mask.d, rfl⟩ : ∃ f, f = word_Mask.d)
theorem word_Mask.is : word_Mask = word_Mask.d := Classical.choose_spec (⟨word_Mask.d, rfl⟩ : ∃ f, f = word_Mask.d)
end Go.Ev.S

/- The functions as the evaluator has them: what each comes to. -/
set_option maxRecDepth 100000
set_option linter.unusedVariables false
set_option linter.unusedSimpArgs false
namespace Go.Ev.S
open Go Go.Ev
def wide_Add.l2.step (again : Bool → Int → (Nat → Int) → (Nat → Int) → (Nat → Int) → Prop) (k0 : Bool → (Nat → Int) → Prop) (x0 : Bool) (x1 : Int) (x2 : Nat → Int) (x3 : Nat → Int) (x4 : Nat → Int) : Prop :=
  br (ltI x1 6) (gd (leI 0 x1 && ltI x1 6) (gd (leI 0 x1 && ltI x1 6) (word_Add (x2 (Int.toNat x1)) (x3 (Int.toNat x1)) x0 fun y0 y1 => gd (leI 0 x1 && ltI x1 6) (again y1 (addI IntKind.i64 x1 1) x2 x3 (upd x4 (Int.toNat x1) y0))))) (k0 x0 x4)
def wide_Add.l2 (k0 : Bool → (Nat → Int) → Prop) : Nat → Bool → Int → (Nat → Int) → (Nat → Int) → (Nat → Int) → Prop
  | 0 => fun _ _ _ _ _ => False
  | n + 1 => wide_Add.l2.step (wide_Add.l2 k0 n) k0
def wide_Add.l2.entry : LoopEntry := ⟨LV.mk 48 [(0, 48)] 48 0 false, 0, 26, fun vs H K => match vs, H with
  | [EV.ptr 0 [], EV.ptr 1 [], EV.ptr 2 [], EV.bool x0, EV.int IntKind.i64 x1], [some (EV.arr IntKind.u64 6 x2), some (EV.arr IntKind.u64 6 x3), some (EV.arr IntKind.u64 6 x4)] => ∃ n, wide_Add.l2 (fun y0 y1 => K (.exit 0) [EV.ptr 0 [], EV.bool y0] [some (EV.arr IntKind.u64 6 y1)]) n x0 x1 x2 x3 x4
  | _, _ => False⟩
def wide_Add.d (a0 : Nat → Int) (a1 : Nat → Int) (K : (Nat → Int) → Bool → Prop) : Prop :=
  ∃ n, wide_Add.l2 (fun y0 y1 => K y1 y0) n false 0 a0 a1 fun x => 0
noncomputable def wide_Add : (Nat → Int) → (Nat → Int) → ((Nat → Int) → Bool → Prop) → Prop := Classical.choose (⟨wide_Add.d, rfl⟩ : ∃ f, f = wide_Add.d)
theorem wide_Add.is : wide_Add = wide_Add.d := Classical.choose_spec (⟨wide_Add.d, rfl⟩ : ∃ f, f = wide_Add.d)
def wide_And.l2.step (again : Int → (Nat → Int) → (Nat → Int) → (Nat → Int) → Prop) (k0 : (Nat → Int) → (Nat → Int) → Prop) (x0 : Int) (x1 : Nat → Int) (x2 : Nat → Int) (x3 : Nat → Int) : Prop :=
  br (ltI x0 6) (gd (leI 0 x0 && ltI x0 6) (gd (leI 0 x0 && ltI x0 6) (gd (leI 0 x0 && ltI x0 6) (again (addI IntKind.i64 x0 1) (upd x1 (Int.toNat x0) (andI IntKind.u64 (x1 (Int.toNat x0)) (x2 (Int.toNat x0)))) x2 x3)))) (k0 x1 x3)
def wide_And.l2 (k0 : (Nat → Int) → (Nat → Int) → Prop) : Nat → Int → (Nat → Int) → (Nat → Int) → (Nat → Int) → Prop
  | 0 => fun _ _ _ _ => False
  | n + 1 => wide_And.l2.step (wide_And.l2 k0 n) k0
def wide_And.l2.entry : LoopEntry := ⟨LV.mk 20 [(0, 20)] 16 0 false, 0, 19, fun vs H K => match vs, H with
  | [EV.ptr 0 [], EV.ptr 1 [], EV.ptr 2 [], EV.int IntKind.i64 x0], [some (EV.arr IntKind.u64 6 x1), some (EV.arr IntKind.u64 6 x2), some (EV.arr IntKind.u64 6 x3)] => ∃ n, wide_And.l2 (fun y0 y1 => K (.exit 0) [EV.ptr 0 [], EV.ptr 1 []] [some (EV.arr IntKind.u64 6 y0), some (EV.arr IntKind.u64 6 y1)]) n x0 x1 x2 x3
  | _, _ => False⟩
def wide_And.d (a0 : Nat → Int) (a1 : Nat → Int) (K : (Nat → Int) → Prop) : Prop :=
  ∃ n, wide_And.l2 (fun y0 y1 => K y0) n 0 a0 a1 fun x => 0
noncomputable def wide_And : (Nat → Int) → (Nat → Int) → ((Nat → Int) → Prop) → Prop := Classical.choose (⟨wide_And.d, rfl⟩ : ∃ f, f = wide_And.d)
theorem wide_And.is : wide_And = wide_And.d := Classical.choose_spec (⟨wide_And.d, rfl⟩ : ∃ f, f = wide_And.d)
def wide_Bit.d (a0 : Nat → Int) (a1 : Int) (K : Bool → Prop) : Prop :=
  br (leI 0 a1) (br (ltI a1 384) (gd (leI 0 (quoI IntKind.i64 a1 64) && ltI (quoI IntKind.i64 a1 64) 6) (gd (!ltI (cvI IntKind.u64 (remI IntKind.i64 a1 64)) 0) (K (eqI (andI IntKind.u64 (shrI IntKind.u64 (a0 (Int.toNat (quoI IntKind.i64 a1 64))) (cvI IntKind.u64 (remI IntKind.i64 a1 64))) 1) 1)))) (K false)) (K false)
noncomputable def wide_Bit : (Nat → Int) → Int → (Bool → Prop) → Prop := Classical.choose (⟨wide_Bit.d, rfl⟩ : ∃ f, f = wide_Bit.d)
theorem wide_Bit.is : wide_Bit = wide_Bit.d := Classical.choose_spec (⟨wide_Bit.d, rfl⟩ : ∃ f, f = wide_Bit.d)
def wide_Len.l2.step (again : Int → (Nat → Int) → Prop) (k0 : Int → Prop) (k1 : Prop) (x0 : Int) (x1 : Nat → Int) : Prop :=
  br (leI 0 x0) (gd (leI 0 x0 && ltI x0 6) (br (!eqI (x1 (Int.toNat x0)) 0) (gd (leI 0 x0 && ltI x0 6) (word_Len (x1 (Int.toNat x0)) fun y0 => k0 (addI IntKind.i64 (mulI IntKind.i64 64 x0) y0))) (again (subI IntKind.i64 x0 1) x1))) k1
def wide_Len.l2 (k0 : Int → Prop) (k1 : Prop) : Nat → Int → (Nat → Int) → Prop
  | 0 => fun _ _ => False
  | n + 1 => wide_Len.l2.step (wide_Len.l2 k0 k1 n) k0 k1
def wide_Len.l2.entry : LoopEntry := ⟨LV.mk 0 [(0, 0)] 4 0 false, 0, 19, fun vs H K => match vs, H with
  | [EV.ptr 0 [], EV.int IntKind.i64 x0], [some (EV.arr IntKind.u64 6 x1)] => ∃ n, wide_Len.l2 (fun y0 => K .ret [EV.int IntKind.i64 y0] []) (K (.exit 0) [] []) n x0 x1
  | _, _ => False⟩
def wide_Len.d (a0 : Nat → Int) (K : Int → Prop) : Prop :=
  ∃ n, wide_Len.l2 (fun y0 => K y0) (K 0) n 5 a0
noncomputable def wide_Len : (Nat → Int) → (Int → Prop) → Prop := Classical.choose (⟨wide_Len.d, rfl⟩ : ∃ f, f = wide_Len.d)
theorem wide_Len.is : wide_Len = wide_Len.d := Classical.choose_spec (⟨wide_Len.d, rfl⟩ : ∃ f, f = wide_Len.d)
def wide_count.d (a0 : Int) (K : Int → Prop) : Prop :=
  K (minI (maxI a0 0) 384)
noncomputable def wide_count : Int → (Int → Prop) → Prop := Classical.choose (⟨wide_count.d, rfl⟩ : ∃ f, f = wide_count.d)
theorem wide_count.is : wide_count = wide_count.d := Classical.choose_spec (⟨wide_count.d, rfl⟩ : ∃ f, f = wide_count.d)
def wide_Left.l5.step (again : Bool → Int → Int → Int → (Nat → Int) → (Nat → Int) → Prop) (k0 : Bool → (Nat → Int) → Prop) (x0 : Bool) (x1 : Int) (x2 : Int) (x3 : Int) (x4 : Nat → Int) (x5 : Nat → Int) : Prop :=
  br (leI x1 x3) (gd (leI 0 (subI IntKind.i64 x3 x1) && ltI (subI IntKind.i64 x3 x1) 6) (gd (!ltI x2 0) (gd (leI 0 x3 && ltI x3 6) (br (ltI x1 x3) (gd (leI 0 x3 && ltI x3 6) (gd (leI 0 (subI IntKind.i64 (subI IntKind.i64 x3 x1) 1) && ltI (subI IntKind.i64 (subI IntKind.i64 x3 x1) 1) 6) (gd (!ltI (subI IntKind.u64 64 x2) 0) (gd (leI 0 x3 && ltI x3 6) (again x0 x1 x2 (subI IntKind.i64 x3 1) x4 (upd (upd x5 (Int.toNat x3) (shlI IntKind.u64 (x4 (Int.toNat (subI IntKind.i64 x3 x1))) x2)) (Int.toNat x3) (orI IntKind.u64 (upd x5 (Int.toNat x3) (shlI IntKind.u64 (x4 (Int.toNat (subI IntKind.i64 x3 x1))) x2) (Int.toNat x3)) (shrI IntKind.u64 (x4 (Int.toNat (subI IntKind.i64 (subI IntKind.i64 x3 x1) 1))) (subI IntKind.u64 64 x2))))))))) (again x0 x1 x2 (subI IntKind.i64 x3 1) x4 (upd x5 (Int.toNat x3) (shlI IntKind.u64 (x4 (Int.toNat (subI IntKind.i64 x3 x1))) x2))))))) (k0 x0 x5)
def wide_Left.l5 (k0 : Bool → (Nat → Int) → Prop) : Nat → Bool → Int → Int → Int → (Nat → Int) → (Nat → Int) → Prop
  | 0 => fun _ _ _ _ _ _ => False
  | n + 1 => wide_Left.l5.step (wide_Left.l5 k0 n) k0
def wide_Left.l5.entry : LoopEntry := ⟨LV.mk 48 [(0, 48)] 48 0 false, 0, 59, fun vs H K => match vs, H with
  | [EV.ptr 0 [], EV.ptr 1 [], EV.bool x0, EV.int IntKind.i64 x1, EV.int IntKind.u64 x2, EV.int IntKind.i64 x3], [some (EV.arr IntKind.u64 6 x4), some (EV.arr IntKind.u64 6 x5)] => ∃ n, wide_Left.l5 (fun y0 y1 => K (.exit 0) [EV.ptr 0 [], EV.bool y0] [some (EV.arr IntKind.u64 6 y1)]) n x0 x1 x2 x3 x4 x5
  | _, _ => False⟩
def wide_Left.d (a0 : Nat → Int) (a1 : Int) (K : (Nat → Int) → Bool → Prop) : Prop :=
  wide_count a1 fun y0 => wide_Len a0 fun y0_1 => br (ltI 384 (addI IntKind.i64 y0_1 y0)) (∃ n, wide_Left.l5 (fun y0 y1 => K y1 y0) n (!eqN 6 a0 fun x => 0) (quoI IntKind.i64 y0 64) (cvI IntKind.u64 (remI IntKind.i64 y0 64)) 5 a0 fun x => 0) (∃ n, wide_Left.l5 (fun y0 y1 => K y1 y0) n false (quoI IntKind.i64 y0 64) (cvI IntKind.u64 (remI IntKind.i64 y0 64)) 5 a0 fun x => 0)
noncomputable def wide_Left : (Nat → Int) → Int → ((Nat → Int) → Bool → Prop) → Prop := Classical.choose (⟨wide_Left.d, rfl⟩ : ∃ f, f = wide_Left.d)
theorem wide_Left.is : wide_Left = wide_Left.d := Classical.choose_spec (⟨wide_Left.d, rfl⟩ : ∃ f, f = wide_Left.d)
def wide_Low.l2.step (again : (Nat → Int) → Int → Prop) (k0 : Int → Prop) (k1 : Prop) (x0 : Nat → Int) (x1 : Int) : Prop :=
  br (ltI x1 6) (gd (leI 0 x1 && ltI x1 6) (br (!eqI (x0 (Int.toNat x1)) 0) (word_Low (x0 (Int.toNat x1)) fun y0 => k0 (addI IntKind.i64 (mulI IntKind.i64 64 x1) y0)) (again x0 (addI IntKind.i64 x1 1)))) k1
def wide_Low.l2 (k0 : Int → Prop) (k1 : Prop) : Nat → (Nat → Int) → Int → Prop
  | 0 => fun _ _ => False
  | n + 1 => wide_Low.l2.step (wide_Low.l2 k0 k1 n) k0 k1
def wide_Low.l2.entry : LoopEntry := ⟨LV.mk 0 [(0, 0)] 4 0 false, 0, 18, fun vs H K => match vs, H with
  | [EV.arr IntKind.u64 6 x0, EV.int IntKind.i64 x1], [] => ∃ n, wide_Low.l2 (fun y0 => K .ret [EV.int IntKind.i64 y0] []) (K (.exit 0) [] []) n x0 x1
  | _, _ => False⟩
def wide_Low.d (a0 : Nat → Int) (K : Int → Prop) : Prop :=
  ∃ n, wide_Low.l2 (fun y0 => K y0) (K 384) n a0 0
noncomputable def wide_Low : (Nat → Int) → (Int → Prop) → Prop := Classical.choose (⟨wide_Low.d, rfl⟩ : ∃ f, f = wide_Low.d)
theorem wide_Low.is : wide_Low = wide_Low.d := Classical.choose_spec (⟨wide_Low.d, rfl⟩ : ∃ f, f = wide_Low.d)
def wide_Mask.l4.step (again : Int → Int → (Nat → Int) → (Nat → Int) → Prop) (k0 : (Nat → Int) → (Nat → Int) → Prop) (x0 : Int) (x1 : Int) (x2 : Nat → Int) (x3 : Nat → Int) : Prop :=
  br (ltI x1 6) (word_Mask (subI IntKind.i64 x0 (mulI IntKind.i64 64 x1)) fun y0 => gd (leI 0 x1 && ltI x1 6) (again x0 (addI IntKind.i64 x1 1) x2 (upd x3 (Int.toNat x1) y0))) (k0 x2 x3)
def wide_Mask.l4 (k0 : (Nat → Int) → (Nat → Int) → Prop) : Nat → Int → Int → (Nat → Int) → (Nat → Int) → Prop
  | 0 => fun _ _ _ _ => False
  | n + 1 => wide_Mask.l4.step (wide_Mask.l4 k0 n) k0
def wide_Mask.l4.entry : LoopEntry := ⟨LV.mk 12 [(0, 12)] 4 0 false, 0, 19, fun vs H K => match vs, H with
  | [EV.int IntKind.i64 x0, EV.ptr 0 [], EV.ptr 1 [], EV.int IntKind.i64 x1], [some (EV.arr IntKind.u64 6 x2), some (EV.arr IntKind.u64 6 x3)] => ∃ n, wide_Mask.l4 (fun y0 y1 => K (.exit 0) [EV.ptr 0 [], EV.ptr 1 []] [some (EV.arr IntKind.u64 6 y0), some (EV.arr IntKind.u64 6 y1)]) n x0 x1 x2 x3
  | _, _ => False⟩
def wide_Mask.d (a0 : Int) (K : (Nat → Int) → Prop) : Prop :=
  wide_count a0 fun y0 => ∃ n, wide_Mask.l4 (fun y0 y1 => K y1) n y0 0 (fun x => 0) fun x => 0
noncomputable def wide_Mask : Int → ((Nat → Int) → Prop) → Prop := Classical.choose (⟨wide_Mask.d, rfl⟩ : ∃ f, f = wide_Mask.d)
theorem wide_Mask.is : wide_Mask = wide_Mask.d := Classical.choose_spec (⟨wide_Mask.d, rfl⟩ : ∃ f, f = wide_Mask.d)
def wide_Of.d (a0 : Int) (K : (Nat → Int) → Prop) : Prop :=
  K (upd (fun x => 0) 0 a0)
noncomputable def wide_Of : Int → ((Nat → Int) → Prop) → Prop := Classical.choose (⟨wide_Of.d, rfl⟩ : ∃ f, f = wide_Of.d)
theorem wide_Of.is : wide_Of = wide_Of.d := Classical.choose_spec (⟨wide_Of.d, rfl⟩ : ∃ f, f = wide_Of.d)
def wide_Right.l5.step (again : Bool → Int → Int → Int → (Nat → Int) → (Nat → Int) → Prop) (k0 : Bool → (Nat → Int) → Prop) (x0 : Bool) (x1 : Int) (x2 : Int) (x3 : Int) (x4 : Nat → Int) (x5 : Nat → Int) : Prop :=
  br (ltI (addI IntKind.i64 x3 x1) 6) (gd (leI 0 (addI IntKind.i64 x3 x1) && ltI (addI IntKind.i64 x3 x1) 6) (gd (!ltI x2 0) (gd (leI 0 x3 && ltI x3 6) (br (ltI (addI IntKind.i64 x3 x1) 5) (gd (leI 0 x3 && ltI x3 6) (gd (leI 0 (addI IntKind.i64 (addI IntKind.i64 x3 x1) 1) && ltI (addI IntKind.i64 (addI IntKind.i64 x3 x1) 1) 6) (gd (!ltI (subI IntKind.u64 64 x2) 0) (gd (leI 0 x3 && ltI x3 6) (again x0 x1 x2 (addI IntKind.i64 x3 1) x4 (upd (upd x5 (Int.toNat x3) (shrI IntKind.u64 (x4 (Int.toNat (addI IntKind.i64 x3 x1))) x2)) (Int.toNat x3) (orI IntKind.u64 (upd x5 (Int.toNat x3) (shrI IntKind.u64 (x4 (Int.toNat (addI IntKind.i64 x3 x1))) x2) (Int.toNat x3)) (shlI IntKind.u64 (x4 (Int.toNat (addI IntKind.i64 (addI IntKind.i64 x3 x1) 1))) (subI IntKind.u64 64 x2))))))))) (again x0 x1 x2 (addI IntKind.i64 x3 1) x4 (upd x5 (Int.toNat x3) (shrI IntKind.u64 (x4 (Int.toNat (addI IntKind.i64 x3 x1))) x2))))))) (k0 x0 x5)
def wide_Right.l5 (k0 : Bool → (Nat → Int) → Prop) : Nat → Bool → Int → Int → Int → (Nat → Int) → (Nat → Int) → Prop
  | 0 => fun _ _ _ _ _ _ => False
  | n + 1 => wide_Right.l5.step (wide_Right.l5 k0 n) k0
def wide_Right.l5.entry : LoopEntry := ⟨LV.mk 48 [(0, 48)] 48 0 false, 0, 60, fun vs H K => match vs, H with
  | [EV.ptr 0 [], EV.ptr 1 [], EV.bool x0, EV.int IntKind.i64 x1, EV.int IntKind.u64 x2, EV.int IntKind.i64 x3], [some (EV.arr IntKind.u64 6 x4), some (EV.arr IntKind.u64 6 x5)] => ∃ n, wide_Right.l5 (fun y0 y1 => K (.exit 0) [EV.ptr 0 [], EV.bool y0] [some (EV.arr IntKind.u64 6 y1)]) n x0 x1 x2 x3 x4 x5
  | _, _ => False⟩
def wide_Right.d (a0 : Nat → Int) (a1 : Int) (K : (Nat → Int) → Bool → Prop) : Prop :=
  wide_count a1 fun y0 => br (!eqN 6 a0 fun x => 0) (wide_Low a0 fun y0_1 => ∃ n, wide_Right.l5 (fun y0 y1 => K y1 y0) n (ltI y0_1 y0) (quoI IntKind.i64 y0 64) (cvI IntKind.u64 (remI IntKind.i64 y0 64)) 0 a0 fun x => 0) (∃ n, wide_Right.l5 (fun y0 y1 => K y1 y0) n false (quoI IntKind.i64 y0 64) (cvI IntKind.u64 (remI IntKind.i64 y0 64)) 0 a0 fun x => 0)
noncomputable def wide_Right : (Nat → Int) → Int → ((Nat → Int) → Bool → Prop) → Prop := Classical.choose (⟨wide_Right.d, rfl⟩ : ∃ f, f = wide_Right.d)
theorem wide_Right.is : wide_Right = wide_Right.d := Classical.choose_spec (⟨wide_Right.d, rfl⟩ : ∃ f, f = wide_Right.d)
def wide_ToBits.d (a0 : Nat → Int) (K : Int → Int → Bool → Prop) : Prop :=
  br (!eqI (orI IntKind.u64 (orI IntKind.u64 (orI IntKind.u64 (a0 2) (a0 3)) (a0 4)) (a0 5)) 0) (K 0 0 false) (K (a0 1) (a0 0) true)
noncomputable def wide_ToBits : (Nat → Int) → (Int → Int → Bool → Prop) → Prop := Classical.choose (⟨wide_ToBits.d, rfl⟩ : ∃ f, f = wide_ToBits.d)
theorem wide_ToBits.is : wide_ToBits = wide_ToBits.d := Classical.choose_spec (⟨wide_ToBits.d, rfl⟩ : ∃ f, f = wide_ToBits.d)
end Go.Ev.S

/- The functions as the evaluator has them: what each comes to. -/
set_option maxRecDepth 100000
set_option linter.unusedVariables false
set_option linter.unusedSimpArgs false
namespace Go.Ev.S
open Go Go.Ev
def jam_Cut.d (a0 : Nat → Int) (a1 : Int) (K : (Nat → Int) → Int → Bool → Prop) : Prop :=
  wide_Right a0 (minI (maxI a1 0) 385) fun y0 y1 => br (eqI (minI (maxI a1 0) 385) 0) (K y0 (-1) !y1) (br (eqI (minI (maxI a1 0) 385) 385) (K y0 (-1) !y1) (wide_Bit a0 (subI IntKind.i64 (minI (maxI a1 0) 385) 1) fun y0_1 => br (!y0_1) (K y0 (-1) !y1) (wide_Mask (subI IntKind.i64 (minI (maxI a1 0) 385) 1) fun y0_2 => wide_And a0 y0_2 fun y0_3 => br (!eqN 6 y0_3 fun x => 0) (K y0 1 !y1) (K y0 0 !y1))))
noncomputable def jam_Cut : (Nat → Int) → Int → ((Nat → Int) → Int → Bool → Prop) → Prop := Classical.choose (⟨jam_Cut.d, rfl⟩ : ∃ f, f = jam_Cut.d)
theorem jam_Cut.is : jam_Cut = jam_Cut.d := Classical.choose_spec (⟨jam_Cut.d, rfl⟩ : ∃ f, f = jam_Cut.d)
end Go.Ev.S

/- The functions as the evaluator has them: what each comes to. -/
set_option maxRecDepth 100000
set_option linter.unusedVariables false
set_option linter.unusedSimpArgs false
namespace Go.Ev.S
open Go Go.Ev
def shape_Check.d (a0 : Int) (K : Int → Prop) : Prop :=
  br (ltI 3 a0) (K 2) (K 0)
noncomputable def shape_Check : Int → (Int → Prop) → Prop := Classical.choose (⟨shape_Check.d, rfl⟩ : ∃ f, f = shape_Check.d)
theorem shape_Check.is : shape_Check = shape_Check.d := Classical.choose_spec (⟨shape_Check.d, rfl⟩ : ∃ f, f = shape_Check.d)
def shape_CheckMode.d (a0 : Int) (K : Int → Prop) : Prop :=
  br (ltI 4 a0) (K 2) (K 0)
noncomputable def shape_CheckMode : Int → (Int → Prop) → Prop := Classical.choose (⟨shape_CheckMode.d, rfl⟩ : ∃ f, f = shape_CheckMode.d)
theorem shape_CheckMode.is : shape_CheckMode = shape_CheckMode.d := Classical.choose_spec (⟨shape_CheckMode.d, rfl⟩ : ∃ f, f = shape_CheckMode.d)
def shape_numbers.d (a0 : Int) (K : Int → Int → Int → List UInt8 → Prop) : Prop :=
  br (leI 4 (cvI IntKind.i64 a0)) (K 0 0 0 []) (br (eqI a0 0) (br (eqI a0 0) (br (eqI a0 0) (br (eqI a0 0) (K 32 24 127 [115]) (br (eqI a0 1) (K 32 24 127 [100]) (br (eqI a0 2) (K 32 24 127 [104]) (br (eqI a0 3) (K 32 24 127 [113]) False)))) (br (eqI a0 1) (br (eqI a0 0) (K 32 24 1023 [115]) (br (eqI a0 1) (K 32 24 1023 [100]) (br (eqI a0 2) (K 32 24 1023 [104]) (br (eqI a0 3) (K 32 24 1023 [113]) False)))) (br (eqI a0 2) (br (eqI a0 0) (K 32 24 15 [115]) (br (eqI a0 1) (K 32 24 15 [100]) (br (eqI a0 2) (K 32 24 15 [104]) (br (eqI a0 3) (K 32 24 15 [113]) False)))) (br (eqI a0 3) (br (eqI a0 0) (K 32 24 16383 [115]) (br (eqI a0 1) (K 32 24 16383 [100]) (br (eqI a0 2) (K 32 24 16383 [104]) (br (eqI a0 3) (K 32 24 16383 [113]) False)))) False)))) (br (eqI a0 1) (br (eqI a0 0) (br (eqI a0 0) (K 32 53 127 [115]) (br (eqI a0 1) (K 32 53 127 [100]) (br (eqI a0 2) (K 32 53 127 [104]) (br (eqI a0 3) (K 32 53 127 [113]) False)))) (br (eqI a0 1) (br (eqI a0 0) (K 32 53 1023 [115]) (br (eqI a0 1) (K 32 53 1023 [100]) (br (eqI a0 2) (K 32 53 1023 [104]) (br (eqI a0 3) (K 32 53 1023 [113]) False)))) (br (eqI a0 2) (br (eqI a0 0) (K 32 53 15 [115]) (br (eqI a0 1) (K 32 53 15 [100]) (br (eqI a0 2) (K 32 53 15 [104]) (br (eqI a0 3) (K 32 53 15 [113]) False)))) (br (eqI a0 3) (br (eqI a0 0) (K 32 53 16383 [115]) (br (eqI a0 1) (K 32 53 16383 [100]) (br (eqI a0 2) (K 32 53 16383 [104]) (br (eqI a0 3) (K 32 53 16383 [113]) False)))) False)))) (br (eqI a0 2) (br (eqI a0 0) (br (eqI a0 0) (K 32 11 127 [115]) (br (eqI a0 1) (K 32 11 127 [100]) (br (eqI a0 2) (K 32 11 127 [104]) (br (eqI a0 3) (K 32 11 127 [113]) False)))) (br (eqI a0 1) (br (eqI a0 0) (K 32 11 1023 [115]) (br (eqI a0 1) (K 32 11 1023 [100]) (br (eqI a0 2) (K 32 11 1023 [104]) (br (eqI a0 3) (K 32 11 1023 [113]) False)))) (br (eqI a0 2) (br (eqI a0 0) (K 32 11 15 [115]) (br (eqI a0 1) (K 32 11 15 [100]) (br (eqI a0 2) (K 32 11 15 [104]) (br (eqI a0 3) (K 32 11 15 [113]) False)))) (br (eqI a0 3) (br (eqI a0 0) (K 32 11 16383 [115]) (br (eqI a0 1) (K 32 11 16383 [100]) (br (eqI a0 2) (K 32 11 16383 [104]) (br (eqI a0 3) (K 32 11 16383 [113]) False)))) False)))) (br (eqI a0 3) (br (eqI a0 0) (br (eqI a0 0) (K 32 113 127 [115]) (br (eqI a0 1) (K 32 113 127 [100]) (br (eqI a0 2) (K 32 113 127 [104]) (br (eqI a0 3) (K 32 113 127 [113]) False)))) (br (eqI a0 1) (br (eqI a0 0) (K 32 113 1023 [115]) (br (eqI a0 1) (K 32 113 1023 [100]) (br (eqI a0 2) (K 32 113 1023 [104]) (br (eqI a0 3) (K 32 113 1023 [113]) False)))) (br (eqI a0 2) (br (eqI a0 0) (K 32 113 15 [115]) (br (eqI a0 1) (K 32 113 15 [100]) (br (eqI a0 2) (K 32 113 15 [104]) (br (eqI a0 3) (K 32 113 15 [113]) False)))) (br (eqI a0 3) (br (eqI a0 0) (K 32 113 16383 [115]) (br (eqI a0 1) (K 32 113 16383 [100]) (br (eqI a0 2) (K 32 113 16383 [104]) (br (eqI a0 3) (K 32 113 16383 [113]) False)))) False)))) False)))) (br (eqI a0 1) (br (eqI a0 0) (br (eqI a0 0) (br (eqI a0 0) (K 64 24 127 [115]) (br (eqI a0 1) (K 64 24 127 [100]) (br (eqI a0 2) (K 64 24 127 [104]) (br (eqI a0 3) (K 64 24 127 [113]) False)))) (br (eqI a0 1) (br (eqI a0 0) (K 64 24 1023 [115]) (br (eqI a0 1) (K 64 24 1023 [100]) (br (eqI a0 2) (K 64 24 1023 [104]) (br (eqI a0 3) (K 64 24 1023 [113]) False)))) (br (eqI a0 2) (br (eqI a0 0) (K 64 24 15 [115]) (br (eqI a0 1) (K 64 24 15 [100]) (br (eqI a0 2) (K 64 24 15 [104]) (br (eqI a0 3) (K 64 24 15 [113]) False)))) (br (eqI a0 3) (br (eqI a0 0) (K 64 24 16383 [115]) (br (eqI a0 1) (K 64 24 16383 [100]) (br (eqI a0 2) (K 64 24 16383 [104]) (br (eqI a0 3) (K 64 24 16383 [113]) False)))) False)))) (br (eqI a0 1) (br (eqI a0 0) (br (eqI a0 0) (K 64 53 127 [115]) (br (eqI a0 1) (K 64 53 127 [100]) (br (eqI a0 2) (K 64 53 127 [104]) (br (eqI a0 3) (K 64 53 127 [113]) False)))) (br (eqI a0 1) (br (eqI a0 0) (K 64 53 1023 [115]) (br (eqI a0 1) (K 64 53 1023 [100]) (br (eqI a0 2) (K 64 53 1023 [104]) (br (eqI a0 3) (K 64 53 1023 [113]) False)))) (br (eqI a0 2) (br (eqI a0 0) (K 64 53 15 [115]) (br (eqI a0 1) (K 64 53 15 [100]) (br (eqI a0 2) (K 64 53 15 [104]) (br (eqI a0 3) (K 64 53 15 [113]) False)))) (br (eqI a0 3) (br (eqI a0 0) (K 64 53 16383 [115]) (br (eqI a0 1) (K 64 53 16383 [100]) (br (eqI a0 2) (K 64 53 16383 [104]) (br (eqI a0 3) (K 64 53 16383 [113]) False)))) False)))) (br (eqI a0 2) (br (eqI a0 0) (br (eqI a0 0) (K 64 11 127 [115]) (br (eqI a0 1) (K 64 11 127 [100]) (br (eqI a0 2) (K 64 11 127 [104]) (br (eqI a0 3) (K 64 11 127 [113]) False)))) (br (eqI a0 1) (br (eqI a0 0) (K 64 11 1023 [115]) (br (eqI a0 1) (K 64 11 1023 [100]) (br (eqI a0 2) (K 64 11 1023 [104]) (br (eqI a0 3) (K 64 11 1023 [113]) False)))) (br (eqI a0 2) (br (eqI a0 0) (K 64 11 15 [115]) (br (eqI a0 1) (K 64 11 15 [100]) (br (eqI a0 2) (K 64 11 15 [104]) (br (eqI a0 3) (K 64 11 15 [113]) False)))) (br (eqI a0 3) (br (eqI a0 0) (K 64 11 16383 [115]) (br (eqI a0 1) (K 64 11 16383 [100]) (br (eqI a0 2) (K 64 11 16383 [104]) (br (eqI a0 3) (K 64 11 16383 [113]) False)))) False)))) (br (eqI a0 3) (br (eqI a0 0) (br (eqI a0 0) (K 64 113 127 [115]) (br (eqI a0 1) (K 64 113 127 [100]) (br (eqI a0 2) (K 64 113 127 [104]) (br (eqI a0 3) (K 64 113 127 [113]) False)))) (br (eqI a0 1) (br (eqI a0 0) (K 64 113 1023 [115]) (br (eqI a0 1) (K 64 113 1023 [100]) (br (eqI a0 2) (K 64 113 1023 [104]) (br (eqI a0 3) (K 64 113 1023 [113]) False)))) (br (eqI a0 2) (br (eqI a0 0) (K 64 113 15 [115]) (br (eqI a0 1) (K 64 113 15 [100]) (br (eqI a0 2) (K 64 113 15 [104]) (br (eqI a0 3) (K 64 113 15 [113]) False)))) (br (eqI a0 3) (br (eqI a0 0) (K 64 113 16383 [115]) (br (eqI a0 1) (K 64 113 16383 [100]) (br (eqI a0 2) (K 64 113 16383 [104]) (br (eqI a0 3) (K 64 113 16383 [113]) False)))) False)))) False)))) (br (eqI a0 2) (br (eqI a0 0) (br (eqI a0 0) (br (eqI a0 0) (K 16 24 127 [115]) (br (eqI a0 1) (K 16 24 127 [100]) (br (eqI a0 2) (K 16 24 127 [104]) (br (eqI a0 3) (K 16 24 127 [113]) False)))) (br (eqI a0 1) (br (eqI a0 0) (K 16 24 1023 [115]) (br (eqI a0 1) (K 16 24 1023 [100]) (br (eqI a0 2) (K 16 24 1023 [104]) (br (eqI a0 3) (K 16 24 1023 [113]) False)))) (br (eqI a0 2) (br (eqI a0 0) (K 16 24 15 [115]) (br (eqI a0 1) (K 16 24 15 [100]) (br (eqI a0 2) (K 16 24 15 [104]) (br (eqI a0 3) (K 16 24 15 [113]) False)))) (br (eqI a0 3) (br (eqI a0 0) (K 16 24 16383 [115]) (br (eqI a0 1) (K 16 24 16383 [100]) (br (eqI a0 2) (K 16 24 16383 [104]) (br (eqI a0 3) (K 16 24 16383 [113]) False)))) False)))) (br (eqI a0 1) (br (eqI a0 0) (br (eqI a0 0) (K 16 53 127 [115]) (br (eqI a0 1) (K 16 53 127 [100]) (br (eqI a0 2) (K 16 53 127 [104]) (br (eqI a0 3) (K 16 53 127 [113]) False)))) (br (eqI a0 1) (br (eqI a0 0) (K 16 53 1023 [115]) (br (eqI a0 1) (K 16 53 1023 [100]) (br (eqI a0 2) (K 16 53 1023 [104]) (br (eqI a0 3) (K 16 53 1023 [113]) False)))) (br (eqI a0 2) (br (eqI a0 0) (K 16 53 15 [115]) (br (eqI a0 1) (K 16 53 15 [100]) (br (eqI a0 2) (K 16 53 15 [104]) (br (eqI a0 3) (K 16 53 15 [113]) False)))) (br (eqI a0 3) (br (eqI a0 0) (K 16 53 16383 [115]) (br (eqI a0 1) (K 16 53 16383 [100]) (br (eqI a0 2) (K 16 53 16383 [104]) (br (eqI a0 3) (K 16 53 16383 [113]) False)))) False)))) (br (eqI a0 2) (br (eqI a0 0) (br (eqI a0 0) (K 16 11 127 [115]) (br (eqI a0 1) (K 16 11 127 [100]) (br (eqI a0 2) (K 16 11 127 [104]) (br (eqI a0 3) (K 16 11 127 [113]) False)))) (br (eqI a0 1) (br (eqI a0 0) (K 16 11 1023 [115]) (br (eqI a0 1) (K 16 11 1023 [100]) (br (eqI a0 2) (K 16 11 1023 [104]) (br (eqI a0 3) (K 16 11 1023 [113]) False)))) (br (eqI a0 2) (br (eqI a0 0) (K 16 11 15 [115]) (br (eqI a0 1) (K 16 11 15 [100]) (br (eqI a0 2) (K 16 11 15 [104]) (br (eqI a0 3) (K 16 11 15 [113]) False)))) (br (eqI a0 3) (br (eqI a0 0) (K 16 11 16383 [115]) (br (eqI a0 1) (K 16 11 16383 [100]) (br (eqI a0 2) (K 16 11 16383 [104]) (br (eqI a0 3) (K 16 11 16383 [113]) False)))) False)))) (br (eqI a0 3) (br (eqI a0 0) (br (eqI a0 0) (K 16 113 127 [115]) (br (eqI a0 1) (K 16 113 127 [100]) (br (eqI a0 2) (K 16 113 127 [104]) (br (eqI a0 3) (K 16 113 127 [113]) False)))) (br (eqI a0 1) (br (eqI a0 0) (K 16 113 1023 [115]) (br (eqI a0 1) (K 16 113 1023 [100]) (br (eqI a0 2) (K 16 113 1023 [104]) (br (eqI a0 3) (K 16 113 1023 [113]) False)))) (br (eqI a0 2) (br (eqI a0 0) (K 16 113 15 [115]) (br (eqI a0 1) (K 16 113 15 [100]) (br (eqI a0 2) (K 16 113 15 [104]) (br (eqI a0 3) (K 16 113 15 [113]) False)))) (br (eqI a0 3) (br (eqI a0 0) (K 16 113 16383 [115]) (br (eqI a0 1) (K 16 113 16383 [100]) (br (eqI a0 2) (K 16 113 16383 [104]) (br (eqI a0 3) (K 16 113 16383 [113]) False)))) False)))) False)))) (br (eqI a0 3) (br (eqI a0 0) (br (eqI a0 0) (br (eqI a0 0) (K 128 24 127 [115]) (br (eqI a0 1) (K 128 24 127 [100]) (br (eqI a0 2) (K 128 24 127 [104]) (br (eqI a0 3) (K 128 24 127 [113]) False)))) (br (eqI a0 1) (br (eqI a0 0) (K 128 24 1023 [115]) (br (eqI a0 1) (K 128 24 1023 [100]) (br (eqI a0 2) (K 128 24 1023 [104]) (br (eqI a0 3) (K 128 24 1023 [113]) False)))) (br (eqI a0 2) (br (eqI a0 0) (K 128 24 15 [115]) (br (eqI a0 1) (K 128 24 15 [100]) (br (eqI a0 2) (K 128 24 15 [104]) (br (eqI a0 3) (K 128 24 15 [113]) False)))) (br (eqI a0 3) (br (eqI a0 0) (K 128 24 16383 [115]) (br (eqI a0 1) (K 128 24 16383 [100]) (br (eqI a0 2) (K 128 24 16383 [104]) (br (eqI a0 3) (K 128 24 16383 [113]) False)))) False)))) (br (eqI a0 1) (br (eqI a0 0) (br (eqI a0 0) (K 128 53 127 [115]) (br (eqI a0 1) (K 128 53 127 [100]) (br (eqI a0 2) (K 128 53 127 [104]) (br (eqI a0 3) (K 128 53 127 [113]) False)))) (br (eqI a0 1) (br (eqI a0 0) (K 128 53 1023 [115]) (br (eqI a0 1) (K 128 53 1023 [100]) (br (eqI a0 2) (K 128 53 1023 [104]) (br (eqI a0 3) (K 128 53 1023 [113]) False)))) (br (eqI a0 2) (br (eqI a0 0) (K 128 53 15 [115]) (br (eqI a0 1) (K 128 53 15 [100]) (br (eqI a0 2) (K 128 53 15 [104]) (br (eqI a0 3) (K 128 53 15 [113]) False)))) (br (eqI a0 3) (br (eqI a0 0) (K 128 53 16383 [115]) (br (eqI a0 1) (K 128 53 16383 [100]) (br (eqI a0 2) (K 128 53 16383 [104]) (br (eqI a0 3) (K 128 53 16383 [113]) False)))) False)))) (br (eqI a0 2) (br (eqI a0 0) (br (eqI a0 0) (K 128 11 127 [115]) (br (eqI a0 1) (K 128 11 127 [100]) (br (eqI a0 2) (K 128 11 127 [104]) (br (eqI a0 3) (K 128 11 127 [113]) False)))) (br (eqI a0 1) (br (eqI a0 0) (K 128 11 1023 [115]) (br (eqI a0 1) (K 128 11 1023 [100]) (br (eqI a0 2) (K 128 11 1023 [104]) (br (eqI a0 3) (K 128 11 1023 [113]) False)))) (br (eqI a0 2) (br (eqI a0 0) (K 128 11 15 [115]) (br (eqI a0 1) (K 128 11 15 [100]) (br (eqI a0 2) (K 128 11 15 [104]) (br (eqI a0 3) (K 128 11 15 [113]) False)))) (br (eqI a0 3) (br (eqI a0 0) (K 128 11 16383 [115]) (br (eqI a0 1) (K 128 11 16383 [100]) (br (eqI a0 2) (K 128 11 16383 [104]) (br (eqI a0 3) (K 128 11 16383 [113]) False)))) False)))) (br (eqI a0 3) (br (eqI a0 0) (br (eqI a0 0) (K 128 113 127 [115]) (br (eqI a0 1) (K 128 113 127 [100]) (br (eqI a0 2) (K 128 113 127 [104]) (br (eqI a0 3) (K 128 113 127 [113]) False)))) (br (eqI a0 1) (br (eqI a0 0) (K 128 113 1023 [115]) (br (eqI a0 1) (K 128 113 1023 [100]) (br (eqI a0 2) (K 128 113 1023 [104]) (br (eqI a0 3) (K 128 113 1023 [113]) False)))) (br (eqI a0 2) (br (eqI a0 0) (K 128 113 15 [115]) (br (eqI a0 1) (K 128 113 15 [100]) (br (eqI a0 2) (K 128 113 15 [104]) (br (eqI a0 3) (K 128 113 15 [113]) False)))) (br (eqI a0 3) (br (eqI a0 0) (K 128 113 16383 [115]) (br (eqI a0 1) (K 128 113 16383 [100]) (br (eqI a0 2) (K 128 113 16383 [104]) (br (eqI a0 3) (K 128 113 16383 [113]) False)))) False)))) False)))) False))))
noncomputable def shape_numbers : Int → (Int → Int → Int → List UInt8 → Prop) → Prop := Classical.choose (⟨shape_numbers.d, rfl⟩ : ∃ f, f = shape_numbers.d)
theorem shape_numbers.is : shape_numbers = shape_numbers.d := Classical.choose_spec (⟨shape_numbers.d, rfl⟩ : ∃ f, f = shape_numbers.d)
def shape_Emax.d (a0 : Int) (K : Int → Prop) : Prop :=
  shape_numbers a0 fun y0 y1 y2 y3 => K y2
noncomputable def shape_Emax : Int → (Int → Prop) → Prop := Classical.choose (⟨shape_Emax.d, rfl⟩ : ∃ f, f = shape_Emax.d)
theorem shape_Emax.is : shape_Emax = shape_Emax.d := Classical.choose_spec (⟨shape_Emax.d, rfl⟩ : ∃ f, f = shape_Emax.d)
def shape_Emin.d (a0 : Int) (K : Int → Prop) : Prop :=
  shape_Check a0 fun y0 => br (!eqI y0 0) (K 0) (shape_Emax a0 fun y0 => K (subI IntKind.i64 1 y0))
noncomputable def shape_Emin : Int → (Int → Prop) → Prop := Classical.choose (⟨shape_Emin.d, rfl⟩ : ∃ f, f = shape_Emin.d)
theorem shape_Emin.is : shape_Emin = shape_Emin.d := Classical.choose_spec (⟨shape_Emin.d, rfl⟩ : ∃ f, f = shape_Emin.d)
def shape_Width.d (a0 : Int) (K : Int → Prop) : Prop :=
  shape_numbers a0 fun y0 y1 y2 y3 => K y0
noncomputable def shape_Width : Int → (Int → Prop) → Prop := Classical.choose (⟨shape_Width.d, rfl⟩ : ∃ f, f = shape_Width.d)
theorem shape_Width.is : shape_Width = shape_Width.d := Classical.choose_spec (⟨shape_Width.d, rfl⟩ : ∃ f, f = shape_Width.d)
def shape_Precision.d (a0 : Int) (K : Int → Prop) : Prop :=
  shape_numbers a0 fun y0 y1 y2 y3 => K y1
noncomputable def shape_Precision : Int → (Int → Prop) → Prop := Classical.choose (⟨shape_Precision.d, rfl⟩ : ∃ f, f = shape_Precision.d)
theorem shape_Precision.is : shape_Precision = shape_Precision.d := Classical.choose_spec (⟨shape_Precision.d, rfl⟩ : ∃ f, f = shape_Precision.d)
def shape_at.d (a0 : Int) (a1 : Int) (K : Int → Int → Prop) : Prop :=
  br (leI 64 a1) (gd (!ltI (cvI IntKind.u64 (subI IntKind.i64 a1 64)) 0) (K (shlI IntKind.u64 a0 (cvI IntKind.u64 (subI IntKind.i64 a1 64))) 0)) (gd (!ltI (cvI IntKind.u64 a1) 0) (br (ltI 0 a1) (gd (!ltI (cvI IntKind.u64 (subI IntKind.i64 64 a1)) 0) (K (shrI IntKind.u64 a0 (cvI IntKind.u64 (subI IntKind.i64 64 a1))) (shlI IntKind.u64 a0 (cvI IntKind.u64 a1)))) (K 0 (shlI IntKind.u64 a0 (cvI IntKind.u64 a1)))))
noncomputable def shape_at : Int → Int → (Int → Int → Prop) → Prop := Classical.choose (⟨shape_at.d, rfl⟩ : ∃ f, f = shape_at.d)
theorem shape_at.is : shape_at = shape_at.d := Classical.choose_spec (⟨shape_at.d, rfl⟩ : ∃ f, f = shape_at.d)
def shape_field.d (a0 : Int) (a1 : Int) (K : Int → Int → Prop) : Prop :=
  shape_Precision a0 fun y0 => shape_at (cvI IntKind.u64 a1) (subI IntKind.i64 y0 1) fun y0 y1 => K y0 y1
noncomputable def shape_field : Int → Int → (Int → Int → Prop) → Prop := Classical.choose (⟨shape_field.d, rfl⟩ : ∃ f, f = shape_field.d)
theorem shape_field.is : shape_field = shape_field.d := Classical.choose_spec (⟨shape_field.d, rfl⟩ : ∃ f, f = shape_field.d)
def shape_with.d (a0 : Int) (a1_0 : Int) (a1_1 : Int) (a2 : Bool) (K : Int → Int → Prop) : Prop :=
  shape_Check a0 fun y0 => br (!eqI y0 0) (K 0 0) (br a2 (shape_Width a0 fun y0 => shape_at 1 (subI IntKind.i64 y0 1) fun y0 y1 => K (orI IntKind.u64 a1_0 y0) (orI IntKind.u64 a1_1 y1)) (K a1_0 a1_1))
noncomputable def shape_with : Int → Int → Int → Bool → (Int → Int → Prop) → Prop := Classical.choose (⟨shape_with.d, rfl⟩ : ∃ f, f = shape_with.d)
theorem shape_with.is : shape_with = shape_with.d := Classical.choose_spec (⟨shape_with.d, rfl⟩ : ∃ f, f = shape_with.d)
def shape_Inf.d (a0 : Int) (a1 : Bool) (K : Int → Int → Prop) : Prop :=
  shape_Check a0 fun y0 => br (!eqI y0 0) (K 0 0) (shape_Emax a0 fun y0 => shape_field a0 (addI IntKind.i64 (mulI IntKind.i64 2 y0) 1) fun y0 y1 => shape_with a0 y0 y1 a1 fun y0 y1 => K y0 y1)
noncomputable def shape_Inf : Int → Bool → (Int → Int → Prop) → Prop := Classical.choose (⟨shape_Inf.d, rfl⟩ : ∃ f, f = shape_Inf.d)
theorem shape_Inf.is : shape_Inf = shape_Inf.d := Classical.choose_spec (⟨shape_Inf.d, rfl⟩ : ∃ f, f = shape_Inf.d)
def shape_Greatest.d (a0 : Int) (a1 : Bool) (K : Int → Int → Prop) : Prop :=
  shape_Inf a0 false fun y0 y1 => br (eqI y0 0 && eqI y1 0) (K y0 y1) (br (eqI y1 0) (shape_Check a0 fun y0_1 => br (eqI y0_1 0) (shape_Width a0 fun y0_2 => br (ltI y0_2 128) (shape_with a0 0 (subI IntKind.u64 y1 1) a1 fun y0 y1 => K y0 y1) (shape_with a0 (subI IntKind.u64 y0 1) (subI IntKind.u64 y1 1) a1 fun y0 y1 => K y0 y1)) (shape_with a0 (subI IntKind.u64 y0 1) (subI IntKind.u64 y1 1) a1 fun y0 y1 => K y0 y1)) (shape_Check a0 fun y0_1 => br (eqI y0_1 0) (shape_Width a0 fun y0_2 => br (ltI y0_2 128) (shape_with a0 0 (subI IntKind.u64 y1 1) a1 fun y0 y1 => K y0 y1) (shape_with a0 y0 (subI IntKind.u64 y1 1) a1 fun y0 y1 => K y0 y1)) (shape_with a0 y0 (subI IntKind.u64 y1 1) a1 fun y0 y1 => K y0 y1)))
noncomputable def shape_Greatest : Int → Bool → (Int → Int → Prop) → Prop := Classical.choose (⟨shape_Greatest.d, rfl⟩ : ∃ f, f = shape_Greatest.d)
theorem shape_Greatest.is : shape_Greatest = shape_Greatest.d := Classical.choose_spec (⟨shape_Greatest.d, rfl⟩ : ∃ f, f = shape_Greatest.d)
def shape_Zero.d (a0 : Int) (a1 : Bool) (K : Int → Int → Prop) : Prop :=
  shape_with a0 0 0 a1 fun y0 y1 => K y0 y1
noncomputable def shape_Zero : Int → Bool → (Int → Int → Prop) → Prop := Classical.choose (⟨shape_Zero.d, rfl⟩ : ∃ f, f = shape_Zero.d)
theorem shape_Zero.is : shape_Zero = shape_Zero.d := Classical.choose_spec (⟨shape_Zero.d, rfl⟩ : ∃ f, f = shape_Zero.d)
end Go.Ev.S

/- The functions as the evaluator has them: what each comes to. -/
set_option maxRecDepth 100000
set_option linter.unusedVariables false
set_option linter.unusedSimpArgs false
namespace Go.Ev.S
open Go Go.Ev
def round_right.d (a0 : Int) (a1 : Int) (K : Bool → Prop) : Prop :=
  shape_Check a0 fun y0 => br (eqI y0 0) (shape_CheckMode a1 fun y0 => K (eqI y0 0)) (K false)
noncomputable def round_right : Int → Int → (Bool → Prop) → Prop := Classical.choose (⟨round_right.d, rfl⟩ : ∃ f, f = round_right.d)
theorem round_right.is : round_right = round_right.d := Classical.choose_spec (⟨round_right.d, rfl⟩ : ∃ f, f = round_right.d)
def round_Over.d (a0 : Int) (a1 : Int) (a2 : Bool) (K : Int → Int → Int → Int → Prop) : Prop :=
  round_right a0 a1 fun y0 => br (!y0) (K 0 0 0 2) (br (eqI a1 1) (br (eqI a1 1) (shape_Greatest a0 a2 fun y0 y1 => K y0 y1 5 0) (shape_Inf a0 a2 fun y0 y1 => K y0 y1 5 0)) (br (eqI a1 2) (br (!a2) (br (!a2) (shape_Greatest a0 a2 fun y0 y1 => K y0 y1 5 0) (shape_Inf a0 a2 fun y0 y1 => K y0 y1 5 0)) (br (eqI a1 3) (br a2 (shape_Greatest a0 a2 fun y0 y1 => K y0 y1 5 0) (shape_Inf a0 a2 fun y0 y1 => K y0 y1 5 0)) (shape_Inf a0 a2 fun y0 y1 => K y0 y1 5 0))) (br (eqI a1 3) (br a2 (shape_Greatest a0 a2 fun y0 y1 => K y0 y1 5 0) (shape_Inf a0 a2 fun y0 y1 => K y0 y1 5 0)) (shape_Inf a0 a2 fun y0 y1 => K y0 y1 5 0))))
noncomputable def round_Over : Int → Int → Bool → (Int → Int → Int → Int → Prop) → Prop := Classical.choose (⟨round_Over.d, rfl⟩ : ∃ f, f = round_Over.d)
theorem round_Over.is : round_Over = round_Over.d := Classical.choose_spec (⟨round_Over.d, rfl⟩ : ∃ f, f = round_Over.d)
def round_Up.d (a0 : Int) (a1 : Bool) (a2 : Bool) (a3 : Int) (a4 : Bool) (K : Bool → Prop) : Prop :=
  br a4 (K false) (br (eqI a0 0) (br (ltI 0 a3) (K true) (br (eqI a3 0) (K a2) (K false))) (br (eqI a0 4) (K (leI 0 a3)) (br (eqI a0 2) (br (eqI a0 2) (K (beqB a1 (eqI a0 2))) (K false)) (br (eqI a0 3) (K (beqB a1 (eqI a0 2))) (K false)))))
noncomputable def round_Up : Int → Bool → Bool → Int → Bool → (Bool → Prop) → Prop := Classical.choose (⟨round_Up.d, rfl⟩ : ∃ f, f = round_Up.d)
theorem round_Up.is : round_Up = round_Up.d := Classical.choose_spec (⟨round_Up.d, rfl⟩ : ∃ f, f = round_Up.d)
def round_grid.d (a0 : Int) (a1_0 : Bool) (a1_1 : Nat → Int) (a1_2 : Int) (a1_3 : Bool) (a2 : Int) (K : (Nat → Int) → Bool → Prop) : Prop :=
  br (leI (subI IntKind.i64 a2 a1_2) 0) (wide_Left a1_1 (negI IntKind.i64 (subI IntKind.i64 a2 a1_2)) fun y0 y1 => K y0 !a1_3) (jam_Cut a1_1 (subI IntKind.i64 a2 a1_2) fun y0 y1 y2 => br a1_3 (br (eqI y1 0) (round_Up a0 a1_0 (eqI (andI IntKind.u64 (y0 0) 1) 1) 1 false fun y0_1 => br y0_1 (wide_Of 1 fun y0_2 => wide_Add y0 y0_2 fun y0 y1 => K y0 false) (K y0 false)) (round_Up a0 a1_0 (eqI (andI IntKind.u64 (y0 0) 1) 1) y1 false fun y0_1 => br y0_1 (wide_Of 1 fun y0_2 => wide_Add y0 y0_2 fun y0 y1 => K y0 false) (K y0 false))) (round_Up a0 a1_0 (eqI (andI IntKind.u64 (y0 0) 1) 1) y1 y2 fun y0_1 => br y0_1 (wide_Of 1 fun y0_2 => wide_Add y0 y0_2 fun y0 y1 => K y0 y2) (K y0 y2)))
noncomputable def round_grid : Int → Bool → (Nat → Int) → Int → Bool → Int → ((Nat → Int) → Bool → Prop) → Prop := Classical.choose (⟨round_grid.d, rfl⟩ : ∃ f, f = round_grid.d)
theorem round_grid.is : round_grid = round_grid.d := Classical.choose_spec (⟨round_grid.d, rfl⟩ : ∃ f, f = round_grid.d)
def round_tiny.d (a0 : Int) (a1 : Int) (a2_0 : Bool) (a2_1 : Nat → Int) (a2_2 : Int) (a2_3 : Bool) (a3 : Int) (K : Bool → Prop) : Prop :=
  shape_Emin a0 fun y0 => shape_Precision a0 fun y0_1 => br (!eqI a3 (subI IntKind.i64 y0 1)) (K (ltI a3 y0)) (round_grid a1 a2_0 a2_1 a2_2 a2_3 (addI IntKind.i64 (subI IntKind.i64 a3 y0_1) 1) fun y0 y1 => wide_Len y0 fun y0 => K (leI y0 y0_1))
noncomputable def round_tiny : Int → Int → Bool → (Nat → Int) → Int → Bool → Int → (Bool → Prop) → Prop := Classical.choose (⟨round_tiny.d, rfl⟩ : ∃ f, f = round_tiny.d)
theorem round_tiny.is : round_tiny = round_tiny.d := Classical.choose_spec (⟨round_tiny.d, rfl⟩ : ∃ f, f = round_tiny.d)
def round_Pack.d (a0 : Int) (a1 : Int) (a2_0 : Bool) (a2_1 : Nat → Int) (a2_2 : Int) (a2_3 : Bool) (K : Int → Int → Int → Int → Prop) : Prop :=
  shape_Precision a0 fun y0 => round_right a0 a1 fun y0_1 => br (!y0_1) (K 0 0 0 2) (br (ltI a2_2 (-1048576)) (K 0 0 0 2) (br (ltI 1048576 a2_2) (K 0 0 0 2) (br a2_3 (wide_Len a2_1 fun y0_2 => br (ltI y0_2 (addI IntKind.i64 y0 2)) (K 0 0 0 2) (br (eqN 6 a2_1 fun x => 0) (shape_Zero a0 a2_0 fun y0 y1 => K y0 y1 0 0) (wide_Len a2_1 fun y0_3 => shape_Emin a0 fun y0_4 => shape_Emax a0 fun y0_5 => br (ltI y0_5 (addI IntKind.i64 (subI IntKind.i64 y0_3 1) a2_2)) (round_Over a0 a1 a2_0 fun y0 y1 y2 y3 => K y0 y1 y2 y3) (round_grid a1 a2_0 a2_1 a2_2 a2_3 (addI IntKind.i64 (subI IntKind.i64 (maxI (addI IntKind.i64 (subI IntKind.i64 y0_3 1) a2_2) y0_4) y0) 1) fun y0_6 y1 => wide_Len y0_6 fun y0_7 => shape_Emax a0 fun y0_8 => br (ltI y0_8 (addI IntKind.i64 (subI IntKind.i64 y0_7 1) (addI IntKind.i64 (subI IntKind.i64 (maxI (addI IntKind.i64 (subI IntKind.i64 y0_3 1) a2_2) y0_4) y0) 1))) (round_Over a0 a1 a2_0 fun y0 y1 y2 y3 => K y0 y1 y2 y3) (br (!y1) (round_tiny a0 a1 a2_0 a2_1 a2_2 a2_3 (addI IntKind.i64 (subI IntKind.i64 y0_3 1) a2_2) fun y0_9 => br y0_9 (wide_Of (cvI IntKind.u64 (subI IntKind.i64 (addI IntKind.i64 (subI IntKind.i64 (addI IntKind.i64 (subI IntKind.i64 (maxI (addI IntKind.i64 (subI IntKind.i64 y0_3 1) a2_2) y0_4) y0) 1) y0_4) y0) 1)) fun y0_10 => wide_Left y0_10 (subI IntKind.i64 y0 1) fun y0 y1 => wide_Add y0 y0_6 fun y0 y1 => wide_ToBits y0 fun y0 y1 y2 => shape_Zero a0 a2_0 fun y0_11 y1_1 => K (orI IntKind.u64 y0 y0_11) (orI IntKind.u64 y1 y1_1) 3 0) (wide_Of (cvI IntKind.u64 (subI IntKind.i64 (addI IntKind.i64 (subI IntKind.i64 (addI IntKind.i64 (subI IntKind.i64 (maxI (addI IntKind.i64 (subI IntKind.i64 y0_3 1) a2_2) y0_4) y0) 1) y0_4) y0) 1)) fun y0_10 => wide_Left y0_10 (subI IntKind.i64 y0 1) fun y0 y1 => wide_Add y0 y0_6 fun y0 y1 => wide_ToBits y0 fun y0 y1 y2 => shape_Zero a0 a2_0 fun y0_11 y1_1 => K (orI IntKind.u64 y0 y0_11) (orI IntKind.u64 y1 y1_1) 1 0)) (wide_Of (cvI IntKind.u64 (subI IntKind.i64 (addI IntKind.i64 (subI IntKind.i64 (addI IntKind.i64 (subI IntKind.i64 (maxI (addI IntKind.i64 (subI IntKind.i64 y0_3 1) a2_2) y0_4) y0) 1) y0_4) y0) 1)) fun y0_9 => wide_Left y0_9 (subI IntKind.i64 y0 1) fun y0 y1 => wide_Add y0 y0_6 fun y0 y1 => wide_ToBits y0 fun y0 y1 y2 => shape_Zero a0 a2_0 fun y0_10 y1_1 => K (orI IntKind.u64 y0 y0_10) (orI IntKind.u64 y1 y1_1) 0 0)))))) (br (eqN 6 a2_1 fun x => 0) (shape_Zero a0 a2_0 fun y0 y1 => K y0 y1 0 0) (wide_Len a2_1 fun y0_2 => shape_Emin a0 fun y0_3 => shape_Emax a0 fun y0_4 => br (ltI y0_4 (addI IntKind.i64 (subI IntKind.i64 y0_2 1) a2_2)) (round_Over a0 a1 a2_0 fun y0 y1 y2 y3 => K y0 y1 y2 y3) (round_grid a1 a2_0 a2_1 a2_2 a2_3 (addI IntKind.i64 (subI IntKind.i64 (maxI (addI IntKind.i64 (subI IntKind.i64 y0_2 1) a2_2) y0_3) y0) 1) fun y0_5 y1 => wide_Len y0_5 fun y0_6 => shape_Emax a0 fun y0_7 => br (ltI y0_7 (addI IntKind.i64 (subI IntKind.i64 y0_6 1) (addI IntKind.i64 (subI IntKind.i64 (maxI (addI IntKind.i64 (subI IntKind.i64 y0_2 1) a2_2) y0_3) y0) 1))) (round_Over a0 a1 a2_0 fun y0 y1 y2 y3 => K y0 y1 y2 y3) (br (!y1) (round_tiny a0 a1 a2_0 a2_1 a2_2 a2_3 (addI IntKind.i64 (subI IntKind.i64 y0_2 1) a2_2) fun y0_8 => br y0_8 (wide_Of (cvI IntKind.u64 (subI IntKind.i64 (addI IntKind.i64 (subI IntKind.i64 (addI IntKind.i64 (subI IntKind.i64 (maxI (addI IntKind.i64 (subI IntKind.i64 y0_2 1) a2_2) y0_3) y0) 1) y0_3) y0) 1)) fun y0_9 => wide_Left y0_9 (subI IntKind.i64 y0 1) fun y0 y1 => wide_Add y0 y0_5 fun y0 y1 => wide_ToBits y0 fun y0 y1 y2 => shape_Zero a0 a2_0 fun y0_10 y1_1 => K (orI IntKind.u64 y0 y0_10) (orI IntKind.u64 y1 y1_1) 3 0) (wide_Of (cvI IntKind.u64 (subI IntKind.i64 (addI IntKind.i64 (subI IntKind.i64 (addI IntKind.i64 (subI IntKind.i64 (maxI (addI IntKind.i64 (subI IntKind.i64 y0_2 1) a2_2) y0_3) y0) 1) y0_3) y0) 1)) fun y0_9 => wide_Left y0_9 (subI IntKind.i64 y0 1) fun y0 y1 => wide_Add y0 y0_5 fun y0 y1 => wide_ToBits y0 fun y0 y1 y2 => shape_Zero a0 a2_0 fun y0_10 y1_1 => K (orI IntKind.u64 y0 y0_10) (orI IntKind.u64 y1 y1_1) 1 0)) (wide_Of (cvI IntKind.u64 (subI IntKind.i64 (addI IntKind.i64 (subI IntKind.i64 (addI IntKind.i64 (subI IntKind.i64 (maxI (addI IntKind.i64 (subI IntKind.i64 y0_2 1) a2_2) y0_3) y0) 1) y0_3) y0) 1)) fun y0_8 => wide_Left y0_8 (subI IntKind.i64 y0 1) fun y0 y1 => wide_Add y0 y0_5 fun y0 y1 => wide_ToBits y0 fun y0 y1 y2 => shape_Zero a0 a2_0 fun y0_9 y1_1 => K (orI IntKind.u64 y0 y0_9) (orI IntKind.u64 y1 y1_1) 0 0))))))))
noncomputable def round_Pack : Int → Int → Bool → (Nat → Int) → Int → Bool → (Int → Int → Int → Int → Prop) → Prop := Classical.choose (⟨round_Pack.d, rfl⟩ : ∃ f, f = round_Pack.d)
theorem round_Pack.is : round_Pack = round_Pack.d := Classical.choose_spec (⟨round_Pack.d, rfl⟩ : ∃ f, f = round_Pack.d)
end Go.Ev.S

/- The functions as the evaluator has them: what each comes to. -/
set_option maxRecDepth 100000
set_option linter.unusedVariables false
set_option linter.unusedSimpArgs false
namespace Go.Ev.S
open Go Go.Ev
def nat_words.l3.step (again : List UInt8 → Nat → Nat → Int → Int → Nat → (Nat → Int) → Prop) (k0 : Nat → Nat → Nat → (Nat → Int) → Prop) (x0 : List UInt8) (x1 : Nat) (x2 : Nat) (x3 : Int) (x4 : Int) (x5 : Nat) (x6 : Nat → Int) : Prop :=
  br (ltI x4 x3) (gd (leI 0 (quoI IntKind.i64 x4 4) && ltI (quoI IntKind.i64 x4 4) ↑x1) (gd (leI 0 (subI IntKind.i64 (subI IntKind.i64 (↑(List.length x0)) 1) x4) && ltI (subI IntKind.i64 (subI IntKind.i64 (↑(List.length x0)) 1) x4) ↑(List.length x0)) (gd (!ltI (cvI IntKind.u64 (mulI IntKind.i64 8 (remI IntKind.i64 x4 4))) 0) (gd (leI 0 (quoI IntKind.i64 x4 4) && ltI (quoI IntKind.i64 x4 4) ↑x1) (again x0 x1 x2 x3 (addI IntKind.i64 x4 1) x5 (upd x6 (Int.toNat (quoI IntKind.i64 x4 4)) (orI IntKind.u32 (x6 (Int.toNat (quoI IntKind.i64 x4 4))) (shlI IntKind.u32 (cvI IntKind.u32 (byteAt x0 (Int.toNat (subI IntKind.i64 (subI IntKind.i64 (↑(List.length x0)) 1) x4)))) (cvI IntKind.u64 (mulI IntKind.i64 8 (remI IntKind.i64 x4 4))))))))))) (k0 x1 x2 x5 x6)
def nat_words.l3 (k0 : Nat → Nat → Nat → (Nat → Int) → Prop) : Nat → List UInt8 → Nat → Nat → Int → Int → Nat → (Nat → Int) → Prop
  | 0 => fun _ _ _ _ _ _ _ => False
  | n + 1 => nat_words.l3.step (nat_words.l3 k0 n) k0
def nat_words.d (a0 : List UInt8) (K : Nat → (Nat → Int) → Prop) : Prop :=
  gd (leI 0 (quoI IntKind.i64 (addI IntKind.i64 (↑(List.length a0)) 3) 4) && (leI (quoI IntKind.i64 (addI IntKind.i64 (↑(List.length a0)) 3) 4) (quoI IntKind.i64 (addI IntKind.i64 (↑(List.length a0)) 3) 4) && leI (quoI IntKind.i64 (addI IntKind.i64 (↑(List.length a0)) 3) 4) 1099511627776)) (∃ n, nat_words.l3 (fun y0 y1 y2 y3 => K y0 y3) n a0 (Int.toNat (quoI IntKind.i64 (addI IntKind.i64 (↑(List.length a0)) 3) 4)) (Int.toNat (quoI IntKind.i64 (addI IntKind.i64 (↑(List.length a0)) 3) 4)) (↑(List.length a0)) 0 (Int.toNat (quoI IntKind.i64 (addI IntKind.i64 (↑(List.length a0)) 3) 4)) fun x => 0)
noncomputable def nat_words : List UInt8 → (Nat → (Nat → Int) → Prop) → Prop := Classical.choose (⟨nat_words.d, rfl⟩ : ∃ f, f = nat_words.d)
theorem nat_words.is : nat_words = nat_words.d := Classical.choose_spec (⟨nat_words.d, rfl⟩ : ∃ f, f = nat_words.d)
end Go.Ev.S

/- The functions as the evaluator has them: what each comes to. -/
set_option maxRecDepth 100000
set_option linter.unusedVariables false
set_option linter.unusedSimpArgs false
namespace Go.Ev.S
open Go Go.Ev
end Go.Ev.S

/- The functions as the evaluator has them: what each comes to. -/
set_option maxRecDepth 100000
set_option linter.unusedVariables false
set_option linter.unusedSimpArgs false
namespace Go.Ev.S
open Go Go.Ev
end Go.Ev.S

/- The functions as the evaluator has them: what each comes to. -/
set_option maxRecDepth 100000
set_option linter.unusedVariables false
set_option linter.unusedSimpArgs false
namespace Go.Ev.S
open Go Go.Ev
end Go.Ev.S

/- The functions as the evaluator has them: what each comes to. -/
set_option maxRecDepth 100000
set_option linter.unusedVariables false
set_option linter.unusedSimpArgs false
namespace Go.Ev.S
open Go Go.Ev
end Go.Ev.S

/- The functions as the evaluator has them: what each comes to. -/
set_option maxRecDepth 100000
set_option linter.unusedVariables false
set_option linter.unusedSimpArgs false
namespace Go.Ev.S
open Go Go.Ev
end Go.Ev.S

/- The functions as the evaluator has them: what each comes to. -/
set_option maxRecDepth 100000
set_option linter.unusedVariables false
set_option linter.unusedSimpArgs false
namespace Go.Ev.S
open Go Go.Ev
end Go.Ev.S

/- The functions as the evaluator has them: what each comes to. -/
set_option maxRecDepth 100000
set_option linter.unusedVariables false
set_option linter.unusedSimpArgs false
namespace Go.Ev.S
open Go Go.Ev
def law10_alive.d (K : Bool → Prop) : Prop :=
  round_Pack 2 0 false (upd (fun x => 0) 0 4095) 0 false fun y0 y1 y2 y3 => round_Pack 2 3 false (upd (fun x => 0) 0 4095) 0 true fun y0_1 y1_1 y2_1 y3_1 => br (eqI y0 0 && eqI y1 27648) (br (eqI y2 1) (br (eqI y3 0) (K (eqI y3_1 2)) (K false)) (K false)) (K false)
noncomputable def law10_alive : (Bool → Prop) → Prop := Classical.choose (⟨law10_alive.d, rfl⟩ : ∃ f, f = law10_alive.d)
theorem law10_alive.is : law10_alive = law10_alive.d := Classical.choose_spec (⟨law10_alive.d, rfl⟩ : ∃ f, f = law10_alive.d)
def law10_RoundPacks.d (a0 : Int) (a1 : Int) (a2_0 : Bool) (a2_1 : Nat → Int) (a2_2 : Int) (a2_3 : Bool) (K : Bool → Prop) : Prop :=
  round_Pack a0 a1 a2_0 a2_1 a2_2 a2_3 fun y0 y1 y2 y3 => r10_Pack a0 a1 a2_0 a2_1 a2_2 a2_3 fun y0_1 y1_1 y2_1 y3_1 => br (eqI y0 y0_1 && eqI y1 y1_1) (br (eqI y2 y2_1) (br (eqI y3 y3_1) (law10_alive fun y0 => K y0) (K false)) (K false)) (K false)
noncomputable def law10_RoundPacks : Int → Int → Bool → (Nat → Int) → Int → Bool → (Bool → Prop) → Prop := Classical.choose (⟨law10_RoundPacks.d, rfl⟩ : ∃ f, f = law10_RoundPacks.d)
theorem law10_RoundPacks.is : law10_RoundPacks = law10_RoundPacks.d := Classical.choose_spec (⟨law10_RoundPacks.d, rfl⟩ : ∃ f, f = law10_RoundPacks.d)
end Go.Ev.S

/- The functions as the evaluator has them: what each comes to. -/
set_option maxRecDepth 100000
set_option linter.unusedVariables false
set_option linter.unusedSimpArgs false
namespace Go.Ev.S
open Go Go.Ev
end Go.Ev.S

/- The functions as the evaluator has them: what each comes to. -/
set_option maxRecDepth 100000
set_option linter.unusedVariables false
set_option linter.unusedSimpArgs false
namespace Go.Ev.S
open Go Go.Ev
end Go.Ev.S

/- The functions as the evaluator has them: what each comes to. -/
set_option maxRecDepth 100000
set_option linter.unusedVariables false
set_option linter.unusedSimpArgs false
namespace Go.Ev.S
open Go Go.Ev
end Go.Ev.S

/- The functions as the evaluator has them: what each comes to. -/
set_option maxRecDepth 100000
set_option linter.unusedVariables false
set_option linter.unusedSimpArgs false
namespace Go.Ev.S
open Go Go.Ev
end Go.Ev.S

/- The functions as the evaluator has them: what each comes to. -/
set_option maxRecDepth 100000
set_option linter.unusedVariables false
set_option linter.unusedSimpArgs false
namespace Go.Ev.S
open Go Go.Ev
end Go.Ev.S

/- The functions as the evaluator has them: what each comes to. -/
set_option maxRecDepth 100000
set_option linter.unusedVariables false
set_option linter.unusedSimpArgs false
namespace Go.Ev.S
open Go Go.Ev
end Go.Ev.S

/- The functions as the evaluator has them: what each comes to. -/
set_option maxRecDepth 100000
set_option linter.unusedVariables false
set_option linter.unusedSimpArgs false
namespace Go.Ev.S
open Go Go.Ev
end Go.Ev.S

/- The functions as the evaluator has them: what each comes to. -/
set_option maxRecDepth 100000
set_option linter.unusedVariables false
set_option linter.unusedSimpArgs false
namespace Go.Ev.S
open Go Go.Ev
end Go.Ev.S

/- The functions as the evaluator has them: what each comes to. -/
set_option maxRecDepth 100000
set_option linter.unusedVariables false
set_option linter.unusedSimpArgs false
namespace Go.Ev.S
open Go Go.Ev
end Go.Ev.S

/- The functions as the evaluator has them: what each comes to. -/
set_option maxRecDepth 100000
set_option linter.unusedVariables false
set_option linter.unusedSimpArgs false
namespace Go.Ev.S
open Go Go.Ev
end Go.Ev.S
