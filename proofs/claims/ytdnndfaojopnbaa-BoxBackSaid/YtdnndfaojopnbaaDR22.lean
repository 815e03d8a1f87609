/- The functions as the evaluator has them: what each comes to. -/
import Derived.Test.YtdnndfaojopnbaaEvNum
set_option maxRecDepth 100000
set_option linter.unusedVariables false
set_option linter.unusedSimpArgs false
namespace Go.Ev.S
open Go Go.Ev
def r22_Width.d (a0 : Int) (K : Int → Prop) : Prop :=
  br (eqI a0 2) (K 16) (br (eqI a0 0) (K 32) (br (eqI a0 1) (K 64) (br (eqI a0 3) (K 128) (K 0))))
noncomputable def r22_Width : Int → (Int → Prop) → Prop := Classical.choose (⟨r22_Width.d, rfl⟩ : ∃ f, f = r22_Width.d)
theorem r22_Width.is : r22_Width = r22_Width.d := Classical.choose_spec (⟨r22_Width.d, rfl⟩ : ∃ f, f = r22_Width.d)
def r22_with.d (a0_0 : Int) (a0_1 : Int) (a1 : Int) (K : Int → Int → Prop) : Prop :=
  br (ltI a1 64) (gd (!ltI a1 0) (K a0_0 (orI IntKind.u64 a0_1 (shlI IntKind.u64 1 a1)))) (gd (!ltI (subI IntKind.i64 a1 64) 0) (K (orI IntKind.u64 a0_0 (shlI IntKind.u64 1 (subI IntKind.i64 a1 64))) a0_1))
noncomputable def r22_with : Int → Int → Int → (Int → Int → Prop) → Prop := Classical.choose (⟨r22_with.d, rfl⟩ : ∃ f, f = r22_with.d)
theorem r22_with.is : r22_with = r22_with.d := Classical.choose_spec (⟨r22_with.d, rfl⟩ : ∃ f, f = r22_with.d)
def r22_Above.l3.step (again : Int → Int → Int → Int → Int → Prop) (k0 : Int → Int → Int → Int → Prop) (x0 : Int) (x1 : Int) (x2 : Int) (x3 : Int) (x4 : Int) : Prop :=
  br (ltI x0 128) (r22_with x3 x4 x0 fun y0 y1 => again (addI IntKind.i64 x0 1) x1 x2 y0 y1) (k0 x1 x2 x3 x4)
def r22_Above.l3 (k0 : Int → Int → Int → Int → Prop) : Nat → Int → Int → Int → Int → Int → Prop
  | 0 => fun _ _ _ _ _ => False
  | n + 1 => r22_Above.l3.step (r22_Above.l3 k0 n) k0
def r22_Above.l3.entry : LoopEntry := ⟨LV.mk 12 [(0, 12)] 4 0, 0, 15, fun vs H K => match vs, H with
  | [EV.ptr 0 [], EV.ptr 1 [], EV.int IntKind.i64 x0], [some (EV.agg [EV.int IntKind.u64 x1, EV.int IntKind.u64 x2]), some (EV.agg [EV.int IntKind.u64 x3, EV.int IntKind.u64 x4])] => ∃ n, r22_Above.l3 (fun y0 y1 y2 y3 => K (.exit 0) [EV.ptr 0 [], EV.ptr 1 []] [some (EV.agg [EV.int IntKind.u64 y0, EV.int IntKind.u64 y1]), some (EV.agg [EV.int IntKind.u64 y2, EV.int IntKind.u64 y3])]) n x0 x1 x2 x3 x4
  | _, _ => False⟩
def r22_Above.d (a0 : Int) (K : Int → Int → Prop) : Prop :=
  r22_Width a0 fun y0 => ∃ n, r22_Above.l3 (fun y0 y1 y2 y3 => K y2 y3) n y0 0 0 0 0
noncomputable def r22_Above : Int → (Int → Int → Prop) → Prop := Classical.choose (⟨r22_Above.d, rfl⟩ : ∃ f, f = r22_Above.d)
theorem r22_Above.is : r22_Above = r22_Above.d := Classical.choose_spec (⟨r22_Above.d, rfl⟩ : ∃ f, f = r22_Above.d)
def r22_Bit.d (a0_0 : Int) (a0_1 : Int) (a1 : Int) (K : Bool → Prop) : Prop :=
  br (ltI a1 64) (gd (!ltI a1 0) (K (eqI (andI IntKind.u64 (shrI IntKind.u64 a0_1 a1) 1) 1))) (gd (!ltI (subI IntKind.i64 a1 64) 0) (K (eqI (andI IntKind.u64 (shrI IntKind.u64 a0_0 (subI IntKind.i64 a1 64)) 1) 1)))
noncomputable def r22_Bit : Int → Int → Int → (Bool → Prop) → Prop := Classical.choose (⟨r22_Bit.d, rfl⟩ : ∃ f, f = r22_Bit.d)
theorem r22_Bit.is : r22_Bit = r22_Bit.d := Classical.choose_spec (⟨r22_Bit.d, rfl⟩ : ∃ f, f = r22_Bit.d)
def r22_Box.l2.step (again : Int → Int → Int → Int → Int → Prop) (k0 : Int → Int → Int → Int → Prop) (x0 : Int) (x1 : Int) (x2 : Int) (x3 : Int) (x4 : Int) : Prop :=
  br (ltI x0 128) (r22_with x1 x2 x0 fun y0 y1 => again (addI IntKind.i64 x0 1) y0 y1 x3 x4) (k0 x1 x2 x3 x4)
def r22_Box.l2 (k0 : Int → Int → Int → Int → Prop) : Nat → Int → Int → Int → Int → Int → Prop
  | 0 => fun _ _ _ _ _ => False
  | n + 1 => r22_Box.l2.step (r22_Box.l2 k0 n) k0
def r22_Box.l2.entry : LoopEntry := ⟨LV.mk 24 [(0, 24)] 16 0, 0, 16, fun vs H K => match vs, H with
  | [EV.ptr 0 [], EV.ptr 1 [], EV.int IntKind.i64 x0], [some (EV.agg [EV.int IntKind.u64 x1, EV.int IntKind.u64 x2]), some (EV.agg [EV.int IntKind.u64 x3, EV.int IntKind.u64 x4])] => ∃ n, r22_Box.l2 (fun y0 y1 y2 y3 => K (.exit 0) [EV.ptr 0 [], EV.ptr 1 []] [some (EV.agg [EV.int IntKind.u64 y0, EV.int IntKind.u64 y1]), some (EV.agg [EV.int IntKind.u64 y2, EV.int IntKind.u64 y3])]) n x0 x1 x2 x3 x4
  | _, _ => False⟩
def r22_Box.d (a0 : Int) (a1_0 : Int) (a1_1 : Int) (K : Int → Int → Prop) : Prop :=
  r22_Width a0 fun y0 => ∃ n, r22_Box.l2 (fun y0 y1 y2 y3 => K y0 y1) n y0 a1_0 a1_1 0 0
noncomputable def r22_Box : Int → Int → Int → (Int → Int → Prop) → Prop := Classical.choose (⟨r22_Box.d, rfl⟩ : ∃ f, f = r22_Box.d)
theorem r22_Box.is : r22_Box = r22_Box.d := Classical.choose_spec (⟨r22_Box.d, rfl⟩ : ∃ f, f = r22_Box.d)
def r22_Fits.l2.step (again : Int → Int → Int → Int → Prop) (k0 : Bool → Prop) (k1 : Int → Prop) (x0 : Int) (x1 : Int) (x2 : Int) (x3 : Int) : Prop :=
  br (ltI x1 128) (r22_Bit x2 x3 x1 fun y0 => br y0 (k0 false) (again x0 (addI IntKind.i64 x1 1) x2 x3)) (k1 x0)
def r22_Fits.l2 (k0 : Bool → Prop) (k1 : Int → Prop) : Nat → Int → Int → Int → Int → Prop
  | 0 => fun _ _ _ _ => False
  | n + 1 => r22_Fits.l2.step (r22_Fits.l2 k0 k1 n) k0 k1
def r22_Fits.l2.entry : LoopEntry := ⟨LV.mk 1 [(0, 1)] 16 0, 0, 18, fun vs H K => match vs, H with
  | [EV.int IntKind.u8 x0, EV.ptr 0 [], EV.int IntKind.i64 x1], [some (EV.agg [EV.int IntKind.u64 x2, EV.int IntKind.u64 x3])] => ∃ n, r22_Fits.l2 (fun y0 => K .ret [EV.bool y0] []) (fun y0 => K (.exit 0) [EV.int IntKind.u8 y0] []) n x0 x1 x2 x3
  | _, _ => False⟩
def r22_Fits.d (a0 : Int) (a1_0 : Int) (a1_1 : Int) (K : Bool → Prop) : Prop :=
  r22_Width a0 fun y0 => ∃ n, r22_Fits.l2 (fun y0 => K y0) (fun y0 => r22_Width y0 fun y0 => K (ltI 0 y0)) n a0 y0 a1_0 a1_1
noncomputable def r22_Fits : Int → Int → Int → (Bool → Prop) → Prop := Classical.choose (⟨r22_Fits.d, rfl⟩ : ∃ f, f = r22_Fits.d)
theorem r22_Fits.is : r22_Fits = r22_Fits.d := Classical.choose_spec (⟨r22_Fits.d, rfl⟩ : ∃ f, f = r22_Fits.d)
def r22_IsBoxed.l2.step (again : Int → Int → Int → Int → Prop) (k0 : Bool → Prop) (k1 : Int → Prop) (x0 : Int) (x1 : Int) (x2 : Int) (x3 : Int) : Prop :=
  br (ltI x1 128) (r22_Bit x2 x3 x1 fun y0 => br (!y0) (k0 false) (again x0 (addI IntKind.i64 x1 1) x2 x3)) (k1 x0)
def r22_IsBoxed.l2 (k0 : Bool → Prop) (k1 : Int → Prop) : Nat → Int → Int → Int → Int → Prop
  | 0 => fun _ _ _ _ => False
  | n + 1 => r22_IsBoxed.l2.step (r22_IsBoxed.l2 k0 k1 n) k0 k1
def r22_IsBoxed.l2.entry : LoopEntry := ⟨LV.mk 1 [(0, 1)] 16 0, 0, 19, fun vs H K => match vs, H with
  | [EV.int IntKind.u8 x0, EV.ptr 0 [], EV.int IntKind.i64 x1], [some (EV.agg [EV.int IntKind.u64 x2, EV.int IntKind.u64 x3])] => ∃ n, r22_IsBoxed.l2 (fun y0 => K .ret [EV.bool y0] []) (fun y0 => K (.exit 0) [EV.int IntKind.u8 y0] []) n x0 x1 x2 x3
  | _, _ => False⟩
def r22_IsBoxed.d (a0 : Int) (a1_0 : Int) (a1_1 : Int) (K : Bool → Prop) : Prop :=
  r22_Width a0 fun y0 => ∃ n, r22_IsBoxed.l2 (fun y0 => K y0) (fun y0 => r22_Width y0 fun y0 => K (ltI 0 y0)) n a0 y0 a1_0 a1_1
noncomputable def r22_IsBoxed : Int → Int → Int → (Bool → Prop) → Prop := Classical.choose (⟨r22_IsBoxed.d, rfl⟩ : ∃ f, f = r22_IsBoxed.d)
theorem r22_IsBoxed.is : r22_IsBoxed = r22_IsBoxed.d := Classical.choose_spec (⟨r22_IsBoxed.d, rfl⟩ : ∃ f, f = r22_IsBoxed.d)
def r22_Low.l3.step (again : Int → Int → Int → Int → Int → Int → Int → Int → Prop) (k0 : Int → Int → Int → Int → Prop) (x0 : Int) (x1 : Int) (x2 : Int) (x3 : Int) (x4 : Int) (x5 : Int) (x6 : Int) (x7 : Int) : Prop :=
  r22_Width x0 fun y0 => br (ltI x1 y0) (r22_Bit x2 x3 x1 fun y0 => br y0 (r22_with x6 x7 x1 fun y0 y1 => again x0 (addI IntKind.i64 x1 1) x2 x3 x4 x5 y0 y1) (again x0 (addI IntKind.i64 x1 1) x2 x3 x4 x5 x6 x7)) (k0 x4 x5 x6 x7)
def r22_Low.l3 (k0 : Int → Int → Int → Int → Prop) : Nat → Int → Int → Int → Int → Int → Int → Int → Int → Prop
  | 0 => fun _ _ _ _ _ _ _ _ => False
  | n + 1 => r22_Low.l3.step (r22_Low.l3 k0 n) k0
def r22_Low.l3.entry : LoopEntry := ⟨LV.mk 48 [(0, 48)] 16 0, 0, 20, fun vs H K => match vs, H with
  | [EV.int IntKind.u8 x0, EV.ptr 0 [], EV.ptr 1 [], EV.ptr 2 [], EV.int IntKind.i64 x1], [some (EV.agg [EV.int IntKind.u64 x2, EV.int IntKind.u64 x3]), some (EV.agg [EV.int IntKind.u64 x4, EV.int IntKind.u64 x5]), some (EV.agg [EV.int IntKind.u64 x6, EV.int IntKind.u64 x7])] => ∃ n, r22_Low.l3 (fun y0 y1 y2 y3 => K (.exit 0) [EV.ptr 0 [], EV.ptr 1 []] [some (EV.agg [EV.int IntKind.u64 y0, EV.int IntKind.u64 y1]), some (EV.agg [EV.int IntKind.u64 y2, EV.int IntKind.u64 y3])]) n x0 x1 x2 x3 x4 x5 x6 x7
  | _, _ => False⟩
def r22_Low.d (a0 : Int) (a1_0 : Int) (a1_1 : Int) (K : Int → Int → Prop) : Prop :=
  ∃ n, r22_Low.l3 (fun y0 y1 y2 y3 => K y2 y3) n a0 0 a1_0 a1_1 0 0 0 0
noncomputable def r22_Low : Int → Int → Int → (Int → Int → Prop) → Prop := Classical.choose (⟨r22_Low.d, rfl⟩ : ∃ f, f = r22_Low.d)
theorem r22_Low.is : r22_Low = r22_Low.d := Classical.choose_spec (⟨r22_Low.d, rfl⟩ : ∃ f, f = r22_Low.d)
def r22_NaN.l11.step (again : Int → Int → Int → Int → Int → Int → Prop) (k0 : Int → Int → Int → Int → Prop) (x0 : Int) (x1 : Int) (x2 : Int) (x3 : Int) (x4 : Int) (x5 : Int) : Prop :=
  r22_Width x0 fun y0 => br (ltI x1 (subI IntKind.i64 y0 1)) (r22_with x4 x5 x1 fun y0 y1 => again x0 (addI IntKind.i64 x1 1) x2 x3 y0 y1) (k0 x2 x3 x4 x5)
def r22_NaN.l11 (k0 : Int → Int → Int → Int → Prop) : Nat → Int → Int → Int → Int → Int → Int → Prop
  | 0 => fun _ _ _ _ _ _ => False
  | n + 1 => r22_NaN.l11.step (r22_NaN.l11 k0 n) k0
def r22_NaN.l11.entry : LoopEntry := ⟨LV.mk 20 [(1, 20)] 4 0, 0, 26, fun vs H K => match vs, H with
  | [EV.int IntKind.u8 x0, EV.ptr 0 [], EV.ptr 1 [], EV.int IntKind.i64 x1], [some (EV.agg [EV.int IntKind.u64 x2, EV.int IntKind.u64 x3]), some (EV.agg [EV.int IntKind.u64 x4, EV.int IntKind.u64 x5])] => ∃ n, r22_NaN.l11 (fun y0 y1 y2 y3 => K (.exit 1) [EV.ptr 0 [], EV.ptr 1 []] [some (EV.agg [EV.int IntKind.u64 y0, EV.int IntKind.u64 y1]), some (EV.agg [EV.int IntKind.u64 y2, EV.int IntKind.u64 y3])]) n x0 x1 x2 x3 x4 x5
  | _, _ => False⟩
def r22_NaN.d (a0 : Int) (K : Int → Int → Prop) : Prop :=
  br (eqI a0 0) (∃ n, r22_NaN.l11 (fun y0 y1 y2 y3 => K y2 y3) n a0 22 0 0 0 0) (br (eqI a0 1) (∃ n, r22_NaN.l11 (fun y0 y1 y2 y3 => K y2 y3) n a0 51 0 0 0 0) (br (eqI a0 3) (∃ n, r22_NaN.l11 (fun y0 y1 y2 y3 => K y2 y3) n a0 111 0 0 0 0) (∃ n, r22_NaN.l11 (fun y0 y1 y2 y3 => K y2 y3) n a0 9 0 0 0 0)))
noncomputable def r22_NaN : Int → (Int → Int → Prop) → Prop := Classical.choose (⟨r22_NaN.d, rfl⟩ : ∃ f, f = r22_NaN.d)
theorem r22_NaN.is : r22_NaN = r22_NaN.d := Classical.choose_spec (⟨r22_NaN.d, rfl⟩ : ∃ f, f = r22_NaN.d)
def r22_Unbox.d (a0 : Int) (a1_0 : Int) (a1_1 : Int) (K : Int → Int → Prop) : Prop :=
  r22_IsBoxed a0 a1_0 a1_1 fun y0 => br y0 (r22_Low a0 a1_0 a1_1 fun y0 y1 => K y0 y1) (r22_NaN a0 fun y0 y1 => K y0 y1)
noncomputable def r22_Unbox : Int → Int → Int → (Int → Int → Prop) → Prop := Classical.choose (⟨r22_Unbox.d, rfl⟩ : ∃ f, f = r22_Unbox.d)
theorem r22_Unbox.is : r22_Unbox = r22_Unbox.d := Classical.choose_spec (⟨r22_Unbox.d, rfl⟩ : ∃ f, f = r22_Unbox.d)
end Go.Ev.S
