/- The functions as the evaluator has them: what each comes to. -/
import Derived.Test.YtdnndfaojopnbaaEvNum
import Derived.Test.YtdnndfaojopnbaaDBox
import Derived.Test.YtdnndfaojopnbaaDR22
set_option maxRecDepth 100000
set_option linter.unusedVariables false
set_option linter.unusedSimpArgs false
namespace Go.Ev.S
open Go Go.Ev
def law22_bit.d (a0_0 : Int) (a0_1 : Int) (a1 : Int) (K : Bool → Prop) : Prop :=
  br (ltI a1 64) (gd (!ltI a1 0) (K (eqI (andI IntKind.u64 (shrI IntKind.u64 a0_1 a1) 1) 1))) (gd (!ltI (subI IntKind.i64 a1 64) 0) (K (eqI (andI IntKind.u64 (shrI IntKind.u64 a0_0 (subI IntKind.i64 a1 64)) 1) 1)))
noncomputable def law22_bit : Int → Int → Int → (Bool → Prop) → Prop := Classical.choose (⟨law22_bit.d, rfl⟩ : ∃ f, f = law22_bit.d)
theorem law22_bit.is : law22_bit = law22_bit.d := Classical.choose_spec (⟨law22_bit.d, rfl⟩ : ∃ f, f = law22_bit.d)
def law22_lives.d (K : Bool → Prop) : Prop :=
  box_Box 2 0 15360 fun y0 y1 y2 => box_Unbox 2 y0 y1 fun y0_1 y1_1 y2_1 => box_Unbox 0 y0 y1 fun y0_2 y1_2 y2_2 => box_Unbox 2 0 15360 fun y0_3 y1_3 y2_3 => box_Box 2 0 65536 fun y0_4 y1_4 y2_4 => br (eqI y0 18446744073709551615) (br (eqI y1 18446744073709501440) (br (eqI y2 0) (br (eqI y1_1 15360) (br (eqI y2_1 0) (br (eqI y1_2 4294917120) (br (eqI y2_2 0) (br (eqI y1_3 32256) (br (eqI y2_3 0) (K (eqI y2_4 2)) (K false)) (K false)) (K false)) (K false)) (K false)) (K false)) (K false)) (K false)) (K false)
noncomputable def law22_lives : (Bool → Prop) → Prop := Classical.choose (⟨law22_lives.d, rfl⟩ : ∃ f, f = law22_lives.d)
theorem law22_lives.is : law22_lives = law22_lives.d := Classical.choose_spec (⟨law22_lives.d, rfl⟩ : ∃ f, f = law22_lives.d)
def law22_width.d (a0 : Int) (K : Int → Prop) : Prop :=
  gd (leI 0 a0 && ltI a0 4) (K (upd (upd (upd (upd (fun x => 0) 0 32) 1 64) 2 16) 3 128 (Int.toNat a0)))
noncomputable def law22_width : Int → (Int → Prop) → Prop := Classical.choose (⟨law22_width.d, rfl⟩ : ∃ f, f = law22_width.d)
theorem law22_width.is : law22_width = law22_width.d := Classical.choose_spec (⟨law22_width.d, rfl⟩ : ∃ f, f = law22_width.d)
def law22_BoxBack.l19.step (again : Int → Int → Int → Int → Int → Int → Int → Prop) (k0 : Int → Int → Int → Int → Prop) (x0 : Int) (x1 : Int) (x2 : Int) (x3 : Int) (x4 : Int) (x5 : Int) (x6 : Int) : Prop :=
  br (ltI x4 x1) (law22_bit x5 x6 x4 fun y0 => br y0 (again x0 x1 x2 (addI IntKind.i64 x3 1) (addI IntKind.i64 x4 1) x5 x6) (again x0 x1 x2 x3 (addI IntKind.i64 x4 1) x5 x6)) (k0 x0 x1 x2 x3)
def law22_BoxBack.l19 (k0 : Int → Int → Int → Int → Prop) : Nat → Int → Int → Int → Int → Int → Int → Int → Prop
  | 0 => fun _ _ _ _ _ _ _ => False
  | n + 1 => law22_BoxBack.l19.step (law22_BoxBack.l19 k0 n) k0
def law22_BoxBack.l19.entry : LoopEntry := ⟨LV.mk 14155776 [(0, 14155776)] 64 0, 0, 144, fun vs H K => match vs, H with
  | [EV.int IntKind.i64 x0, EV.int IntKind.i64 x1, EV.ptr 0 [], EV.int IntKind.i64 x2, EV.int IntKind.i64 x3, EV.int IntKind.i64 x4], [some (EV.agg [EV.int IntKind.u64 x5, EV.int IntKind.u64 x6])] => ∃ n, law22_BoxBack.l19 (fun y0 y1 y2 y3 => K (.exit 0) [EV.int IntKind.i64 y0, EV.int IntKind.i64 y1, EV.int IntKind.i64 y2, EV.int IntKind.i64 y3] []) n x0 x1 x2 x3 x4 x5 x6
  | _, _ => False⟩
def law22_BoxBack.d (a0 : Int) (a1 : Int) (a2_0 : Int) (a2_1 : Int) (K : Bool → Prop) : Prop :=
  box_Low (remI IntKind.u8 a0 4) a2_0 a2_1 fun y0 y1 y2 => box_Box (remI IntKind.u8 a0 4) y0 y1 fun y0_1 y1_1 y2_1 => box_Unbox (remI IntKind.u8 a0 4) y0_1 y1_1 fun y0_2 y1_2 y2_2 => box_Low (remI IntKind.u8 a0 4) y0_1 y1_1 fun y0_3 y1_3 y2_3 => br (!eqI y2 0) (K false) (br (!eqI y2_1 0) (K false) (br (!eqI y2_2 0) (K false) (br (!eqI y2_3 0) (K false) (br (!(eqI y0_2 y0 && eqI y1_2 y1)) (K false) (br (!(eqI y0_3 y0 && eqI y1_3 y1)) (K false) (box_IsBoxed (remI IntKind.u8 a0 4) y0_1 y1_1 fun y0 => br (!y0) (K false) (box_Unbox (remI IntKind.u8 a0 4) a2_0 a2_1 fun y0 y1 y2 => box_Box (remI IntKind.u8 a0 4) y0 y1 fun y0 y1 y2 => box_IsBoxed (remI IntKind.u8 a0 4) a2_0 a2_1 fun y0_4 => br (!beqB y0_4 (eqI y0 a2_0 && eqI y1 a2_1)) (br (!eqI (remI IntKind.u8 a0 4) 3) (K false) (law22_width (remI IntKind.u8 a0 4) fun y0 => law22_width (remI IntKind.u8 a1 4) fun y0_5 => br (ltI y0 y0_5) (box_IsBoxed (remI IntKind.u8 a1 4) y0_1 y1_1 fun y0_6 => br (!y0_6) (K false) (box_Unbox (remI IntKind.u8 a1 4) y0_1 y1_1 fun y0_7 y1 y2 => ∃ n, law22_BoxBack.l19 (fun y0 y1 y2 y3 => br (!eqI y2 0) (K false) (br (!eqI y3 (subI IntKind.i64 y1 y0)) (K false) (law22_lives fun y0 => K y0))) n y0 y0_5 y2 0 y0 y0_7 y1)) (law22_lives fun y0 => K y0))) (law22_width (remI IntKind.u8 a0 4) fun y0 => law22_width (remI IntKind.u8 a1 4) fun y0_5 => br (ltI y0 y0_5) (box_IsBoxed (remI IntKind.u8 a1 4) y0_1 y1_1 fun y0_6 => br (!y0_6) (K false) (box_Unbox (remI IntKind.u8 a1 4) y0_1 y1_1 fun y0_7 y1 y2 => ∃ n, law22_BoxBack.l19 (fun y0 y1 y2 y3 => br (!eqI y2 0) (K false) (br (!eqI y3 (subI IntKind.i64 y1 y0)) (K false) (law22_lives fun y0 => K y0))) n y0 y0_5 y2 0 y0 y0_7 y1)) (law22_lives fun y0 => K y0)))))))))
noncomputable def law22_BoxBack : Int → Int → Int → Int → (Bool → Prop) → Prop := Classical.choose (⟨law22_BoxBack.d, rfl⟩ : ∃ f, f = law22_BoxBack.d)
theorem law22_BoxBack.is : law22_BoxBack = law22_BoxBack.d := Classical.choose_spec (⟨law22_BoxBack.d, rfl⟩ : ∃ f, f = law22_BoxBack.d)
def law22_BoxReads.d (a0 : Int) (a1_0 : Int) (a1_1 : Int) (K : Bool → Prop) : Prop :=
  r22_Width a0 fun y0 => box_Above a0 fun y0_1 y1 y2 => box_Unbox a0 a1_0 a1_1 fun y0_2 y1_1 y2_1 => box_Low a0 a1_0 a1_1 fun y0_3 y1_2 y2_2 => box_Box a0 a1_0 a1_1 fun y0_4 y1_3 y2_3 => box_IsBoxed a0 a1_0 a1_1 fun y0_5 => r22_IsBoxed a0 a1_0 a1_1 fun y0_6 => br (!beqB y0_5 y0_6) (K false) (br (!ltI 0 y0) (br (eqI y0_1 0 && eqI y1 0) (br (eqI y2 2) (br (eqI y0_2 0 && eqI y1_1 0) (br (eqI y2_1 2) (br (eqI y0_3 0 && eqI y1_2 0) (br (eqI y2_2 2) (br (eqI y0_4 0 && eqI y1_3 0) (br (eqI y2_3 2) (law22_lives fun y0 => K y0) (K false)) (K false)) (K false)) (K false)) (K false)) (K false)) (K false)) (K false)) (br (!eqI y2 0) (K false) (br (!eqI y2_1 0) (K false) (br (!eqI y2_2 0) (K false) (r22_Above a0 fun y0 y1_4 => br (!(eqI y0_1 y0 && eqI y1 y1_4)) (K false) (r22_Unbox a0 a1_0 a1_1 fun y0 y1 => br (!(eqI y0_2 y0 && eqI y1_1 y1)) (K false) (r22_Low a0 a1_0 a1_1 fun y0 y1 => br (!(eqI y0_3 y0 && eqI y1_2 y1)) (K false) (r22_Fits a0 a1_0 a1_1 fun y0 => br (!y0) (br (eqI y0_4 0 && eqI y1_3 0) (br (eqI y2_3 2) (law22_lives fun y0 => K y0) (K false)) (K false)) (r22_Box a0 a1_0 a1_1 fun y0 y1 => br (eqI y0_4 y0 && eqI y1_3 y1) (br (eqI y2_3 0) (law22_lives fun y0 => K y0) (K false)) (K false))))))))))
noncomputable def law22_BoxReads : Int → Int → Int → (Bool → Prop) → Prop := Classical.choose (⟨law22_BoxReads.d, rfl⟩ : ∃ f, f = law22_BoxReads.d)
theorem law22_BoxReads.is : law22_BoxReads = law22_BoxReads.d := Classical.choose_spec (⟨law22_BoxReads.d, rfl⟩ : ∃ f, f = law22_BoxReads.d)
def law22_BoxWithin.d (a0 : Int) (a1 : Int) (a2_0 : Int) (a2_1 : Int) (K : Bool → Prop) : Prop :=
  box_Within (remI IntKind.u8 a0 4) a2_0 a2_1 (remI IntKind.u8 a0 4) fun y0 y1 y2 => box_Unbox (remI IntKind.u8 a0 4) a2_0 a2_1 fun y0_1 y1_1 y2_1 => br (!eqI y2 0) (K false) (br (!eqI y2_1 0) (K false) (br (!(eqI y0 y0_1 && eqI y1 y1_1)) (K false) (law22_width (remI IntKind.u8 a1 4) fun y0 => law22_width (remI IntKind.u8 a0 4) fun y0_2 => br (ltI y0 y0_2) (law22_lives fun y0 => K y0) (box_IsBoxed (remI IntKind.u8 a0 4) a2_0 a2_1 fun y0 => br (!y0) (law22_lives fun y0 => K y0) (box_Within (remI IntKind.u8 a1 4) a2_0 a2_1 (remI IntKind.u8 a0 4) fun y0 y1 y2 => br (eqI y2 0) (br (eqI y0 y0_1 && eqI y1 y1_1) (law22_lives fun y0 => K y0) (K false)) (K false))))))
noncomputable def law22_BoxWithin : Int → Int → Int → Int → (Bool → Prop) → Prop := Classical.choose (⟨law22_BoxWithin.d, rfl⟩ : ∃ f, f = law22_BoxWithin.d)
theorem law22_BoxWithin.is : law22_BoxWithin = law22_BoxWithin.d := Classical.choose_spec (⟨law22_BoxWithin.d, rfl⟩ : ∃ f, f = law22_BoxWithin.d)
end Go.Ev.S
