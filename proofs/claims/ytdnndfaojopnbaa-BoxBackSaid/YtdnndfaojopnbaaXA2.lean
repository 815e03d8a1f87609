/- The functions of the seat: that the evaluator has them as they are. -/
import Derived.Test.YtdnndfaojopnbaaProg
import Derived.Test.YtdnndfaojopnbaaDShape
import Derived.Test.YtdnndfaojopnbaaDBox
import Derived.Test.YtdnndfaojopnbaaDR07
import Derived.Test.YtdnndfaojopnbaaDR22
import Derived.Test.YtdnndfaojopnbaaDLaw22
import Derived.KernelRfl
set_option maxRecDepth 100000
set_option linter.unusedVariables false
set_option linter.unusedSimpArgs false
namespace Go.Ev.S
open Go Go.Proofs Go.Ev
def tys : List (Nat × TI) := [
  (1, ⟨.func, 1, 8, .nilFunc⟩),
  (2, ⟨.int .i64, 1, 8, .int .i64 0⟩),
  (3, ⟨.int .i64, 1, 8, .int .i64 0⟩),
  (4, ⟨.bool, 1, 1, .bool false⟩),
  (5, ⟨.int .u8, 1, 1, .int .u8 0⟩),
  (6, ⟨.int .u8, 1, 1, .int .u8 0⟩),
  (7, ⟨.struct [(0, 2), (1, 3), (2, 4), (3, 6)], 4, 24, .agg [.int .i64 0, .int .i64 0, .bool false, .int .u8 0]⟩),
  (8, ⟨.struct [(0, 2), (1, 3), (2, 4), (3, 6)], 4, 24, .agg [.int .i64 0, .int .i64 0, .bool false, .int .u8 0]⟩),
  (9, ⟨.str, 1, 16, .str []⟩),
  (10, ⟨.str, 1, 16, .str []⟩),
  (11, ⟨.str, 1, 16, .str []⟩),
  (12, ⟨.int .u64, 1, 8, .int .u64 0⟩),
  (15, ⟨.ptr, 1, 8, .nilPtr⟩),
  (16, ⟨.ptr, 1, 8, .nilPtr⟩),
  (17, ⟨.ptr, 1, 8, .nilPtr⟩),
  (21, ⟨.int .i32, 1, 4, .int .i32 0⟩),
  (22, ⟨.int .u8, 1, 1, .int .u8 0⟩),
  (23, ⟨.int .u8, 1, 1, .int .u8 0⟩),
  (24, ⟨.int .u64, 1, 8, .int .u64 0⟩),
  (25, ⟨.struct [(0, 24), (1, 24)], 2, 16, .agg [.int .u64 0, .int .u64 0]⟩),
  (26, ⟨.struct [(0, 24), (1, 24)], 2, 16, .agg [.int .u64 0, .int .u64 0]⟩),
  (27, ⟨.int .i64, 1, 8, .int .i64 0⟩),
  (28, ⟨.func, 1, 8, .nilFunc⟩),
  (29, ⟨.func, 1, 8, .nilFunc⟩),
  (30, ⟨.func, 1, 8, .nilFunc⟩),
  (31, ⟨.func, 1, 8, .nilFunc⟩),
  (32, ⟨.func, 1, 8, .nilFunc⟩),
  (33, ⟨.func, 1, 8, .nilFunc⟩),
  (34, ⟨.func, 1, 8, .nilFunc⟩),
  (35, ⟨.func, 1, 8, .nilFunc⟩),
  (37, ⟨.func, 1, 8, .nilFunc⟩),
  (39, ⟨.func, 1, 8, .nilFunc⟩),
  (41, ⟨.func, 1, 8, .nilFunc⟩),
  (43, ⟨.func, 1, 8, .nilFunc⟩),
  (44, ⟨.slice 22, 1, 24, .nilSlice⟩),
  (45, ⟨.func, 1, 8, .nilFunc⟩),
  (46, ⟨.func, 1, 8, .nilFunc⟩),
  (47, ⟨.func, 1, 8, .nilFunc⟩),
  (48, ⟨.func, 1, 8, .nilFunc⟩),
  (49, ⟨.func, 1, 8, .nilFunc⟩),
  (50, ⟨.func, 1, 8, .nilFunc⟩),
  (51, ⟨.func, 1, 8, .nilFunc⟩),
  (52, ⟨.func, 1, 8, .nilFunc⟩),
  (54, ⟨.func, 1, 8, .nilFunc⟩),
  (55, ⟨.func, 1, 8, .nilFunc⟩),
  (56, ⟨.func, 1, 8, .nilFunc⟩),
  (57, ⟨.func, 1, 8, .nilFunc⟩),
  (58, ⟨.func, 1, 8, .nilFunc⟩),
  (59, ⟨.func, 1, 8, .nilFunc⟩),
  (60, ⟨.slice 26, 1, 24, .nilSlice⟩),
  (61, ⟨.array 6 24, 6, 48, .arr .u64 6 (fun _ => 0)⟩),
  (62, ⟨.array 6 24, 6, 48, .arr .u64 6 (fun _ => 0)⟩),
  (64, ⟨.func, 1, 8, .nilFunc⟩),
  (65, ⟨.func, 1, 8, .nilFunc⟩),
  (66, ⟨.func, 1, 8, .nilFunc⟩),
  (67, ⟨.func, 1, 8, .nilFunc⟩),
  (68, ⟨.array 2 22, 2, 2, .arr .u8 2 (fun _ => 0)⟩),
  (69, ⟨.func, 1, 8, .nilFunc⟩),
  (70, ⟨.func, 1, 8, .nilFunc⟩),
  (71, ⟨.func, 1, 8, .nilFunc⟩),
  (73, ⟨.func, 1, 8, .nilFunc⟩),
  (74, ⟨.int .u64, 1, 8, .int .u64 0⟩),
  (75, ⟨.func, 1, 8, .nilFunc⟩),
  (76, ⟨.array 4 22, 4, 4, .arr .u8 4 (fun _ => 0)⟩),
  (77, ⟨.func, 1, 8, .nilFunc⟩),
  (78, ⟨.func, 1, 8, .nilFunc⟩),
  (79, ⟨.func, 1, 8, .nilFunc⟩),
  (80, ⟨.func, 1, 8, .nilFunc⟩),
  (81, ⟨.func, 1, 8, .nilFunc⟩),
  (82, ⟨.func, 1, 8, .nilFunc⟩),
  (83, ⟨.slice 3, 1, 24, .nilSlice⟩),
  (84, ⟨.func, 1, 8, .nilFunc⟩),
  (85, ⟨.func, 1, 8, .nilFunc⟩),
  (87, ⟨.func, 1, 8, .nilFunc⟩),
  (88, ⟨.struct [(0, 3), (1, 3), (2, 3), (3, 9)], 4, 40, .agg [.int .i64 0, .int .i64 0, .int .i64 0, .str []]⟩),
  (89, ⟨.array 4 88, 16, 160, .agg [.agg [.int .i64 0, .int .i64 0, .int .i64 0, .str []], .agg [.int .i64 0, .int .i64 0, .int .i64 0, .str []], .agg [.int .i64 0, .int .i64 0, .int .i64 0, .str []], .agg [.int .i64 0, .int .i64 0, .int .i64 0, .str []]]⟩),
  (90, ⟨.func, 1, 8, .nilFunc⟩),
  (92, ⟨.func, 1, 8, .nilFunc⟩),
  (93, ⟨.array 4 26, 8, 64, .agg [.agg [.int .u64 0, .int .u64 0], .agg [.int .u64 0, .int .u64 0], .agg [.int .u64 0, .int .u64 0], .agg [.int .u64 0, .int .u64 0]]⟩),
  (94, ⟨.func, 1, 8, .nilFunc⟩),
  (95, ⟨.func, 1, 8, .nilFunc⟩),
  (98, ⟨.array 0 16, 0, 0, .agg []⟩),
  (101, ⟨.func, 1, 8, .nilFunc⟩),
  (102, ⟨.int .u32, 1, 4, .int .u32 0⟩),
  (103, ⟨.int .u8, 1, 1, .int .u8 0⟩),
  (104, ⟨.int .u8, 1, 1, .int .u8 0⟩),
  (105, ⟨.func, 1, 8, .nilFunc⟩),
  (106, ⟨.ptr, 1, 8, .nilPtr⟩),
  (107, ⟨.int .i32, 1, 4, .int .i32 0⟩),
  (108, ⟨.int .i32, 1, 4, .int .i32 0⟩)]
theorem tys_ok : AllL (OkTI Try.prog) tys :=
  ⟨.of (by kernel_rfl) (by kernel_rfl), .of (by kernel_rfl) (by kernel_rfl), .of (by kernel_rfl) (by kernel_rfl), .of (by kernel_rfl) (by kernel_rfl), .of (by kernel_rfl) (by kernel_rfl), .of (by kernel_rfl) (by kernel_rfl), .of (by kernel_rfl) (by kernel_rfl), .of (by kernel_rfl) (by kernel_rfl), .of (by kernel_rfl) (by kernel_rfl), .of (by kernel_rfl) (by kernel_rfl), .of (by kernel_rfl) (by kernel_rfl), .of (by kernel_rfl) (by kernel_rfl), .of (by kernel_rfl) (by kernel_rfl), .of (by kernel_rfl) (by kernel_rfl), .of (by kernel_rfl) (by kernel_rfl), .of (by kernel_rfl) (by kernel_rfl), .of (by kernel_rfl) (by kernel_rfl), .of (by kernel_rfl) (by kernel_rfl), .of (by kernel_rfl) (by kernel_rfl), .of (by kernel_rfl) (by kernel_rfl), .of (by kernel_rfl) (by kernel_rfl), .of (by kernel_rfl) (by kernel_rfl), .of (by kernel_rfl) (by kernel_rfl), .of (by kernel_rfl) (by kernel_rfl), .of (by kernel_rfl) (by kernel_rfl), .of (by kernel_rfl) (by kernel_rfl), .of (by kernel_rfl) (by kernel_rfl), .of (by kernel_rfl) (by kernel_rfl), .of (by kernel_rfl) (by kernel_rfl), .of (by kernel_rfl) (by kernel_rfl), .of (by kernel_rfl) (by kernel_rfl), .of (by kernel_rfl) (by kernel_rfl), .of (by kernel_rfl) (by kernel_rfl), .of (by kernel_rfl) (by kernel_rfl), .of (by kernel_rfl) (by kernel_rfl), .of (by kernel_rfl) (by kernel_rfl), .of (by kernel_rfl) (by kernel_rfl), .of (by kernel_rfl) (by kernel_rfl), .of (by kernel_rfl) (by kernel_rfl), .of (by kernel_rfl) (by kernel_rfl), .of (by kernel_rfl) (by kernel_rfl), .of (by kernel_rfl) (by kernel_rfl), .of (by kernel_rfl) (by kernel_rfl), .of (by kernel_rfl) (by kernel_rfl), .of (by kernel_rfl) (by kernel_rfl), .of (by kernel_rfl) (by kernel_rfl), .of (by kernel_rfl) (by kernel_rfl), .of (by kernel_rfl) (by kernel_rfl), .of (by kernel_rfl) (by kernel_rfl), .of (by kernel_rfl) (by kernel_rfl), .of (by kernel_rfl) (by kernel_rfl), .of (by kernel_rfl) (by kernel_rfl), .of (by kernel_rfl) (by kernel_rfl), .of (by kernel_rfl) (by kernel_rfl), .of (by kernel_rfl) (by kernel_rfl), .of (by kernel_rfl) (by kernel_rfl), .of (by kernel_rfl) (by kernel_rfl), .of (by kernel_rfl) (by kernel_rfl), .of (by kernel_rfl) (by kernel_rfl), .of (by kernel_rfl) (by kernel_rfl), .of (by kernel_rfl) (by kernel_rfl), .of (by kernel_rfl) (by kernel_rfl), .of (by kernel_rfl) (by kernel_rfl), .of (by kernel_rfl) (by kernel_rfl), .of (by kernel_rfl) (by kernel_rfl), .of (by kernel_rfl) (by kernel_rfl), .of (by kernel_rfl) (by kernel_rfl), .of (by kernel_rfl) (by kernel_rfl), .of (by kernel_rfl) (by kernel_rfl), .of (by kernel_rfl) (by kernel_rfl), .of (by kernel_rfl) (by kernel_rfl), .of (by kernel_rfl) (by kernel_rfl), .of (by kernel_rfl) (by kernel_rfl), .of (by kernel_rfl) (by kernel_rfl), .of (by kernel_rfl) (by kernel_rfl), .of (by kernel_rfl) (by kernel_rfl), .of (by kernel_rfl) (by kernel_rfl), .of (by kernel_rfl) (by kernel_rfl), .of (by kernel_rfl) (by kernel_rfl), .of (by kernel_rfl) (by kernel_rfl), .of (by kernel_rfl) (by kernel_rfl), .of (by kernel_rfl) (by kernel_rfl), .of (by kernel_rfl) (by kernel_rfl), .of (by kernel_rfl) (by kernel_rfl), .of (by kernel_rfl) (by kernel_rfl), .of (by kernel_rfl) (by kernel_rfl), .of (by kernel_rfl) (by kernel_rfl), .of (by kernel_rfl) (by kernel_rfl), .of (by kernel_rfl) (by kernel_rfl), .of (by kernel_rfl) (by kernel_rfl), trivial⟩
theorem mixed : Try.prog.follows .mixedOrders = true := by kernel_rfl
def gl : Nat → Option EV := look []
noncomputable def e_r22_Width : Entry := ⟨[none], false, fun args H K => match args, H with
  | [.int .u8 a0], [] => r22_Width a0 (fun y0 => K (EV.int IntKind.i64 y0) [])
  | _, _ => False⟩
noncomputable def E_r22_Width : Env := ⟨look tys, look [], look [], gl, lookL []⟩
theorem X_r22_Width.eq (a0 : Int) (K : EV → Heap → Prop) : evFn E_r22_Width Try.f46 false [.int .u8 a0] [] K = r22_Width a0 (fun y0 => K (EV.int IntKind.i64 y0) []) := by
  have h : evFn E_r22_Width Try.f46 false [.int .u8 a0] [] K = r22_Width.d a0 (fun y0 => K (EV.int IntKind.i64 y0) []) := by kernel_rfl
  rw [r22_Width.is]; exact h
theorem X_r22_Width.ok : SoundE Try.prog gl 46 e_r22_Width := by
  refine fnOK (E := E_r22_Width) (fn := Try.f46) rfl tys_ok rfl (show AllL _ [] from trivial) mixed (by kernel_rfl) (by kernel_rfl) (by kernel_rfl) 0 (by kernel_rfl) false trivial ?_
  intro args H
  by_cases hx : ∃ (a0 : Int), args = [.int .u8 a0] ∧ H = []
  · obtain ⟨a0, rfl, rfl⟩ := hx
    right; intro K
    exact iff_of_eq (X_r22_Width.eq a0 K).symm
  · left; intro K h
    simp only [e_r22_Width] at h
    split at h
    · exact hx ⟨_, rfl, rfl⟩
    · exact h
noncomputable def e_shape_Check : Entry := ⟨[none], false, fun args H K => match args, H with
  | [.int .u8 a0], [] => shape_Check a0 (fun y0 => K (EV.int IntKind.i64 y0) [])
  | _, _ => False⟩
noncomputable def E_shape_Check : Env := ⟨look tys, look [], look [], gl, lookL []⟩
theorem X_shape_Check.eq (a0 : Int) (K : EV → Heap → Prop) : evFn E_shape_Check Try.f11 false [.int .u8 a0] [] K = shape_Check a0 (fun y0 => K (EV.int IntKind.i64 y0) []) := by
  have h : evFn E_shape_Check Try.f11 false [.int .u8 a0] [] K = shape_Check.d a0 (fun y0 => K (EV.int IntKind.i64 y0) []) := by kernel_rfl
  rw [shape_Check.is]; exact h
theorem X_shape_Check.ok : SoundE Try.prog gl 11 e_shape_Check := by
  refine fnOK (E := E_shape_Check) (fn := Try.f11) rfl tys_ok rfl (show AllL _ [] from trivial) mixed (by kernel_rfl) (by kernel_rfl) (by kernel_rfl) 0 (by kernel_rfl) false trivial ?_
  intro args H
  by_cases hx : ∃ (a0 : Int), args = [.int .u8 a0] ∧ H = []
  · obtain ⟨a0, rfl, rfl⟩ := hx
    right; intro K
    exact iff_of_eq (X_shape_Check.eq a0 K).symm
  · left; intro K h
    simp only [e_shape_Check] at h
    split at h
    · exact hx ⟨_, rfl, rfl⟩
    · exact h
noncomputable def e_box_above : Entry := ⟨[none], false, fun args H K => match args, H with
  | [.int .u8 a0], [] => box_above a0 (fun y0 y1 => K (EV.agg [EV.int IntKind.u64 y0, EV.int IntKind.u64 y1]) [])
  | _, _ => False⟩
noncomputable def E_box_above : Env := ⟨look tys, look [], look [], gl, lookL []⟩
theorem X_box_above.eq (a0 : Int) (K : EV → Heap → Prop) : evFn E_box_above Try.f77 false [.int .u8 a0] [] K = box_above a0 (fun y0 y1 => K (EV.agg [EV.int IntKind.u64 y0, EV.int IntKind.u64 y1]) []) := by
  have h : evFn E_box_above Try.f77 false [.int .u8 a0] [] K = box_above.d a0 (fun y0 y1 => K (EV.agg [EV.int IntKind.u64 y0, EV.int IntKind.u64 y1]) []) := by kernel_rfl
  rw [box_above.is]; exact h
theorem X_box_above.ok : SoundE Try.prog gl 77 e_box_above := by
  refine fnOK (E := E_box_above) (fn := Try.f77) rfl tys_ok rfl (show AllL _ [] from trivial) mixed (by kernel_rfl) (by kernel_rfl) (by kernel_rfl) 0 (by kernel_rfl) false trivial ?_
  intro args H
  by_cases hx : ∃ (a0 : Int), args = [.int .u8 a0] ∧ H = []
  · obtain ⟨a0, rfl, rfl⟩ := hx
    right; intro K
    exact iff_of_eq (X_box_above.eq a0 K).symm
  · left; intro K h
    simp only [e_box_above] at h
    split at h
    · exact hx ⟨_, rfl, rfl⟩
    · exact h
noncomputable def e_box_Above : Entry := ⟨[none], false, fun args H K => match args, H with
  | [.int .u8 a0], [] => box_Above a0 (fun y0 y1 y2 => K (EV.tuple [EV.agg [EV.int IntKind.u64 y0, EV.int IntKind.u64 y1], EV.int IntKind.i64 y2]) [])
  | _, _ => False⟩
noncomputable def E_box_Above : Env := ⟨look tys, look [(11, e_shape_Check), (77, e_box_above)], look [], gl, lookL []⟩
theorem X_box_Above.eq (a0 : Int) (K : EV → Heap → Prop) : evFn E_box_Above Try.f47 false [.int .u8 a0] [] K = box_Above a0 (fun y0 y1 y2 => K (EV.tuple [EV.agg [EV.int IntKind.u64 y0, EV.int IntKind.u64 y1], EV.int IntKind.i64 y2]) []) := by
  have h : evFn E_box_Above Try.f47 false [.int .u8 a0] [] K = box_Above.d a0 (fun y0 y1 y2 => K (EV.tuple [EV.agg [EV.int IntKind.u64 y0, EV.int IntKind.u64 y1], EV.int IntKind.i64 y2]) []) := by kernel_rfl
  rw [box_Above.is]; exact h
theorem X_box_Above.ok : SoundE Try.prog gl 47 e_box_Above := by
  refine fnOK (E := E_box_Above) (fn := Try.f47) rfl tys_ok rfl (show AllL _ [(11, e_shape_Check), (77, e_box_above)] from ⟨X_shape_Check.ok, X_box_above.ok, trivial⟩) mixed (by kernel_rfl) (by kernel_rfl) (by kernel_rfl) 0 (by kernel_rfl) false trivial ?_
  intro args H
  by_cases hx : ∃ (a0 : Int), args = [.int .u8 a0] ∧ H = []
  · obtain ⟨a0, rfl, rfl⟩ := hx
    right; intro K
    exact iff_of_eq (X_box_Above.eq a0 K).symm
  · left; intro K h
    simp only [e_box_Above] at h
    split at h
    · exact hx ⟨_, rfl, rfl⟩
    · exact h
noncomputable def e_shape_numbers : Entry := ⟨[none], false, fun args H K => match args, H with
  | [.int .u8 a0], [] => shape_numbers a0 (fun y0 y1 y2 y3 => K (EV.tuple [EV.int IntKind.i64 y0, EV.int IntKind.i64 y1, EV.int IntKind.i64 y2, EV.str y3]) [])
  | _, _ => False⟩
noncomputable def E_shape_numbers : Env := ⟨look tys, look [], look [], gl, lookL []⟩
theorem X_shape_numbers.eq (a0 : Int) (K : EV → Heap → Prop) : evFn E_shape_numbers Try.f68 false [.int .u8 a0] [] K = shape_numbers a0 (fun y0 y1 y2 y3 => K (EV.tuple [EV.int IntKind.i64 y0, EV.int IntKind.i64 y1, EV.int IntKind.i64 y2, EV.str y3]) []) := by
  have h : evFn E_shape_numbers Try.f68 false [.int .u8 a0] [] K = shape_numbers.d a0 (fun y0 y1 y2 y3 => K (EV.tuple [EV.int IntKind.i64 y0, EV.int IntKind.i64 y1, EV.int IntKind.i64 y2, EV.str y3]) []) := by kernel_rfl
  rw [shape_numbers.is]; exact h
theorem X_shape_numbers.ok : SoundE Try.prog gl 68 e_shape_numbers := by
  refine fnOK (E := E_shape_numbers) (fn := Try.f68) rfl tys_ok rfl (show AllL _ [] from trivial) mixed (by kernel_rfl) (by kernel_rfl) (by kernel_rfl) 0 (by kernel_rfl) false trivial ?_
  intro args H
  by_cases hx : ∃ (a0 : Int), args = [.int .u8 a0] ∧ H = []
  · obtain ⟨a0, rfl, rfl⟩ := hx
    right; intro K
    exact iff_of_eq (X_shape_numbers.eq a0 K).symm
  · left; intro K h
    simp only [e_shape_numbers] at h
    split at h
    · exact hx ⟨_, rfl, rfl⟩
    · exact h
noncomputable def e_shape_Precision : Entry := ⟨[none], false, fun args H K => match args, H with
  | [.int .u8 a0], [] => shape_Precision a0 (fun y0 => K (EV.int IntKind.i64 y0) [])
  | _, _ => False⟩
noncomputable def E_shape_Precision : Env := ⟨look tys, look [(68, e_shape_numbers)], look [], gl, lookL []⟩
theorem X_shape_Precision.eq (a0 : Int) (K : EV → Heap → Prop) : evFn E_shape_Precision Try.f17 false [.int .u8 a0] [] K = shape_Precision a0 (fun y0 => K (EV.int IntKind.i64 y0) []) := by
  have h : evFn E_shape_Precision Try.f17 false [.int .u8 a0] [] K = shape_Precision.d a0 (fun y0 => K (EV.int IntKind.i64 y0) []) := by kernel_rfl
  rw [shape_Precision.is]; exact h
theorem X_shape_Precision.ok : SoundE Try.prog gl 17 e_shape_Precision := by
  refine fnOK (E := E_shape_Precision) (fn := Try.f17) rfl tys_ok rfl (show AllL _ [(68, e_shape_numbers)] from ⟨X_shape_numbers.ok, trivial⟩) mixed (by kernel_rfl) (by kernel_rfl) (by kernel_rfl) 0 (by kernel_rfl) false trivial ?_
  intro args H
  by_cases hx : ∃ (a0 : Int), args = [.int .u8 a0] ∧ H = []
  · obtain ⟨a0, rfl, rfl⟩ := hx
    right; intro K
    exact iff_of_eq (X_shape_Precision.eq a0 K).symm
  · left; intro K h
    simp only [e_shape_Precision] at h
    split at h
    · exact hx ⟨_, rfl, rfl⟩
    · exact h
noncomputable def e_shape_Emax : Entry := ⟨[none], false, fun args H K => match args, H with
  | [.int .u8 a0], [] => shape_Emax a0 (fun y0 => K (EV.int IntKind.i64 y0) [])
  | _, _ => False⟩
noncomputable def E_shape_Emax : Env := ⟨look tys, look [(68, e_shape_numbers)], look [], gl, lookL []⟩
theorem X_shape_Emax.eq (a0 : Int) (K : EV → Heap → Prop) : evFn E_shape_Emax Try.f19 false [.int .u8 a0] [] K = shape_Emax a0 (fun y0 => K (EV.int IntKind.i64 y0) []) := by
  have h : evFn E_shape_Emax Try.f19 false [.int .u8 a0] [] K = shape_Emax.d a0 (fun y0 => K (EV.int IntKind.i64 y0) []) := by kernel_rfl
  rw [shape_Emax.is]; exact h
theorem X_shape_Emax.ok : SoundE Try.prog gl 19 e_shape_Emax := by
  refine fnOK (E := E_shape_Emax) (fn := Try.f19) rfl tys_ok rfl (show AllL _ [(68, e_shape_numbers)] from ⟨X_shape_numbers.ok, trivial⟩) mixed (by kernel_rfl) (by kernel_rfl) (by kernel_rfl) 0 (by kernel_rfl) false trivial ?_
  intro args H
  by_cases hx : ∃ (a0 : Int), args = [.int .u8 a0] ∧ H = []
  · obtain ⟨a0, rfl, rfl⟩ := hx
    right; intro K
    exact iff_of_eq (X_shape_Emax.eq a0 K).symm
  · left; intro K h
    simp only [e_shape_Emax] at h
    split at h
    · exact hx ⟨_, rfl, rfl⟩
    · exact h
noncomputable def e_shape_at : Entry := ⟨[none, none], false, fun args H K => match args, H with
  | [.int .u64 a0, .int .i64 a1], [] => shape_at a0 a1 (fun y0 y1 => K (EV.agg [EV.int IntKind.u64 y0, EV.int IntKind.u64 y1]) [])
  | _, _ => False⟩
noncomputable def E_shape_at : Env := ⟨look tys, look [], look [], gl, lookL []⟩
theorem X_shape_at.eq (a0 : Int) (a1 : Int) (K : EV → Heap → Prop) : evFn E_shape_at Try.f71 false [.int .u64 a0, .int .i64 a1] [] K = shape_at a0 a1 (fun y0 y1 => K (EV.agg [EV.int IntKind.u64 y0, EV.int IntKind.u64 y1]) []) := by
  have h : evFn E_shape_at Try.f71 false [.int .u64 a0, .int .i64 a1] [] K = shape_at.d a0 a1 (fun y0 y1 => K (EV.agg [EV.int IntKind.u64 y0, EV.int IntKind.u64 y1]) []) := by kernel_rfl
  rw [shape_at.is]; exact h
theorem X_shape_at.ok : SoundE Try.prog gl 71 e_shape_at := by
  refine fnOK (E := E_shape_at) (fn := Try.f71) rfl tys_ok rfl (show AllL _ [] from trivial) mixed (by kernel_rfl) (by kernel_rfl) (by kernel_rfl) 0 (by kernel_rfl) false trivial ?_
  intro args H
  by_cases hx : ∃ (a0 : Int) (a1 : Int), args = [.int .u64 a0, .int .i64 a1] ∧ H = []
  · obtain ⟨a0, a1, rfl, rfl⟩ := hx
    right; intro K
    exact iff_of_eq (X_shape_at.eq a0 a1 K).symm
  · left; intro K h
    simp only [e_shape_at] at h
    split at h
    · exact hx ⟨_, _, rfl, rfl⟩
    · exact h
noncomputable def e_shape_NaN : Entry := ⟨[none], false, fun args H K => match args, H with
  | [.int .u8 a0], [] => shape_NaN a0 (fun y0 y1 => K (EV.agg [EV.int IntKind.u64 y0, EV.int IntKind.u64 y1]) [])
  | _, _ => False⟩
noncomputable def E_shape_NaN : Env := ⟨look tys, look [(11, e_shape_Check), (17, e_shape_Precision), (19, e_shape_Emax), (71, e_shape_at)], look [], gl, lookL []⟩
theorem X_shape_NaN.eq (a0 : Int) (K : EV → Heap → Prop) : evFn E_shape_NaN Try.f32 false [.int .u8 a0] [] K = shape_NaN a0 (fun y0 y1 => K (EV.agg [EV.int IntKind.u64 y0, EV.int IntKind.u64 y1]) []) := by
  have h : evFn E_shape_NaN Try.f32 false [.int .u8 a0] [] K = shape_NaN.d a0 (fun y0 y1 => K (EV.agg [EV.int IntKind.u64 y0, EV.int IntKind.u64 y1]) []) := by kernel_rfl
  rw [shape_NaN.is]; exact h
theorem X_shape_NaN.ok : SoundE Try.prog gl 32 e_shape_NaN := by
  refine fnOK (E := E_shape_NaN) (fn := Try.f32) rfl tys_ok rfl (show AllL _ [(11, e_shape_Check), (17, e_shape_Precision), (19, e_shape_Emax), (71, e_shape_at)] from ⟨X_shape_Check.ok, X_shape_Precision.ok, X_shape_Emax.ok, X_shape_at.ok, trivial⟩) mixed (by kernel_rfl) (by kernel_rfl) (by kernel_rfl) 0 (by kernel_rfl) false trivial ?_
  intro args H
  by_cases hx : ∃ (a0 : Int), args = [.int .u8 a0] ∧ H = []
  · obtain ⟨a0, rfl, rfl⟩ := hx
    right; intro K
    exact iff_of_eq (X_shape_NaN.eq a0 K).symm
  · left; intro K h
    simp only [e_shape_NaN] at h
    split at h
    · exact hx ⟨_, rfl, rfl⟩
    · exact h
noncomputable def e_box_Low : Entry := ⟨[none, none], false, fun args H K => match args, H with
  | [.int .u8 a0, .agg [.int .u64 a1_0, .int .u64 a1_1]], [] => box_Low a0 a1_0 a1_1 (fun y0 y1 y2 => K (EV.tuple [EV.agg [EV.int IntKind.u64 y0, EV.int IntKind.u64 y1], EV.int IntKind.i64 y2]) [])
  | _, _ => False⟩
noncomputable def E_box_Low : Env := ⟨look tys, look [(47, e_box_Above)], look [], gl, lookL []⟩
theorem X_box_Low.eq (a0 : Int) (a1_0 : Int) (a1_1 : Int) (K : EV → Heap → Prop) : evFn E_box_Low Try.f49 false [.int .u8 a0, .agg [.int .u64 a1_0, .int .u64 a1_1]] [] K = box_Low a0 a1_0 a1_1 (fun y0 y1 y2 => K (EV.tuple [EV.agg [EV.int IntKind.u64 y0, EV.int IntKind.u64 y1], EV.int IntKind.i64 y2]) []) := by
  have h : evFn E_box_Low Try.f49 false [.int .u8 a0, .agg [.int .u64 a1_0, .int .u64 a1_1]] [] K = box_Low.d a0 a1_0 a1_1 (fun y0 y1 y2 => K (EV.tuple [EV.agg [EV.int IntKind.u64 y0, EV.int IntKind.u64 y1], EV.int IntKind.i64 y2]) []) := by kernel_rfl
  rw [box_Low.is]; exact h
theorem X_box_Low.ok : SoundE Try.prog gl 49 e_box_Low := by
  refine fnOK (E := E_box_Low) (fn := Try.f49) rfl tys_ok rfl (show AllL _ [(47, e_box_Above)] from ⟨X_box_Above.ok, trivial⟩) mixed (by kernel_rfl) (by kernel_rfl) (by kernel_rfl) 0 (by kernel_rfl) false trivial ?_
  intro args H
  by_cases hx : ∃ (a0 : Int) (a1_0 : Int) (a1_1 : Int), args = [.int .u8 a0, .agg [.int .u64 a1_0, .int .u64 a1_1]] ∧ H = []
  · obtain ⟨a0, a1_0, a1_1, rfl, rfl⟩ := hx
    right; intro K
    exact iff_of_eq (X_box_Low.eq a0 a1_0 a1_1 K).symm
  · left; intro K h
    simp only [e_box_Low] at h
    split at h
    · exact hx ⟨_, _, _, rfl, rfl⟩
    · exact h
noncomputable def e_box_IsBoxed : Entry := ⟨[none, none], false, fun args H K => match args, H with
  | [.int .u8 a0, .agg [.int .u64 a1_0, .int .u64 a1_1]], [] => box_IsBoxed a0 a1_0 a1_1 (fun y0 => K (EV.bool y0) [])
  | _, _ => False⟩
noncomputable def E_box_IsBoxed : Env := ⟨look tys, look [(47, e_box_Above)], look [], gl, lookL []⟩
theorem X_box_IsBoxed.eq (a0 : Int) (a1_0 : Int) (a1_1 : Int) (K : EV → Heap → Prop) : evFn E_box_IsBoxed Try.f51 false [.int .u8 a0, .agg [.int .u64 a1_0, .int .u64 a1_1]] [] K = box_IsBoxed a0 a1_0 a1_1 (fun y0 => K (EV.bool y0) []) := by
  have h : evFn E_box_IsBoxed Try.f51 false [.int .u8 a0, .agg [.int .u64 a1_0, .int .u64 a1_1]] [] K = box_IsBoxed.d a0 a1_0 a1_1 (fun y0 => K (EV.bool y0) []) := by kernel_rfl
  rw [box_IsBoxed.is]; exact h
theorem X_box_IsBoxed.ok : SoundE Try.prog gl 51 e_box_IsBoxed := by
  refine fnOK (E := E_box_IsBoxed) (fn := Try.f51) rfl tys_ok rfl (show AllL _ [(47, e_box_Above)] from ⟨X_box_Above.ok, trivial⟩) mixed (by kernel_rfl) (by kernel_rfl) (by kernel_rfl) 0 (by kernel_rfl) false trivial ?_
  intro args H
  by_cases hx : ∃ (a0 : Int) (a1_0 : Int) (a1_1 : Int), args = [.int .u8 a0, .agg [.int .u64 a1_0, .int .u64 a1_1]] ∧ H = []
  · obtain ⟨a0, a1_0, a1_1, rfl, rfl⟩ := hx
    right; intro K
    exact iff_of_eq (X_box_IsBoxed.eq a0 a1_0 a1_1 K).symm
  · left; intro K h
    simp only [e_box_IsBoxed] at h
    split at h
    · exact hx ⟨_, _, _, rfl, rfl⟩
    · exact h
noncomputable def e_box_Unbox : Entry := ⟨[none, none], false, fun args H K => match args, H with
  | [.int .u8 a0, .agg [.int .u64 a1_0, .int .u64 a1_1]], [] => box_Unbox a0 a1_0 a1_1 (fun y0 y1 y2 => K (EV.tuple [EV.agg [EV.int IntKind.u64 y0, EV.int IntKind.u64 y1], EV.int IntKind.i64 y2]) [])
  | _, _ => False⟩
noncomputable def E_box_Unbox : Env := ⟨look tys, look [(32, e_shape_NaN), (49, e_box_Low), (51, e_box_IsBoxed)], look [], gl, lookL []⟩
theorem X_box_Unbox.eq (a0 : Int) (a1_0 : Int) (a1_1 : Int) (K : EV → Heap → Prop) : evFn E_box_Unbox Try.f48 false [.int .u8 a0, .agg [.int .u64 a1_0, .int .u64 a1_1]] [] K = box_Unbox a0 a1_0 a1_1 (fun y0 y1 y2 => K (EV.tuple [EV.agg [EV.int IntKind.u64 y0, EV.int IntKind.u64 y1], EV.int IntKind.i64 y2]) []) := by
  have h : evFn E_box_Unbox Try.f48 false [.int .u8 a0, .agg [.int .u64 a1_0, .int .u64 a1_1]] [] K = box_Unbox.d a0 a1_0 a1_1 (fun y0 y1 y2 => K (EV.tuple [EV.agg [EV.int IntKind.u64 y0, EV.int IntKind.u64 y1], EV.int IntKind.i64 y2]) []) := by kernel_rfl
  rw [box_Unbox.is]; exact h
theorem X_box_Unbox.ok : SoundE Try.prog gl 48 e_box_Unbox := by
  refine fnOK (E := E_box_Unbox) (fn := Try.f48) rfl tys_ok rfl (show AllL _ [(32, e_shape_NaN), (49, e_box_Low), (51, e_box_IsBoxed)] from ⟨X_shape_NaN.ok, X_box_Low.ok, X_box_IsBoxed.ok, trivial⟩) mixed (by kernel_rfl) (by kernel_rfl) (by kernel_rfl) 0 (by kernel_rfl) false trivial ?_
  intro args H
  by_cases hx : ∃ (a0 : Int) (a1_0 : Int) (a1_1 : Int), args = [.int .u8 a0, .agg [.int .u64 a1_0, .int .u64 a1_1]] ∧ H = []
  · obtain ⟨a0, a1_0, a1_1, rfl, rfl⟩ := hx
    right; intro K
    exact iff_of_eq (X_box_Unbox.eq a0 a1_0 a1_1 K).symm
  · left; intro K h
    simp only [e_box_Unbox] at h
    split at h
    · exact hx ⟨_, _, _, rfl, rfl⟩
    · exact h
noncomputable def e_shape_Width : Entry := ⟨[none], false, fun args H K => match args, H with
  | [.int .u8 a0], [] => shape_Width a0 (fun y0 => K (EV.int IntKind.i64 y0) [])
  | _, _ => False⟩
noncomputable def E_shape_Width : Env := ⟨look tys, look [(68, e_shape_numbers)], look [], gl, lookL []⟩
theorem X_shape_Width.eq (a0 : Int) (K : EV → Heap → Prop) : evFn E_shape_Width Try.f15 false [.int .u8 a0] [] K = shape_Width a0 (fun y0 => K (EV.int IntKind.i64 y0) []) := by
  have h : evFn E_shape_Width Try.f15 false [.int .u8 a0] [] K = shape_Width.d a0 (fun y0 => K (EV.int IntKind.i64 y0) []) := by kernel_rfl
  rw [shape_Width.is]; exact h
theorem X_shape_Width.ok : SoundE Try.prog gl 15 e_shape_Width := by
  refine fnOK (E := E_shape_Width) (fn := Try.f15) rfl tys_ok rfl (show AllL _ [(68, e_shape_numbers)] from ⟨X_shape_numbers.ok, trivial⟩) mixed (by kernel_rfl) (by kernel_rfl) (by kernel_rfl) 0 (by kernel_rfl) false trivial ?_
  intro args H
  by_cases hx : ∃ (a0 : Int), args = [.int .u8 a0] ∧ H = []
  · obtain ⟨a0, rfl, rfl⟩ := hx
    right; intro K
    exact iff_of_eq (X_shape_Width.eq a0 K).symm
  · left; intro K h
    simp only [e_shape_Width] at h
    split at h
    · exact hx ⟨_, rfl, rfl⟩
    · exact h
noncomputable def e_shape_Fits : Entry := ⟨[none, none], false, fun args H K => match args, H with
  | [.int .u8 a0, .agg [.int .u64 a1_0, .int .u64 a1_1]], [] => shape_Fits a0 a1_0 a1_1 (fun y0 => K (EV.bool y0) [])
  | _, _ => False⟩
noncomputable def E_shape_Fits : Env := ⟨look tys, look [(15, e_shape_Width)], look [], gl, lookL []⟩
theorem X_shape_Fits.eq (a0 : Int) (a1_0 : Int) (a1_1 : Int) (K : EV → Heap → Prop) : evFn E_shape_Fits Try.f23 false [.int .u8 a0, .agg [.int .u64 a1_0, .int .u64 a1_1]] [] K = shape_Fits a0 a1_0 a1_1 (fun y0 => K (EV.bool y0) []) := by
  have h : evFn E_shape_Fits Try.f23 false [.int .u8 a0, .agg [.int .u64 a1_0, .int .u64 a1_1]] [] K = shape_Fits.d a0 a1_0 a1_1 (fun y0 => K (EV.bool y0) []) := by kernel_rfl
  rw [shape_Fits.is]; exact h
theorem X_shape_Fits.ok : SoundE Try.prog gl 23 e_shape_Fits := by
  refine fnOK (E := E_shape_Fits) (fn := Try.f23) rfl tys_ok rfl (show AllL _ [(15, e_shape_Width)] from ⟨X_shape_Width.ok, trivial⟩) mixed (by kernel_rfl) (by kernel_rfl) (by kernel_rfl) 0 (by kernel_rfl) false trivial ?_
  intro args H
  by_cases hx : ∃ (a0 : Int) (a1_0 : Int) (a1_1 : Int), args = [.int .u8 a0, .agg [.int .u64 a1_0, .int .u64 a1_1]] ∧ H = []
  · obtain ⟨a0, a1_0, a1_1, rfl, rfl⟩ := hx
    right; intro K
    exact iff_of_eq (X_shape_Fits.eq a0 a1_0 a1_1 K).symm
  · left; intro K h
    simp only [e_shape_Fits] at h
    split at h
    · exact hx ⟨_, _, _, rfl, rfl⟩
    · exact h
noncomputable def e_box_Box : Entry := ⟨[none, none], false, fun args H K => match args, H with
  | [.int .u8 a0, .agg [.int .u64 a1_0, .int .u64 a1_1]], [] => box_Box a0 a1_0 a1_1 (fun y0 y1 y2 => K (EV.tuple [EV.agg [EV.int IntKind.u64 y0, EV.int IntKind.u64 y1], EV.int IntKind.i64 y2]) [])
  | _, _ => False⟩
noncomputable def E_box_Box : Env := ⟨look tys, look [(23, e_shape_Fits), (77, e_box_above)], look [], gl, lookL []⟩
theorem X_box_Box.eq (a0 : Int) (a1_0 : Int) (a1_1 : Int) (K : EV → Heap → Prop) : evFn E_box_Box Try.f50 false [.int .u8 a0, .agg [.int .u64 a1_0, .int .u64 a1_1]] [] K = box_Box a0 a1_0 a1_1 (fun y0 y1 y2 => K (EV.tuple [EV.agg [EV.int IntKind.u64 y0, EV.int IntKind.u64 y1], EV.int IntKind.i64 y2]) []) := by
  have h : evFn E_box_Box Try.f50 false [.int .u8 a0, .agg [.int .u64 a1_0, .int .u64 a1_1]] [] K = box_Box.d a0 a1_0 a1_1 (fun y0 y1 y2 => K (EV.tuple [EV.agg [EV.int IntKind.u64 y0, EV.int IntKind.u64 y1], EV.int IntKind.i64 y2]) []) := by kernel_rfl
  rw [box_Box.is]; exact h
theorem X_box_Box.ok : SoundE Try.prog gl 50 e_box_Box := by
  refine fnOK (E := E_box_Box) (fn := Try.f50) rfl tys_ok rfl (show AllL _ [(23, e_shape_Fits), (77, e_box_above)] from ⟨X_shape_Fits.ok, X_box_above.ok, trivial⟩) mixed (by kernel_rfl) (by kernel_rfl) (by kernel_rfl) 0 (by kernel_rfl) false trivial ?_
  intro args H
  by_cases hx : ∃ (a0 : Int) (a1_0 : Int) (a1_1 : Int), args = [.int .u8 a0, .agg [.int .u64 a1_0, .int .u64 a1_1]] ∧ H = []
  · obtain ⟨a0, a1_0, a1_1, rfl, rfl⟩ := hx
    right; intro K
    exact iff_of_eq (X_box_Box.eq a0 a1_0 a1_1 K).symm
  · left; intro K h
    simp only [e_box_Box] at h
    split at h
    · exact hx ⟨_, _, _, rfl, rfl⟩
    · exact h
noncomputable def e_r22_Bit : Entry := ⟨[none, none], false, fun args H K => match args, H with
  | [.agg [.int .u64 a0_0, .int .u64 a0_1], .int .i64 a1], [] => r22_Bit a0_0 a0_1 a1 (fun y0 => K (EV.bool y0) [])
  | _, _ => False⟩
noncomputable def E_r22_Bit : Env := ⟨look tys, look [], look [], gl, lookL []⟩
theorem X_r22_Bit.eq (a0_0 : Int) (a0_1 : Int) (a1 : Int) (K : EV → Heap → Prop) : evFn E_r22_Bit Try.f78 false [.agg [.int .u64 a0_0, .int .u64 a0_1], .int .i64 a1] [] K = r22_Bit a0_0 a0_1 a1 (fun y0 => K (EV.bool y0) []) := by
  have h : evFn E_r22_Bit Try.f78 false [.agg [.int .u64 a0_0, .int .u64 a0_1], .int .i64 a1] [] K = r22_Bit.d a0_0 a0_1 a1 (fun y0 => K (EV.bool y0) []) := by kernel_rfl
  rw [r22_Bit.is]; exact h
theorem X_r22_Bit.ok : SoundE Try.prog gl 78 e_r22_Bit := by
  refine fnOK (E := E_r22_Bit) (fn := Try.f78) rfl tys_ok rfl (show AllL _ [] from trivial) mixed (by kernel_rfl) (by kernel_rfl) (by kernel_rfl) 0 (by kernel_rfl) false trivial ?_
  intro args H
  by_cases hx : ∃ (a0_0 : Int) (a0_1 : Int) (a1 : Int), args = [.agg [.int .u64 a0_0, .int .u64 a0_1], .int .i64 a1] ∧ H = []
  · obtain ⟨a0_0, a0_1, a1, rfl, rfl⟩ := hx
    right; intro K
    exact iff_of_eq (X_r22_Bit.eq a0_0 a0_1 a1 K).symm
  · left; intro K h
    simp only [e_r22_Bit] at h
    split at h
    · exact hx ⟨_, _, _, rfl, rfl⟩
    · exact h
noncomputable def e_r22_IsBoxed : Entry := ⟨[none, none], false, fun args H K => match args, H with
  | [.int .u8 a0, .agg [.int .u64 a1_0, .int .u64 a1_1]], [] => r22_IsBoxed a0 a1_0 a1_1 (fun y0 => K (EV.bool y0) [])
  | _, _ => False⟩
noncomputable def E_r22_IsBoxed : Env := ⟨look tys, look [(46, e_r22_Width), (78, e_r22_Bit)], look [(2, r22_IsBoxed.l2.entry)], gl, lookL []⟩
theorem r22_IsBoxed.l2X.stepEq (R : List EV → Heap → Prop) (K : Ex → List EV → Heap → Prop) (x0 : Int) (x1 : Int) (x2 : Int) (x3 : Int) : loopStep (evCode E_r22_IsBoxed (loopAt Try.f52 0) { (LV.mk 1 [(0, 1)] 16 0) with nx := live (.loop (loopAt Try.f52 0)) (LV.mk 1 [(0, 1)] 16 0) }) (live (.loop (loopAt Try.f52 0)) (LV.mk 1 [(0, 1)] 16 0)) (LV.mk 1 [(0, 1)] 16 0) 0 19 R [EV.int IntKind.u8 x0, EV.ptr 0 [], EV.int IntKind.i64 x1] [some (EV.agg [EV.int IntKind.u64 x2, EV.int IntKind.u64 x3])] K = r22_IsBoxed.l2.step (fun x0 x1 x2 x3 => R [EV.int IntKind.u8 x0, EV.ptr 0 [], EV.int IntKind.i64 x1] [some (EV.agg [EV.int IntKind.u64 x2, EV.int IntKind.u64 x3])]) (fun y0 => K .ret [EV.bool y0] []) (fun y0 => K (.exit 0) [EV.int IntKind.u8 y0] []) x0 x1 x2 x3 := by kernel_rfl
theorem r22_IsBoxed.l2X.eq (K : Ex → List EV → Heap → Prop) : ∀ (n : Nat) (x0 : Int) (x1 : Int) (x2 : Int) (x3 : Int), loopE E_r22_IsBoxed (loopAt Try.f52 0) (LV.mk 1 [(0, 1)] 16 0) 0 19 K n [EV.int IntKind.u8 x0, EV.ptr 0 [], EV.int IntKind.i64 x1] [some (EV.agg [EV.int IntKind.u64 x2, EV.int IntKind.u64 x3])] = r22_IsBoxed.l2 (fun y0 => K .ret [EV.bool y0] []) (fun y0 => K (.exit 0) [EV.int IntKind.u8 y0] []) n x0 x1 x2 x3
  | 0, _, _, _, _ => rfl
  | n + 1, x0, x1, x2, x3 => by
    have ih : (fun (x0 : Int) (x1 : Int) (x2 : Int) (x3 : Int) => loopE E_r22_IsBoxed (loopAt Try.f52 0) (LV.mk 1 [(0, 1)] 16 0) 0 19 K n [EV.int IntKind.u8 x0, EV.ptr 0 [], EV.int IntKind.i64 x1] [some (EV.agg [EV.int IntKind.u64 x2, EV.int IntKind.u64 x3])]) = r22_IsBoxed.l2 (fun y0 => K .ret [EV.bool y0] []) (fun y0 => K (.exit 0) [EV.int IntKind.u8 y0] []) n := by funext x0 x1 x2 x3; exact r22_IsBoxed.l2X.eq K n x0 x1 x2 x3
    show loopStep _ _ _ _ _ (loopE E_r22_IsBoxed (loopAt Try.f52 0) (LV.mk 1 [(0, 1)] 16 0) 0 19 K n) [EV.int IntKind.u8 x0, EV.ptr 0 [], EV.int IntKind.i64 x1] [some (EV.agg [EV.int IntKind.u64 x2, EV.int IntKind.u64 x3])] K = r22_IsBoxed.l2.step (r22_IsBoxed.l2 (fun y0 => K .ret [EV.bool y0] []) (fun y0 => K (.exit 0) [EV.int IntKind.u8 y0] []) n) (fun y0 => K .ret [EV.bool y0] []) (fun y0 => K (.exit 0) [EV.int IntKind.u8 y0] []) x0 x1 x2 x3
    rw [← ih]
    exact r22_IsBoxed.l2X.stepEq _ K x0 x1 x2 x3
theorem r22_IsBoxed.l2X.ok : LoopEq E_r22_IsBoxed (loopAt Try.f52 0) := by
  intro L hL vs H
  have h1 : E_r22_IsBoxed.lp (firstRegion (loopAt Try.f52 0)) = some r22_IsBoxed.l2.entry := by kernel_rfl
  have h2 : L = r22_IsBoxed.l2.entry := Option.some.inj (hL.symm.trans h1)
  subst h2
  by_cases hx : ∃ (x0 : Int) (x1 : Int) (x2 : Int) (x3 : Int), vs = [EV.int IntKind.u8 x0, EV.ptr 0 [], EV.int IntKind.i64 x1] ∧ H = [some (EV.agg [EV.int IntKind.u64 x2, EV.int IntKind.u64 x3])]
  · obtain ⟨x0, x1, x2, x3, rfl, rfl⟩ := hx
    right; intro K
    exact exists_congr fun n => iff_of_eq (r22_IsBoxed.l2X.eq K n x0 x1 x2 x3).symm
  · left; intro K h
    simp only [r22_IsBoxed.l2.entry] at h
    split at h
    · exact hx ⟨_, _, _, _, rfl, rfl⟩
    · exact h
theorem X_r22_IsBoxed.eq (a0 : Int) (a1_0 : Int) (a1_1 : Int) (K : EV → Heap → Prop) : evFn E_r22_IsBoxed Try.f52 false [.int .u8 a0, .agg [.int .u64 a1_0, .int .u64 a1_1]] [] K = r22_IsBoxed a0 a1_0 a1_1 (fun y0 => K (EV.bool y0) []) := by
  have h : evFn E_r22_IsBoxed Try.f52 false [.int .u8 a0, .agg [.int .u64 a1_0, .int .u64 a1_1]] [] K = r22_IsBoxed.d a0 a1_0 a1_1 (fun y0 => K (EV.bool y0) []) := by kernel_rfl
  rw [r22_IsBoxed.is]; exact h
theorem X_r22_IsBoxed.ok : SoundE Try.prog gl 52 e_r22_IsBoxed := by
  refine fnOK (E := E_r22_IsBoxed) (fn := Try.f52) rfl tys_ok rfl (show AllL _ [(46, e_r22_Width), (78, e_r22_Bit)] from ⟨X_r22_Width.ok, X_r22_Bit.ok, trivial⟩) mixed (by kernel_rfl) (by kernel_rfl) (by kernel_rfl) 1 (by kernel_rfl) false ⟨r22_IsBoxed.l2X.ok, trivial⟩ ?_
  intro args H
  by_cases hx : ∃ (a0 : Int) (a1_0 : Int) (a1_1 : Int), args = [.int .u8 a0, .agg [.int .u64 a1_0, .int .u64 a1_1]] ∧ H = []
  · obtain ⟨a0, a1_0, a1_1, rfl, rfl⟩ := hx
    right; intro K
    exact iff_of_eq (X_r22_IsBoxed.eq a0 a1_0 a1_1 K).symm
  · left; intro K h
    simp only [e_r22_IsBoxed] at h
    split at h
    · exact hx ⟨_, _, _, rfl, rfl⟩
    · exact h
noncomputable def e_law22_lives : Entry := ⟨[], false, fun args H K => match args, H with
  | [], [] => law22_lives  (fun y0 => K (EV.bool y0) [])
  | _, _ => False⟩
noncomputable def E_law22_lives : Env := ⟨look tys, look [(48, e_box_Unbox), (50, e_box_Box)], look [], gl, lookL []⟩
theorem X_law22_lives.eq (K : EV → Heap → Prop) : evFn E_law22_lives Try.f53 false [] [] K = law22_lives  (fun y0 => K (EV.bool y0) []) := by
  have h : evFn E_law22_lives Try.f53 false [] [] K = law22_lives.d  (fun y0 => K (EV.bool y0) []) := by kernel_rfl
  rw [law22_lives.is]; exact h
theorem X_law22_lives.ok : SoundE Try.prog gl 53 e_law22_lives := by
  refine fnOK (E := E_law22_lives) (fn := Try.f53) rfl tys_ok rfl (show AllL _ [(48, e_box_Unbox), (50, e_box_Box)] from ⟨X_box_Unbox.ok, X_box_Box.ok, trivial⟩) mixed (by kernel_rfl) (by kernel_rfl) (by kernel_rfl) 0 (by kernel_rfl) false trivial ?_
  intro args H
  by_cases hx : args = [] ∧ H = []
  · obtain ⟨rfl, rfl⟩ := hx
    right; intro K
    exact iff_of_eq (X_law22_lives.eq  K).symm
  · left; intro K h
    simp only [e_law22_lives] at h
    split at h
    · exact hx ⟨rfl, rfl⟩
    · exact h
noncomputable def e_r22_with : Entry := ⟨[none, none], false, fun args H K => match args, H with
  | [.agg [.int .u64 a0_0, .int .u64 a0_1], .int .i64 a1], [] => r22_with a0_0 a0_1 a1 (fun y0 y1 => K (EV.agg [EV.int IntKind.u64 y0, EV.int IntKind.u64 y1]) [])
  | _, _ => False⟩
noncomputable def E_r22_with : Env := ⟨look tys, look [], look [], gl, lookL []⟩
theorem X_r22_with.eq (a0_0 : Int) (a0_1 : Int) (a1 : Int) (K : EV → Heap → Prop) : evFn E_r22_with Try.f79 false [.agg [.int .u64 a0_0, .int .u64 a0_1], .int .i64 a1] [] K = r22_with a0_0 a0_1 a1 (fun y0 y1 => K (EV.agg [EV.int IntKind.u64 y0, EV.int IntKind.u64 y1]) []) := by
  have h : evFn E_r22_with Try.f79 false [.agg [.int .u64 a0_0, .int .u64 a0_1], .int .i64 a1] [] K = r22_with.d a0_0 a0_1 a1 (fun y0 y1 => K (EV.agg [EV.int IntKind.u64 y0, EV.int IntKind.u64 y1]) []) := by kernel_rfl
  rw [r22_with.is]; exact h
theorem X_r22_with.ok : SoundE Try.prog gl 79 e_r22_with := by
  refine fnOK (E := E_r22_with) (fn := Try.f79) rfl tys_ok rfl (show AllL _ [] from trivial) mixed (by kernel_rfl) (by kernel_rfl) (by kernel_rfl) 0 (by kernel_rfl) false trivial ?_
  intro args H
  by_cases hx : ∃ (a0_0 : Int) (a0_1 : Int) (a1 : Int), args = [.agg [.int .u64 a0_0, .int .u64 a0_1], .int .i64 a1] ∧ H = []
  · obtain ⟨a0_0, a0_1, a1, rfl, rfl⟩ := hx
    right; intro K
    exact iff_of_eq (X_r22_with.eq a0_0 a0_1 a1 K).symm
  · left; intro K h
    simp only [e_r22_with] at h
    split at h
    · exact hx ⟨_, _, _, rfl, rfl⟩
    · exact h
noncomputable def e_r22_Above : Entry := ⟨[none], false, fun args H K => match args, H with
  | [.int .u8 a0], [] => r22_Above a0 (fun y0 y1 => K (EV.agg [EV.int IntKind.u64 y0, EV.int IntKind.u64 y1]) [])
  | _, _ => False⟩
noncomputable def E_r22_Above : Env := ⟨look tys, look [(46, e_r22_Width), (79, e_r22_with)], look [(3, r22_Above.l3.entry)], gl, lookL []⟩
theorem r22_Above.l3X.stepEq (R : List EV → Heap → Prop) (K : Ex → List EV → Heap → Prop) (x0 : Int) (x1 : Int) (x2 : Int) (x3 : Int) (x4 : Int) : loopStep (evCode E_r22_Above (loopAt Try.f54 0) { (LV.mk 12 [(0, 12)] 4 0) with nx := live (.loop (loopAt Try.f54 0)) (LV.mk 12 [(0, 12)] 4 0) }) (live (.loop (loopAt Try.f54 0)) (LV.mk 12 [(0, 12)] 4 0)) (LV.mk 12 [(0, 12)] 4 0) 0 15 R [EV.ptr 0 [], EV.ptr 1 [], EV.int IntKind.i64 x0] [some (EV.agg [EV.int IntKind.u64 x1, EV.int IntKind.u64 x2]), some (EV.agg [EV.int IntKind.u64 x3, EV.int IntKind.u64 x4])] K = r22_Above.l3.step (fun x0 x1 x2 x3 x4 => R [EV.ptr 0 [], EV.ptr 1 [], EV.int IntKind.i64 x0] [some (EV.agg [EV.int IntKind.u64 x1, EV.int IntKind.u64 x2]), some (EV.agg [EV.int IntKind.u64 x3, EV.int IntKind.u64 x4])]) (fun y0 y1 y2 y3 => K (.exit 0) [EV.ptr 0 [], EV.ptr 1 []] [some (EV.agg [EV.int IntKind.u64 y0, EV.int IntKind.u64 y1]), some (EV.agg [EV.int IntKind.u64 y2, EV.int IntKind.u64 y3])]) x0 x1 x2 x3 x4 := by kernel_rfl
theorem r22_Above.l3X.eq (K : Ex → List EV → Heap → Prop) : ∀ (n : Nat) (x0 : Int) (x1 : Int) (x2 : Int) (x3 : Int) (x4 : Int), loopE E_r22_Above (loopAt Try.f54 0) (LV.mk 12 [(0, 12)] 4 0) 0 15 K n [EV.ptr 0 [], EV.ptr 1 [], EV.int IntKind.i64 x0] [some (EV.agg [EV.int IntKind.u64 x1, EV.int IntKind.u64 x2]), some (EV.agg [EV.int IntKind.u64 x3, EV.int IntKind.u64 x4])] = r22_Above.l3 (fun y0 y1 y2 y3 => K (.exit 0) [EV.ptr 0 [], EV.ptr 1 []] [some (EV.agg [EV.int IntKind.u64 y0, EV.int IntKind.u64 y1]), some (EV.agg [EV.int IntKind.u64 y2, EV.int IntKind.u64 y3])]) n x0 x1 x2 x3 x4
  | 0, _, _, _, _, _ => rfl
  | n + 1, x0, x1, x2, x3, x4 => by
    have ih : (fun (x0 : Int) (x1 : Int) (x2 : Int) (x3 : Int) (x4 : Int) => loopE E_r22_Above (loopAt Try.f54 0) (LV.mk 12 [(0, 12)] 4 0) 0 15 K n [EV.ptr 0 [], EV.ptr 1 [], EV.int IntKind.i64 x0] [some (EV.agg [EV.int IntKind.u64 x1, EV.int IntKind.u64 x2]), some (EV.agg [EV.int IntKind.u64 x3, EV.int IntKind.u64 x4])]) = r22_Above.l3 (fun y0 y1 y2 y3 => K (.exit 0) [EV.ptr 0 [], EV.ptr 1 []] [some (EV.agg [EV.int IntKind.u64 y0, EV.int IntKind.u64 y1]), some (EV.agg [EV.int IntKind.u64 y2, EV.int IntKind.u64 y3])]) n := by funext x0 x1 x2 x3 x4; exact r22_Above.l3X.eq K n x0 x1 x2 x3 x4
    show loopStep _ _ _ _ _ (loopE E_r22_Above (loopAt Try.f54 0) (LV.mk 12 [(0, 12)] 4 0) 0 15 K n) [EV.ptr 0 [], EV.ptr 1 [], EV.int IntKind.i64 x0] [some (EV.agg [EV.int IntKind.u64 x1, EV.int IntKind.u64 x2]), some (EV.agg [EV.int IntKind.u64 x3, EV.int IntKind.u64 x4])] K = r22_Above.l3.step (r22_Above.l3 (fun y0 y1 y2 y3 => K (.exit 0) [EV.ptr 0 [], EV.ptr 1 []] [some (EV.agg [EV.int IntKind.u64 y0, EV.int IntKind.u64 y1]), some (EV.agg [EV.int IntKind.u64 y2, EV.int IntKind.u64 y3])]) n) (fun y0 y1 y2 y3 => K (.exit 0) [EV.ptr 0 [], EV.ptr 1 []] [some (EV.agg [EV.int IntKind.u64 y0, EV.int IntKind.u64 y1]), some (EV.agg [EV.int IntKind.u64 y2, EV.int IntKind.u64 y3])]) x0 x1 x2 x3 x4
    rw [← ih]
    exact r22_Above.l3X.stepEq _ K x0 x1 x2 x3 x4
theorem r22_Above.l3X.ok : LoopEq E_r22_Above (loopAt Try.f54 0) := by
  intro L hL vs H
  have h1 : E_r22_Above.lp (firstRegion (loopAt Try.f54 0)) = some r22_Above.l3.entry := by kernel_rfl
  have h2 : L = r22_Above.l3.entry := Option.some.inj (hL.symm.trans h1)
  subst h2
  by_cases hx : ∃ (x0 : Int) (x1 : Int) (x2 : Int) (x3 : Int) (x4 : Int), vs = [EV.ptr 0 [], EV.ptr 1 [], EV.int IntKind.i64 x0] ∧ H = [some (EV.agg [EV.int IntKind.u64 x1, EV.int IntKind.u64 x2]), some (EV.agg [EV.int IntKind.u64 x3, EV.int IntKind.u64 x4])]
  · obtain ⟨x0, x1, x2, x3, x4, rfl, rfl⟩ := hx
    right; intro K
    exact exists_congr fun n => iff_of_eq (r22_Above.l3X.eq K n x0 x1 x2 x3 x4).symm
  · left; intro K h
    simp only [r22_Above.l3.entry] at h
    split at h
    · exact hx ⟨_, _, _, _, _, rfl, rfl⟩
    · exact h
theorem X_r22_Above.eq (a0 : Int) (K : EV → Heap → Prop) : evFn E_r22_Above Try.f54 false [.int .u8 a0] [] K = r22_Above a0 (fun y0 y1 => K (EV.agg [EV.int IntKind.u64 y0, EV.int IntKind.u64 y1]) []) := by
  have h : evFn E_r22_Above Try.f54 false [.int .u8 a0] [] K = r22_Above.d a0 (fun y0 y1 => K (EV.agg [EV.int IntKind.u64 y0, EV.int IntKind.u64 y1]) []) := by kernel_rfl
  rw [r22_Above.is]; exact h
theorem X_r22_Above.ok : SoundE Try.prog gl 54 e_r22_Above := by
  refine fnOK (E := E_r22_Above) (fn := Try.f54) rfl tys_ok rfl (show AllL _ [(46, e_r22_Width), (79, e_r22_with)] from ⟨X_r22_Width.ok, X_r22_with.ok, trivial⟩) mixed (by kernel_rfl) (by kernel_rfl) (by kernel_rfl) 1 (by kernel_rfl) false ⟨r22_Above.l3X.ok, trivial⟩ ?_
  intro args H
  by_cases hx : ∃ (a0 : Int), args = [.int .u8 a0] ∧ H = []
  · obtain ⟨a0, rfl, rfl⟩ := hx
    right; intro K
    exact iff_of_eq (X_r22_Above.eq a0 K).symm
  · left; intro K h
    simp only [e_r22_Above] at h
    split at h
    · exact hx ⟨_, rfl, rfl⟩
    · exact h
noncomputable def e_r22_Low : Entry := ⟨[none, none], false, fun args H K => match args, H with
  | [.int .u8 a0, .agg [.int .u64 a1_0, .int .u64 a1_1]], [] => r22_Low a0 a1_0 a1_1 (fun y0 y1 => K (EV.agg [EV.int IntKind.u64 y0, EV.int IntKind.u64 y1]) [])
  | _, _ => False⟩
noncomputable def E_r22_Low : Env := ⟨look tys, look [(46, e_r22_Width), (78, e_r22_Bit), (79, e_r22_with)], look [(3, r22_Low.l3.entry)], gl, lookL []⟩
theorem r22_Low.l3X.stepEq (R : List EV → Heap → Prop) (K : Ex → List EV → Heap → Prop) (x0 : Int) (x1 : Int) (x2 : Int) (x3 : Int) (x4 : Int) (x5 : Int) (x6 : Int) (x7 : Int) : loopStep (evCode E_r22_Low (loopAt Try.f56 0) { (LV.mk 48 [(0, 48)] 16 0) with nx := live (.loop (loopAt Try.f56 0)) (LV.mk 48 [(0, 48)] 16 0) }) (live (.loop (loopAt Try.f56 0)) (LV.mk 48 [(0, 48)] 16 0)) (LV.mk 48 [(0, 48)] 16 0) 0 20 R [EV.int IntKind.u8 x0, EV.ptr 0 [], EV.ptr 1 [], EV.ptr 2 [], EV.int IntKind.i64 x1] [some (EV.agg [EV.int IntKind.u64 x2, EV.int IntKind.u64 x3]), some (EV.agg [EV.int IntKind.u64 x4, EV.int IntKind.u64 x5]), some (EV.agg [EV.int IntKind.u64 x6, EV.int IntKind.u64 x7])] K = r22_Low.l3.step (fun x0 x1 x2 x3 x4 x5 x6 x7 => R [EV.int IntKind.u8 x0, EV.ptr 0 [], EV.ptr 1 [], EV.ptr 2 [], EV.int IntKind.i64 x1] [some (EV.agg [EV.int IntKind.u64 x2, EV.int IntKind.u64 x3]), some (EV.agg [EV.int IntKind.u64 x4, EV.int IntKind.u64 x5]), some (EV.agg [EV.int IntKind.u64 x6, EV.int IntKind.u64 x7])]) (fun y0 y1 y2 y3 => K (.exit 0) [EV.ptr 0 [], EV.ptr 1 []] [some (EV.agg [EV.int IntKind.u64 y0, EV.int IntKind.u64 y1]), some (EV.agg [EV.int IntKind.u64 y2, EV.int IntKind.u64 y3])]) x0 x1 x2 x3 x4 x5 x6 x7 := by kernel_rfl
theorem r22_Low.l3X.eq (K : Ex → List EV → Heap → Prop) : ∀ (n : Nat) (x0 : Int) (x1 : Int) (x2 : Int) (x3 : Int) (x4 : Int) (x5 : Int) (x6 : Int) (x7 : Int), loopE E_r22_Low (loopAt Try.f56 0) (LV.mk 48 [(0, 48)] 16 0) 0 20 K n [EV.int IntKind.u8 x0, EV.ptr 0 [], EV.ptr 1 [], EV.ptr 2 [], EV.int IntKind.i64 x1] [some (EV.agg [EV.int IntKind.u64 x2, EV.int IntKind.u64 x3]), some (EV.agg [EV.int IntKind.u64 x4, EV.int IntKind.u64 x5]), some (EV.agg [EV.int IntKind.u64 x6, EV.int IntKind.u64 x7])] = r22_Low.l3 (fun y0 y1 y2 y3 => K (.exit 0) [EV.ptr 0 [], EV.ptr 1 []] [some (EV.agg [EV.int IntKind.u64 y0, EV.int IntKind.u64 y1]), some (EV.agg [EV.int IntKind.u64 y2, EV.int IntKind.u64 y3])]) n x0 x1 x2 x3 x4 x5 x6 x7
  | 0, _, _, _, _, _, _, _, _ => rfl
  | n + 1, x0, x1, x2, x3, x4, x5, x6, x7 => by
    have ih : (fun (x0 : Int) (x1 : Int) (x2 : Int) (x3 : Int) (x4 : Int) (x5 : Int) (x6 : Int) (x7 : Int) => loopE E_r22_Low (loopAt Try.f56 0) (LV.mk 48 [(0, 48)] 16 0) 0 20 K n [EV.int IntKind.u8 x0, EV.ptr 0 [], EV.ptr 1 [], EV.ptr 2 [], EV.int IntKind.i64 x1] [some (EV.agg [EV.int IntKind.u64 x2, EV.int IntKind.u64 x3]), some (EV.agg [EV.int IntKind.u64 x4, EV.int IntKind.u64 x5]), some (EV.agg [EV.int IntKind.u64 x6, EV.int IntKind.u64 x7])]) = r22_Low.l3 (fun y0 y1 y2 y3 => K (.exit 0) [EV.ptr 0 [], EV.ptr 1 []] [some (EV.agg [EV.int IntKind.u64 y0, EV.int IntKind.u64 y1]), some (EV.agg [EV.int IntKind.u64 y2, EV.int IntKind.u64 y3])]) n := by funext x0 x1 x2 x3 x4 x5 x6 x7; exact r22_Low.l3X.eq K n x0 x1 x2 x3 x4 x5 x6 x7
    show loopStep _ _ _ _ _ (loopE E_r22_Low (loopAt Try.f56 0) (LV.mk 48 [(0, 48)] 16 0) 0 20 K n) [EV.int IntKind.u8 x0, EV.ptr 0 [], EV.ptr 1 [], EV.ptr 2 [], EV.int IntKind.i64 x1] [some (EV.agg [EV.int IntKind.u64 x2, EV.int IntKind.u64 x3]), some (EV.agg [EV.int IntKind.u64 x4, EV.int IntKind.u64 x5]), some (EV.agg [EV.int IntKind.u64 x6, EV.int IntKind.u64 x7])] K = r22_Low.l3.step (r22_Low.l3 (fun y0 y1 y2 y3 => K (.exit 0) [EV.ptr 0 [], EV.ptr 1 []] [some (EV.agg [EV.int IntKind.u64 y0, EV.int IntKind.u64 y1]), some (EV.agg [EV.int IntKind.u64 y2, EV.int IntKind.u64 y3])]) n) (fun y0 y1 y2 y3 => K (.exit 0) [EV.ptr 0 [], EV.ptr 1 []] [some (EV.agg [EV.int IntKind.u64 y0, EV.int IntKind.u64 y1]), some (EV.agg [EV.int IntKind.u64 y2, EV.int IntKind.u64 y3])]) x0 x1 x2 x3 x4 x5 x6 x7
    rw [← ih]
    exact r22_Low.l3X.stepEq _ K x0 x1 x2 x3 x4 x5 x6 x7
theorem r22_Low.l3X.ok : LoopEq E_r22_Low (loopAt Try.f56 0) := by
  intro L hL vs H
  have h1 : E_r22_Low.lp (firstRegion (loopAt Try.f56 0)) = some r22_Low.l3.entry := by kernel_rfl
  have h2 : L = r22_Low.l3.entry := Option.some.inj (hL.symm.trans h1)
  subst h2
  by_cases hx : ∃ (x0 : Int) (x1 : Int) (x2 : Int) (x3 : Int) (x4 : Int) (x5 : Int) (x6 : Int) (x7 : Int), vs = [EV.int IntKind.u8 x0, EV.ptr 0 [], EV.ptr 1 [], EV.ptr 2 [], EV.int IntKind.i64 x1] ∧ H = [some (EV.agg [EV.int IntKind.u64 x2, EV.int IntKind.u64 x3]), some (EV.agg [EV.int IntKind.u64 x4, EV.int IntKind.u64 x5]), some (EV.agg [EV.int IntKind.u64 x6, EV.int IntKind.u64 x7])]
  · obtain ⟨x0, x1, x2, x3, x4, x5, x6, x7, rfl, rfl⟩ := hx
    right; intro K
    exact exists_congr fun n => iff_of_eq (r22_Low.l3X.eq K n x0 x1 x2 x3 x4 x5 x6 x7).symm
  · left; intro K h
    simp only [r22_Low.l3.entry] at h
    split at h
    · exact hx ⟨_, _, _, _, _, _, _, _, rfl, rfl⟩
    · exact h
theorem X_r22_Low.eq (a0 : Int) (a1_0 : Int) (a1_1 : Int) (K : EV → Heap → Prop) : evFn E_r22_Low Try.f56 false [.int .u8 a0, .agg [.int .u64 a1_0, .int .u64 a1_1]] [] K = r22_Low a0 a1_0 a1_1 (fun y0 y1 => K (EV.agg [EV.int IntKind.u64 y0, EV.int IntKind.u64 y1]) []) := by
  have h : evFn E_r22_Low Try.f56 false [.int .u8 a0, .agg [.int .u64 a1_0, .int .u64 a1_1]] [] K = r22_Low.d a0 a1_0 a1_1 (fun y0 y1 => K (EV.agg [EV.int IntKind.u64 y0, EV.int IntKind.u64 y1]) []) := by kernel_rfl
  rw [r22_Low.is]; exact h
theorem X_r22_Low.ok : SoundE Try.prog gl 56 e_r22_Low := by
  refine fnOK (E := E_r22_Low) (fn := Try.f56) rfl tys_ok rfl (show AllL _ [(46, e_r22_Width), (78, e_r22_Bit), (79, e_r22_with)] from ⟨X_r22_Width.ok, X_r22_Bit.ok, X_r22_with.ok, trivial⟩) mixed (by kernel_rfl) (by kernel_rfl) (by kernel_rfl) 1 (by kernel_rfl) false ⟨r22_Low.l3X.ok, trivial⟩ ?_
  intro args H
  by_cases hx : ∃ (a0 : Int) (a1_0 : Int) (a1_1 : Int), args = [.int .u8 a0, .agg [.int .u64 a1_0, .int .u64 a1_1]] ∧ H = []
  · obtain ⟨a0, a1_0, a1_1, rfl, rfl⟩ := hx
    right; intro K
    exact iff_of_eq (X_r22_Low.eq a0 a1_0 a1_1 K).symm
  · left; intro K h
    simp only [e_r22_Low] at h
    split at h
    · exact hx ⟨_, _, _, rfl, rfl⟩
    · exact h
noncomputable def e_r22_NaN : Entry := ⟨[none], false, fun args H K => match args, H with
  | [.int .u8 a0], [] => r22_NaN a0 (fun y0 y1 => K (EV.agg [EV.int IntKind.u64 y0, EV.int IntKind.u64 y1]) [])
  | _, _ => False⟩
noncomputable def E_r22_NaN : Env := ⟨look tys, look [(46, e_r22_Width), (79, e_r22_with)], look [(11, r22_NaN.l11.entry)], gl, lookL []⟩
theorem r22_NaN.l11X.stepEq (R : List EV → Heap → Prop) (K : Ex → List EV → Heap → Prop) (x0 : Int) (x1 : Int) (x2 : Int) (x3 : Int) (x4 : Int) (x5 : Int) : loopStep (evCode E_r22_NaN (loopAt Try.f80 0) { (LV.mk 20 [(1, 20)] 4 0) with nx := live (.loop (loopAt Try.f80 0)) (LV.mk 20 [(1, 20)] 4 0) }) (live (.loop (loopAt Try.f80 0)) (LV.mk 20 [(1, 20)] 4 0)) (LV.mk 20 [(1, 20)] 4 0) 0 26 R [EV.int IntKind.u8 x0, EV.ptr 0 [], EV.ptr 1 [], EV.int IntKind.i64 x1] [some (EV.agg [EV.int IntKind.u64 x2, EV.int IntKind.u64 x3]), some (EV.agg [EV.int IntKind.u64 x4, EV.int IntKind.u64 x5])] K = r22_NaN.l11.step (fun x0 x1 x2 x3 x4 x5 => R [EV.int IntKind.u8 x0, EV.ptr 0 [], EV.ptr 1 [], EV.int IntKind.i64 x1] [some (EV.agg [EV.int IntKind.u64 x2, EV.int IntKind.u64 x3]), some (EV.agg [EV.int IntKind.u64 x4, EV.int IntKind.u64 x5])]) (fun y0 y1 y2 y3 => K (.exit 1) [EV.ptr 0 [], EV.ptr 1 []] [some (EV.agg [EV.int IntKind.u64 y0, EV.int IntKind.u64 y1]), some (EV.agg [EV.int IntKind.u64 y2, EV.int IntKind.u64 y3])]) x0 x1 x2 x3 x4 x5 := by kernel_rfl
theorem r22_NaN.l11X.eq (K : Ex → List EV → Heap → Prop) : ∀ (n : Nat) (x0 : Int) (x1 : Int) (x2 : Int) (x3 : Int) (x4 : Int) (x5 : Int), loopE E_r22_NaN (loopAt Try.f80 0) (LV.mk 20 [(1, 20)] 4 0) 0 26 K n [EV.int IntKind.u8 x0, EV.ptr 0 [], EV.ptr 1 [], EV.int IntKind.i64 x1] [some (EV.agg [EV.int IntKind.u64 x2, EV.int IntKind.u64 x3]), some (EV.agg [EV.int IntKind.u64 x4, EV.int IntKind.u64 x5])] = r22_NaN.l11 (fun y0 y1 y2 y3 => K (.exit 1) [EV.ptr 0 [], EV.ptr 1 []] [some (EV.agg [EV.int IntKind.u64 y0, EV.int IntKind.u64 y1]), some (EV.agg [EV.int IntKind.u64 y2, EV.int IntKind.u64 y3])]) n x0 x1 x2 x3 x4 x5
  | 0, _, _, _, _, _, _ => rfl
  | n + 1, x0, x1, x2, x3, x4, x5 => by
    have ih : (fun (x0 : Int) (x1 : Int) (x2 : Int) (x3 : Int) (x4 : Int) (x5 : Int) => loopE E_r22_NaN (loopAt Try.f80 0) (LV.mk 20 [(1, 20)] 4 0) 0 26 K n [EV.int IntKind.u8 x0, EV.ptr 0 [], EV.ptr 1 [], EV.int IntKind.i64 x1] [some (EV.agg [EV.int IntKind.u64 x2, EV.int IntKind.u64 x3]), some (EV.agg [EV.int IntKind.u64 x4, EV.int IntKind.u64 x5])]) = r22_NaN.l11 (fun y0 y1 y2 y3 => K (.exit 1) [EV.ptr 0 [], EV.ptr 1 []] [some (EV.agg [EV.int IntKind.u64 y0, EV.int IntKind.u64 y1]), some (EV.agg [EV.int IntKind.u64 y2, EV.int IntKind.u64 y3])]) n := by funext x0 x1 x2 x3 x4 x5; exact r22_NaN.l11X.eq K n x0 x1 x2 x3 x4 x5
    show loopStep _ _ _ _ _ (loopE E_r22_NaN (loopAt Try.f80 0) (LV.mk 20 [(1, 20)] 4 0) 0 26 K n) [EV.int IntKind.u8 x0, EV.ptr 0 [], EV.ptr 1 [], EV.int IntKind.i64 x1] [some (EV.agg [EV.int IntKind.u64 x2, EV.int IntKind.u64 x3]), some (EV.agg [EV.int IntKind.u64 x4, EV.int IntKind.u64 x5])] K = r22_NaN.l11.step (r22_NaN.l11 (fun y0 y1 y2 y3 => K (.exit 1) [EV.ptr 0 [], EV.ptr 1 []] [some (EV.agg [EV.int IntKind.u64 y0, EV.int IntKind.u64 y1]), some (EV.agg [EV.int IntKind.u64 y2, EV.int IntKind.u64 y3])]) n) (fun y0 y1 y2 y3 => K (.exit 1) [EV.ptr 0 [], EV.ptr 1 []] [some (EV.agg [EV.int IntKind.u64 y0, EV.int IntKind.u64 y1]), some (EV.agg [EV.int IntKind.u64 y2, EV.int IntKind.u64 y3])]) x0 x1 x2 x3 x4 x5
    rw [← ih]
    exact r22_NaN.l11X.stepEq _ K x0 x1 x2 x3 x4 x5
theorem r22_NaN.l11X.ok : LoopEq E_r22_NaN (loopAt Try.f80 0) := by
  intro L hL vs H
  have h1 : E_r22_NaN.lp (firstRegion (loopAt Try.f80 0)) = some r22_NaN.l11.entry := by kernel_rfl
  have h2 : L = r22_NaN.l11.entry := Option.some.inj (hL.symm.trans h1)
  subst h2
  by_cases hx : ∃ (x0 : Int) (x1 : Int) (x2 : Int) (x3 : Int) (x4 : Int) (x5 : Int), vs = [EV.int IntKind.u8 x0, EV.ptr 0 [], EV.ptr 1 [], EV.int IntKind.i64 x1] ∧ H = [some (EV.agg [EV.int IntKind.u64 x2, EV.int IntKind.u64 x3]), some (EV.agg [EV.int IntKind.u64 x4, EV.int IntKind.u64 x5])]
  · obtain ⟨x0, x1, x2, x3, x4, x5, rfl, rfl⟩ := hx
    right; intro K
    exact exists_congr fun n => iff_of_eq (r22_NaN.l11X.eq K n x0 x1 x2 x3 x4 x5).symm
  · left; intro K h
    simp only [r22_NaN.l11.entry] at h
    split at h
    · exact hx ⟨_, _, _, _, _, _, rfl, rfl⟩
    · exact h
theorem X_r22_NaN.eq (a0 : Int) (K : EV → Heap → Prop) : evFn E_r22_NaN Try.f80 false [.int .u8 a0] [] K = r22_NaN a0 (fun y0 y1 => K (EV.agg [EV.int IntKind.u64 y0, EV.int IntKind.u64 y1]) []) := by
  have h : evFn E_r22_NaN Try.f80 false [.int .u8 a0] [] K = r22_NaN.d a0 (fun y0 y1 => K (EV.agg [EV.int IntKind.u64 y0, EV.int IntKind.u64 y1]) []) := by kernel_rfl
  rw [r22_NaN.is]; exact h
theorem X_r22_NaN.ok : SoundE Try.prog gl 80 e_r22_NaN := by
  refine fnOK (E := E_r22_NaN) (fn := Try.f80) rfl tys_ok rfl (show AllL _ [(46, e_r22_Width), (79, e_r22_with)] from ⟨X_r22_Width.ok, X_r22_with.ok, trivial⟩) mixed (by kernel_rfl) (by kernel_rfl) (by kernel_rfl) 1 (by kernel_rfl) false ⟨r22_NaN.l11X.ok, trivial⟩ ?_
  intro args H
  by_cases hx : ∃ (a0 : Int), args = [.int .u8 a0] ∧ H = []
  · obtain ⟨a0, rfl, rfl⟩ := hx
    right; intro K
    exact iff_of_eq (X_r22_NaN.eq a0 K).symm
  · left; intro K h
    simp only [e_r22_NaN] at h
    split at h
    · exact hx ⟨_, rfl, rfl⟩
    · exact h
noncomputable def e_r22_Unbox : Entry := ⟨[none, none], false, fun args H K => match args, H with
  | [.int .u8 a0, .agg [.int .u64 a1_0, .int .u64 a1_1]], [] => r22_Unbox a0 a1_0 a1_1 (fun y0 y1 => K (EV.agg [EV.int IntKind.u64 y0, EV.int IntKind.u64 y1]) [])
  | _, _ => False⟩
noncomputable def E_r22_Unbox : Env := ⟨look tys, look [(52, e_r22_IsBoxed), (56, e_r22_Low), (80, e_r22_NaN)], look [], gl, lookL []⟩
theorem X_r22_Unbox.eq (a0 : Int) (a1_0 : Int) (a1_1 : Int) (K : EV → Heap → Prop) : evFn E_r22_Unbox Try.f55 false [.int .u8 a0, .agg [.int .u64 a1_0, .int .u64 a1_1]] [] K = r22_Unbox a0 a1_0 a1_1 (fun y0 y1 => K (EV.agg [EV.int IntKind.u64 y0, EV.int IntKind.u64 y1]) []) := by
  have h : evFn E_r22_Unbox Try.f55 false [.int .u8 a0, .agg [.int .u64 a1_0, .int .u64 a1_1]] [] K = r22_Unbox.d a0 a1_0 a1_1 (fun y0 y1 => K (EV.agg [EV.int IntKind.u64 y0, EV.int IntKind.u64 y1]) []) := by kernel_rfl
  rw [r22_Unbox.is]; exact h
theorem X_r22_Unbox.ok : SoundE Try.prog gl 55 e_r22_Unbox := by
  refine fnOK (E := E_r22_Unbox) (fn := Try.f55) rfl tys_ok rfl (show AllL _ [(52, e_r22_IsBoxed), (56, e_r22_Low), (80, e_r22_NaN)] from ⟨X_r22_IsBoxed.ok, X_r22_Low.ok, X_r22_NaN.ok, trivial⟩) mixed (by kernel_rfl) (by kernel_rfl) (by kernel_rfl) 0 (by kernel_rfl) false trivial ?_
  intro args H
  by_cases hx : ∃ (a0 : Int) (a1_0 : Int) (a1_1 : Int), args = [.int .u8 a0, .agg [.int .u64 a1_0, .int .u64 a1_1]] ∧ H = []
  · obtain ⟨a0, a1_0, a1_1, rfl, rfl⟩ := hx
    right; intro K
    exact iff_of_eq (X_r22_Unbox.eq a0 a1_0 a1_1 K).symm
  · left; intro K h
    simp only [e_r22_Unbox] at h
    split at h
    · exact hx ⟨_, _, _, rfl, rfl⟩
    · exact h
noncomputable def e_r22_Fits : Entry := ⟨[none, none], false, fun args H K => match args, H with
  | [.int .u8 a0, .agg [.int .u64 a1_0, .int .u64 a1_1]], [] => r22_Fits a0 a1_0 a1_1 (fun y0 => K (EV.bool y0) [])
  | _, _ => False⟩
noncomputable def E_r22_Fits : Env := ⟨look tys, look [(46, e_r22_Width), (78, e_r22_Bit)], look [(2, r22_Fits.l2.entry)], gl, lookL []⟩
theorem r22_Fits.l2X.stepEq (R : List EV → Heap → Prop) (K : Ex → List EV → Heap → Prop) (x0 : Int) (x1 : Int) (x2 : Int) (x3 : Int) : loopStep (evCode E_r22_Fits (loopAt Try.f57 0) { (LV.mk 1 [(0, 1)] 16 0) with nx := live (.loop (loopAt Try.f57 0)) (LV.mk 1 [(0, 1)] 16 0) }) (live (.loop (loopAt Try.f57 0)) (LV.mk 1 [(0, 1)] 16 0)) (LV.mk 1 [(0, 1)] 16 0) 0 18 R [EV.int IntKind.u8 x0, EV.ptr 0 [], EV.int IntKind.i64 x1] [some (EV.agg [EV.int IntKind.u64 x2, EV.int IntKind.u64 x3])] K = r22_Fits.l2.step (fun x0 x1 x2 x3 => R [EV.int IntKind.u8 x0, EV.ptr 0 [], EV.int IntKind.i64 x1] [some (EV.agg [EV.int IntKind.u64 x2, EV.int IntKind.u64 x3])]) (fun y0 => K .ret [EV.bool y0] []) (fun y0 => K (.exit 0) [EV.int IntKind.u8 y0] []) x0 x1 x2 x3 := by kernel_rfl
theorem r22_Fits.l2X.eq (K : Ex → List EV → Heap → Prop) : ∀ (n : Nat) (x0 : Int) (x1 : Int) (x2 : Int) (x3 : Int), loopE E_r22_Fits (loopAt Try.f57 0) (LV.mk 1 [(0, 1)] 16 0) 0 18 K n [EV.int IntKind.u8 x0, EV.ptr 0 [], EV.int IntKind.i64 x1] [some (EV.agg [EV.int IntKind.u64 x2, EV.int IntKind.u64 x3])] = r22_Fits.l2 (fun y0 => K .ret [EV.bool y0] []) (fun y0 => K (.exit 0) [EV.int IntKind.u8 y0] []) n x0 x1 x2 x3
  | 0, _, _, _, _ => rfl
  | n + 1, x0, x1, x2, x3 => by
    have ih : (fun (x0 : Int) (x1 : Int) (x2 : Int) (x3 : Int) => loopE E_r22_Fits (loopAt Try.f57 0) (LV.mk 1 [(0, 1)] 16 0) 0 18 K n [EV.int IntKind.u8 x0, EV.ptr 0 [], EV.int IntKind.i64 x1] [some (EV.agg [EV.int IntKind.u64 x2, EV.int IntKind.u64 x3])]) = r22_Fits.l2 (fun y0 => K .ret [EV.bool y0] []) (fun y0 => K (.exit 0) [EV.int IntKind.u8 y0] []) n := by funext x0 x1 x2 x3; exact r22_Fits.l2X.eq K n x0 x1 x2 x3
    show loopStep _ _ _ _ _ (loopE E_r22_Fits (loopAt Try.f57 0) (LV.mk 1 [(0, 1)] 16 0) 0 18 K n) [EV.int IntKind.u8 x0, EV.ptr 0 [], EV.int IntKind.i64 x1] [some (EV.agg [EV.int IntKind.u64 x2, EV.int IntKind.u64 x3])] K = r22_Fits.l2.step (r22_Fits.l2 (fun y0 => K .ret [EV.bool y0] []) (fun y0 => K (.exit 0) [EV.int IntKind.u8 y0] []) n) (fun y0 => K .ret [EV.bool y0] []) (fun y0 => K (.exit 0) [EV.int IntKind.u8 y0] []) x0 x1 x2 x3
    rw [← ih]
    exact r22_Fits.l2X.stepEq _ K x0 x1 x2 x3
theorem r22_Fits.l2X.ok : LoopEq E_r22_Fits (loopAt Try.f57 0) := by
  intro L hL vs H
  have h1 : E_r22_Fits.lp (firstRegion (loopAt Try.f57 0)) = some r22_Fits.l2.entry := by kernel_rfl
  have h2 : L = r22_Fits.l2.entry := Option.some.inj (hL.symm.trans h1)
  subst h2
  by_cases hx : ∃ (x0 : Int) (x1 : Int) (x2 : Int) (x3 : Int), vs = [EV.int IntKind.u8 x0, EV.ptr 0 [], EV.int IntKind.i64 x1] ∧ H = [some (EV.agg [EV.int IntKind.u64 x2, EV.int IntKind.u64 x3])]
  · obtain ⟨x0, x1, x2, x3, rfl, rfl⟩ := hx
    right; intro K
    exact exists_congr fun n => iff_of_eq (r22_Fits.l2X.eq K n x0 x1 x2 x3).symm
  · left; intro K h
    simp only [r22_Fits.l2.entry] at h
    split at h
    · exact hx ⟨_, _, _, _, rfl, rfl⟩
    · exact h
theorem X_r22_Fits.eq (a0 : Int) (a1_0 : Int) (a1_1 : Int) (K : EV → Heap → Prop) : evFn E_r22_Fits Try.f57 false [.int .u8 a0, .agg [.int .u64 a1_0, .int .u64 a1_1]] [] K = r22_Fits a0 a1_0 a1_1 (fun y0 => K (EV.bool y0) []) := by
  have h : evFn E_r22_Fits Try.f57 false [.int .u8 a0, .agg [.int .u64 a1_0, .int .u64 a1_1]] [] K = r22_Fits.d a0 a1_0 a1_1 (fun y0 => K (EV.bool y0) []) := by kernel_rfl
  rw [r22_Fits.is]; exact h
theorem X_r22_Fits.ok : SoundE Try.prog gl 57 e_r22_Fits := by
  refine fnOK (E := E_r22_Fits) (fn := Try.f57) rfl tys_ok rfl (show AllL _ [(46, e_r22_Width), (78, e_r22_Bit)] from ⟨X_r22_Width.ok, X_r22_Bit.ok, trivial⟩) mixed (by kernel_rfl) (by kernel_rfl) (by kernel_rfl) 1 (by kernel_rfl) false ⟨r22_Fits.l2X.ok, trivial⟩ ?_
  intro args H
  by_cases hx : ∃ (a0 : Int) (a1_0 : Int) (a1_1 : Int), args = [.int .u8 a0, .agg [.int .u64 a1_0, .int .u64 a1_1]] ∧ H = []
  · obtain ⟨a0, a1_0, a1_1, rfl, rfl⟩ := hx
    right; intro K
    exact iff_of_eq (X_r22_Fits.eq a0 a1_0 a1_1 K).symm
  · left; intro K h
    simp only [e_r22_Fits] at h
    split at h
    · exact hx ⟨_, _, _, rfl, rfl⟩
    · exact h
noncomputable def e_r22_Box : Entry := ⟨[none, none], false, fun args H K => match args, H with
  | [.int .u8 a0, .agg [.int .u64 a1_0, .int .u64 a1_1]], [] => r22_Box a0 a1_0 a1_1 (fun y0 y1 => K (EV.agg [EV.int IntKind.u64 y0, EV.int IntKind.u64 y1]) [])
  | _, _ => False⟩
noncomputable def E_r22_Box : Env := ⟨look tys, look [(46, e_r22_Width), (79, e_r22_with)], look [(2, r22_Box.l2.entry)], gl, lookL []⟩
theorem r22_Box.l2X.stepEq (R : List EV → Heap → Prop) (K : Ex → List EV → Heap → Prop) (x0 : Int) (x1 : Int) (x2 : Int) (x3 : Int) (x4 : Int) : loopStep (evCode E_r22_Box (loopAt Try.f58 0) { (LV.mk 24 [(0, 24)] 16 0) with nx := live (.loop (loopAt Try.f58 0)) (LV.mk 24 [(0, 24)] 16 0) }) (live (.loop (loopAt Try.f58 0)) (LV.mk 24 [(0, 24)] 16 0)) (LV.mk 24 [(0, 24)] 16 0) 0 16 R [EV.ptr 0 [], EV.ptr 1 [], EV.int IntKind.i64 x0] [some (EV.agg [EV.int IntKind.u64 x1, EV.int IntKind.u64 x2]), some (EV.agg [EV.int IntKind.u64 x3, EV.int IntKind.u64 x4])] K = r22_Box.l2.step (fun x0 x1 x2 x3 x4 => R [EV.ptr 0 [], EV.ptr 1 [], EV.int IntKind.i64 x0] [some (EV.agg [EV.int IntKind.u64 x1, EV.int IntKind.u64 x2]), some (EV.agg [EV.int IntKind.u64 x3, EV.int IntKind.u64 x4])]) (fun y0 y1 y2 y3 => K (.exit 0) [EV.ptr 0 [], EV.ptr 1 []] [some (EV.agg [EV.int IntKind.u64 y0, EV.int IntKind.u64 y1]), some (EV.agg [EV.int IntKind.u64 y2, EV.int IntKind.u64 y3])]) x0 x1 x2 x3 x4 := by kernel_rfl
theorem r22_Box.l2X.eq (K : Ex → List EV → Heap → Prop) : ∀ (n : Nat) (x0 : Int) (x1 : Int) (x2 : Int) (x3 : Int) (x4 : Int), loopE E_r22_Box (loopAt Try.f58 0) (LV.mk 24 [(0, 24)] 16 0) 0 16 K n [EV.ptr 0 [], EV.ptr 1 [], EV.int IntKind.i64 x0] [some (EV.agg [EV.int IntKind.u64 x1, EV.int IntKind.u64 x2]), some (EV.agg [EV.int IntKind.u64 x3, EV.int IntKind.u64 x4])] = r22_Box.l2 (fun y0 y1 y2 y3 => K (.exit 0) [EV.ptr 0 [], EV.ptr 1 []] [some (EV.agg [EV.int IntKind.u64 y0, EV.int IntKind.u64 y1]), some (EV.agg [EV.int IntKind.u64 y2, EV.int IntKind.u64 y3])]) n x0 x1 x2 x3 x4
  | 0, _, _, _, _, _ => rfl
  | n + 1, x0, x1, x2, x3, x4 => by
    have ih : (fun (x0 : Int) (x1 : Int) (x2 : Int) (x3 : Int) (x4 : Int) => loopE E_r22_Box (loopAt Try.f58 0) (LV.mk 24 [(0, 24)] 16 0) 0 16 K n [EV.ptr 0 [], EV.ptr 1 [], EV.int IntKind.i64 x0] [some (EV.agg [EV.int IntKind.u64 x1, EV.int IntKind.u64 x2]), some (EV.agg [EV.int IntKind.u64 x3, EV.int IntKind.u64 x4])]) = r22_Box.l2 (fun y0 y1 y2 y3 => K (.exit 0) [EV.ptr 0 [], EV.ptr 1 []] [some (EV.agg [EV.int IntKind.u64 y0, EV.int IntKind.u64 y1]), some (EV.agg [EV.int IntKind.u64 y2, EV.int IntKind.u64 y3])]) n := by funext x0 x1 x2 x3 x4; exact r22_Box.l2X.eq K n x0 x1 x2 x3 x4
    show loopStep _ _ _ _ _ (loopE E_r22_Box (loopAt Try.f58 0) (LV.mk 24 [(0, 24)] 16 0) 0 16 K n) [EV.ptr 0 [], EV.ptr 1 [], EV.int IntKind.i64 x0] [some (EV.agg [EV.int IntKind.u64 x1, EV.int IntKind.u64 x2]), some (EV.agg [EV.int IntKind.u64 x3, EV.int IntKind.u64 x4])] K = r22_Box.l2.step (r22_Box.l2 (fun y0 y1 y2 y3 => K (.exit 0) [EV.ptr 0 [], EV.ptr 1 []] [some (EV.agg [EV.int IntKind.u64 y0, EV.int IntKind.u64 y1]), some (EV.agg [EV.int IntKind.u64 y2, EV.int IntKind.u64 y3])]) n) (fun y0 y1 y2 y3 => K (.exit 0) [EV.ptr 0 [], EV.ptr 1 []] [some (EV.agg [EV.int IntKind.u64 y0, EV.int IntKind.u64 y1]), some (EV.agg [EV.int IntKind.u64 y2, EV.int IntKind.u64 y3])]) x0 x1 x2 x3 x4
    rw [← ih]
    exact r22_Box.l2X.stepEq _ K x0 x1 x2 x3 x4
theorem r22_Box.l2X.ok : LoopEq E_r22_Box (loopAt Try.f58 0) := by
  intro L hL vs H
  have h1 : E_r22_Box.lp (firstRegion (loopAt Try.f58 0)) = some r22_Box.l2.entry := by kernel_rfl
  have h2 : L = r22_Box.l2.entry := Option.some.inj (hL.symm.trans h1)
  subst h2
  by_cases hx : ∃ (x0 : Int) (x1 : Int) (x2 : Int) (x3 : Int) (x4 : Int), vs = [EV.ptr 0 [], EV.ptr 1 [], EV.int IntKind.i64 x0] ∧ H = [some (EV.agg [EV.int IntKind.u64 x1, EV.int IntKind.u64 x2]), some (EV.agg [EV.int IntKind.u64 x3, EV.int IntKind.u64 x4])]
  · obtain ⟨x0, x1, x2, x3, x4, rfl, rfl⟩ := hx
    right; intro K
    exact exists_congr fun n => iff_of_eq (r22_Box.l2X.eq K n x0 x1 x2 x3 x4).symm
  · left; intro K h
    simp only [r22_Box.l2.entry] at h
    split at h
    · exact hx ⟨_, _, _, _, _, rfl, rfl⟩
    · exact h
theorem X_r22_Box.eq (a0 : Int) (a1_0 : Int) (a1_1 : Int) (K : EV → Heap → Prop) : evFn E_r22_Box Try.f58 false [.int .u8 a0, .agg [.int .u64 a1_0, .int .u64 a1_1]] [] K = r22_Box a0 a1_0 a1_1 (fun y0 y1 => K (EV.agg [EV.int IntKind.u64 y0, EV.int IntKind.u64 y1]) []) := by
  have h : evFn E_r22_Box Try.f58 false [.int .u8 a0, .agg [.int .u64 a1_0, .int .u64 a1_1]] [] K = r22_Box.d a0 a1_0 a1_1 (fun y0 y1 => K (EV.agg [EV.int IntKind.u64 y0, EV.int IntKind.u64 y1]) []) := by kernel_rfl
  rw [r22_Box.is]; exact h
theorem X_r22_Box.ok : SoundE Try.prog gl 58 e_r22_Box := by
  refine fnOK (E := E_r22_Box) (fn := Try.f58) rfl tys_ok rfl (show AllL _ [(46, e_r22_Width), (79, e_r22_with)] from ⟨X_r22_Width.ok, X_r22_with.ok, trivial⟩) mixed (by kernel_rfl) (by kernel_rfl) (by kernel_rfl) 1 (by kernel_rfl) false ⟨r22_Box.l2X.ok, trivial⟩ ?_
  intro args H
  by_cases hx : ∃ (a0 : Int) (a1_0 : Int) (a1_1 : Int), args = [.int .u8 a0, .agg [.int .u64 a1_0, .int .u64 a1_1]] ∧ H = []
  · obtain ⟨a0, a1_0, a1_1, rfl, rfl⟩ := hx
    right; intro K
    exact iff_of_eq (X_r22_Box.eq a0 a1_0 a1_1 K).symm
  · left; intro K h
    simp only [e_r22_Box] at h
    split at h
    · exact hx ⟨_, _, _, rfl, rfl⟩
    · exact h
noncomputable def e_law22_BoxReads : Entry := ⟨[none, none], false, fun args H K => match args, H with
  | [.int .u8 a0, .agg [.int .u64 a1_0, .int .u64 a1_1]], [] => law22_BoxReads a0 a1_0 a1_1 (fun y0 => K (EV.bool y0) [])
  | _, _ => False⟩
noncomputable def E_law22_BoxReads : Env := ⟨look tys, look [(46, e_r22_Width), (47, e_box_Above), (48, e_box_Unbox), (49, e_box_Low), (50, e_box_Box), (51, e_box_IsBoxed), (52, e_r22_IsBoxed), (53, e_law22_lives), (54, e_r22_Above), (55, e_r22_Unbox), (56, e_r22_Low), (57, e_r22_Fits), (58, e_r22_Box)], look [], gl, lookL []⟩
theorem X_law22_BoxReads.eq (a0 : Int) (a1_0 : Int) (a1_1 : Int) (K : EV → Heap → Prop) : evFn E_law22_BoxReads Try.f6 false [.int .u8 a0, .agg [.int .u64 a1_0, .int .u64 a1_1]] [] K = law22_BoxReads a0 a1_0 a1_1 (fun y0 => K (EV.bool y0) []) := by
  have h : evFn E_law22_BoxReads Try.f6 false [.int .u8 a0, .agg [.int .u64 a1_0, .int .u64 a1_1]] [] K = law22_BoxReads.d a0 a1_0 a1_1 (fun y0 => K (EV.bool y0) []) := by kernel_rfl
  rw [law22_BoxReads.is]; exact h
theorem X_law22_BoxReads.ok : SoundE Try.prog gl 6 e_law22_BoxReads := by
  refine fnOK (E := E_law22_BoxReads) (fn := Try.f6) rfl tys_ok rfl (show AllL _ [(46, e_r22_Width), (47, e_box_Above), (48, e_box_Unbox), (49, e_box_Low), (50, e_box_Box), (51, e_box_IsBoxed), (52, e_r22_IsBoxed), (53, e_law22_lives), (54, e_r22_Above), (55, e_r22_Unbox), (56, e_r22_Low), (57, e_r22_Fits), (58, e_r22_Box)] from ⟨X_r22_Width.ok, X_box_Above.ok, X_box_Unbox.ok, X_box_Low.ok, X_box_Box.ok, X_box_IsBoxed.ok, X_r22_IsBoxed.ok, X_law22_lives.ok, X_r22_Above.ok, X_r22_Unbox.ok, X_r22_Low.ok, X_r22_Fits.ok, X_r22_Box.ok, trivial⟩) mixed (by kernel_rfl) (by kernel_rfl) (by kernel_rfl) 0 (by kernel_rfl) false trivial ?_
  intro args H
  by_cases hx : ∃ (a0 : Int) (a1_0 : Int) (a1_1 : Int), args = [.int .u8 a0, .agg [.int .u64 a1_0, .int .u64 a1_1]] ∧ H = []
  · obtain ⟨a0, a1_0, a1_1, rfl, rfl⟩ := hx
    right; intro K
    exact iff_of_eq (X_law22_BoxReads.eq a0 a1_0 a1_1 K).symm
  · left; intro K h
    simp only [e_law22_BoxReads] at h
    split at h
    · exact hx ⟨_, _, _, rfl, rfl⟩
    · exact h
noncomputable def e_law22_width : Entry := ⟨[none], false, fun args H K => match args, H with
  | [.int .u8 a0], [] => law22_width a0 (fun y0 => K (EV.int IntKind.i64 y0) [])
  | _, _ => False⟩
noncomputable def E_law22_width : Env := ⟨look tys, look [], look [], gl, lookL []⟩
theorem X_law22_width.eq (a0 : Int) (K : EV → Heap → Prop) : evFn E_law22_width Try.f59 false [.int .u8 a0] [] K = law22_width a0 (fun y0 => K (EV.int IntKind.i64 y0) []) := by
  have h : evFn E_law22_width Try.f59 false [.int .u8 a0] [] K = law22_width.d a0 (fun y0 => K (EV.int IntKind.i64 y0) []) := by kernel_rfl
  rw [law22_width.is]; exact h
theorem X_law22_width.ok : SoundE Try.prog gl 59 e_law22_width := by
  refine fnOK (E := E_law22_width) (fn := Try.f59) rfl tys_ok rfl (show AllL _ [] from trivial) mixed (by kernel_rfl) (by kernel_rfl) (by kernel_rfl) 0 (by kernel_rfl) false trivial ?_
  intro args H
  by_cases hx : ∃ (a0 : Int), args = [.int .u8 a0] ∧ H = []
  · obtain ⟨a0, rfl, rfl⟩ := hx
    right; intro K
    exact iff_of_eq (X_law22_width.eq a0 K).symm
  · left; intro K h
    simp only [e_law22_width] at h
    split at h
    · exact hx ⟨_, rfl, rfl⟩
    · exact h
noncomputable def e_box_Within : Entry := ⟨[none, none, none], false, fun args H K => match args, H with
  | [.int .u8 a0, .agg [.int .u64 a1_0, .int .u64 a1_1], .int .u8 a2], [] => box_Within a0 a1_0 a1_1 a2 (fun y0 y1 y2 => K (EV.tuple [EV.agg [EV.int IntKind.u64 y0, EV.int IntKind.u64 y1], EV.int IntKind.i64 y2]) [])
  | _, _ => False⟩
noncomputable def E_box_Within : Env := ⟨look tys, look [(48, e_box_Unbox), (50, e_box_Box)], look [], gl, lookL []⟩
theorem X_box_Within.eq (a0 : Int) (a1_0 : Int) (a1_1 : Int) (a2 : Int) (K : EV → Heap → Prop) : evFn E_box_Within Try.f61 false [.int .u8 a0, .agg [.int .u64 a1_0, .int .u64 a1_1], .int .u8 a2] [] K = box_Within a0 a1_0 a1_1 a2 (fun y0 y1 y2 => K (EV.tuple [EV.agg [EV.int IntKind.u64 y0, EV.int IntKind.u64 y1], EV.int IntKind.i64 y2]) []) := by
  have h : evFn E_box_Within Try.f61 false [.int .u8 a0, .agg [.int .u64 a1_0, .int .u64 a1_1], .int .u8 a2] [] K = box_Within.d a0 a1_0 a1_1 a2 (fun y0 y1 y2 => K (EV.tuple [EV.agg [EV.int IntKind.u64 y0, EV.int IntKind.u64 y1], EV.int IntKind.i64 y2]) []) := by kernel_rfl
  rw [box_Within.is]; exact h
theorem X_box_Within.ok : SoundE Try.prog gl 61 e_box_Within := by
  refine fnOK (E := E_box_Within) (fn := Try.f61) rfl tys_ok rfl (show AllL _ [(48, e_box_Unbox), (50, e_box_Box)] from ⟨X_box_Unbox.ok, X_box_Box.ok, trivial⟩) mixed (by kernel_rfl) (by kernel_rfl) (by kernel_rfl) 0 (by kernel_rfl) false trivial ?_
  intro args H
  by_cases hx : ∃ (a0 : Int) (a1_0 : Int) (a1_1 : Int) (a2 : Int), args = [.int .u8 a0, .agg [.int .u64 a1_0, .int .u64 a1_1], .int .u8 a2] ∧ H = []
  · obtain ⟨a0, a1_0, a1_1, a2, rfl, rfl⟩ := hx
    right; intro K
    exact iff_of_eq (X_box_Within.eq a0 a1_0 a1_1 a2 K).symm
  · left; intro K h
    simp only [e_box_Within] at h
    split at h
    · exact hx ⟨_, _, _, _, rfl, rfl⟩
    · exact h
noncomputable def e_law22_BoxWithin : Entry := ⟨[none, none, none], false, fun args H K => match args, H with
  | [.int .u8 a0, .int .u8 a1, .agg [.int .u64 a2_0, .int .u64 a2_1]], [] => law22_BoxWithin a0 a1 a2_0 a2_1 (fun y0 => K (EV.bool y0) [])
  | _, _ => False⟩
noncomputable def E_law22_BoxWithin : Env := ⟨look tys, look [(48, e_box_Unbox), (51, e_box_IsBoxed), (53, e_law22_lives), (59, e_law22_width), (61, e_box_Within)], look [], gl, lookL []⟩
theorem X_law22_BoxWithin.eq (a0 : Int) (a1 : Int) (a2_0 : Int) (a2_1 : Int) (K : EV → Heap → Prop) : evFn E_law22_BoxWithin Try.f8 false [.int .u8 a0, .int .u8 a1, .agg [.int .u64 a2_0, .int .u64 a2_1]] [] K = law22_BoxWithin a0 a1 a2_0 a2_1 (fun y0 => K (EV.bool y0) []) := by
  have h : evFn E_law22_BoxWithin Try.f8 false [.int .u8 a0, .int .u8 a1, .agg [.int .u64 a2_0, .int .u64 a2_1]] [] K = law22_BoxWithin.d a0 a1 a2_0 a2_1 (fun y0 => K (EV.bool y0) []) := by kernel_rfl
  rw [law22_BoxWithin.is]; exact h
theorem X_law22_BoxWithin.ok : SoundE Try.prog gl 8 e_law22_BoxWithin := by
  refine fnOK (E := E_law22_BoxWithin) (fn := Try.f8) rfl tys_ok rfl (show AllL _ [(48, e_box_Unbox), (51, e_box_IsBoxed), (53, e_law22_lives), (59, e_law22_width), (61, e_box_Within)] from ⟨X_box_Unbox.ok, X_box_IsBoxed.ok, X_law22_lives.ok, X_law22_width.ok, X_box_Within.ok, trivial⟩) mixed (by kernel_rfl) (by kernel_rfl) (by kernel_rfl) 0 (by kernel_rfl) false trivial ?_
  intro args H
  by_cases hx : ∃ (a0 : Int) (a1 : Int) (a2_0 : Int) (a2_1 : Int), args = [.int .u8 a0, .int .u8 a1, .agg [.int .u64 a2_0, .int .u64 a2_1]] ∧ H = []
  · obtain ⟨a0, a1, a2_0, a2_1, rfl, rfl⟩ := hx
    right; intro K
    exact iff_of_eq (X_law22_BoxWithin.eq a0 a1 a2_0 a2_1 K).symm
  · left; intro K h
    simp only [e_law22_BoxWithin] at h
    split at h
    · exact hx ⟨_, _, _, _, rfl, rfl⟩
    · exact h
noncomputable def e_law22_bit : Entry := ⟨[none, none], false, fun args H K => match args, H with
  | [.agg [.int .u64 a0_0, .int .u64 a0_1], .int .i64 a1], [] => law22_bit a0_0 a0_1 a1 (fun y0 => K (EV.bool y0) [])
  | _, _ => False⟩
noncomputable def E_law22_bit : Env := ⟨look tys, look [], look [], gl, lookL []⟩
theorem X_law22_bit.eq (a0_0 : Int) (a0_1 : Int) (a1 : Int) (K : EV → Heap → Prop) : evFn E_law22_bit Try.f60 false [.agg [.int .u64 a0_0, .int .u64 a0_1], .int .i64 a1] [] K = law22_bit a0_0 a0_1 a1 (fun y0 => K (EV.bool y0) []) := by
  have h : evFn E_law22_bit Try.f60 false [.agg [.int .u64 a0_0, .int .u64 a0_1], .int .i64 a1] [] K = law22_bit.d a0_0 a0_1 a1 (fun y0 => K (EV.bool y0) []) := by kernel_rfl
  rw [law22_bit.is]; exact h
theorem X_law22_bit.ok : SoundE Try.prog gl 60 e_law22_bit := by
  refine fnOK (E := E_law22_bit) (fn := Try.f60) rfl tys_ok rfl (show AllL _ [] from trivial) mixed (by kernel_rfl) (by kernel_rfl) (by kernel_rfl) 0 (by kernel_rfl) false trivial ?_
  intro args H
  by_cases hx : ∃ (a0_0 : Int) (a0_1 : Int) (a1 : Int), args = [.agg [.int .u64 a0_0, .int .u64 a0_1], .int .i64 a1] ∧ H = []
  · obtain ⟨a0_0, a0_1, a1, rfl, rfl⟩ := hx
    right; intro K
    exact iff_of_eq (X_law22_bit.eq a0_0 a0_1 a1 K).symm
  · left; intro K h
    simp only [e_law22_bit] at h
    split at h
    · exact hx ⟨_, _, _, rfl, rfl⟩
    · exact h
noncomputable def e_law22_BoxBack : Entry := ⟨[none, none, none], false, fun args H K => match args, H with
  | [.int .u8 a0, .int .u8 a1, .agg [.int .u64 a2_0, .int .u64 a2_1]], [] => law22_BoxBack a0 a1 a2_0 a2_1 (fun y0 => K (EV.bool y0) [])
  | _, _ => False⟩
noncomputable def E_law22_BoxBack : Env := ⟨look tys, look [(48, e_box_Unbox), (49, e_box_Low), (50, e_box_Box), (51, e_box_IsBoxed), (53, e_law22_lives), (59, e_law22_width), (60, e_law22_bit)], look [(19, law22_BoxBack.l19.entry)], gl, lookL []⟩
theorem law22_BoxBack.l19X.stepEq (R : List EV → Heap → Prop) (K : Ex → List EV → Heap → Prop) (x0 : Int) (x1 : Int) (x2 : Int) (x3 : Int) (x4 : Int) (x5 : Int) (x6 : Int) : loopStep (evCode E_law22_BoxBack (loopAt Try.f7 0) { (LV.mk 14155776 [(0, 14155776)] 64 0) with nx := live (.loop (loopAt Try.f7 0)) (LV.mk 14155776 [(0, 14155776)] 64 0) }) (live (.loop (loopAt Try.f7 0)) (LV.mk 14155776 [(0, 14155776)] 64 0)) (LV.mk 14155776 [(0, 14155776)] 64 0) 0 144 R [EV.int IntKind.i64 x0, EV.int IntKind.i64 x1, EV.ptr 0 [], EV.int IntKind.i64 x2, EV.int IntKind.i64 x3, EV.int IntKind.i64 x4] [some (EV.agg [EV.int IntKind.u64 x5, EV.int IntKind.u64 x6])] K = law22_BoxBack.l19.step (fun x0 x1 x2 x3 x4 x5 x6 => R [EV.int IntKind.i64 x0, EV.int IntKind.i64 x1, EV.ptr 0 [], EV.int IntKind.i64 x2, EV.int IntKind.i64 x3, EV.int IntKind.i64 x4] [some (EV.agg [EV.int IntKind.u64 x5, EV.int IntKind.u64 x6])]) (fun y0 y1 y2 y3 => K (.exit 0) [EV.int IntKind.i64 y0, EV.int IntKind.i64 y1, EV.int IntKind.i64 y2, EV.int IntKind.i64 y3] []) x0 x1 x2 x3 x4 x5 x6 := by kernel_rfl
theorem law22_BoxBack.l19X.eq (K : Ex → List EV → Heap → Prop) : ∀ (n : Nat) (x0 : Int) (x1 : Int) (x2 : Int) (x3 : Int) (x4 : Int) (x5 : Int) (x6 : Int), loopE E_law22_BoxBack (loopAt Try.f7 0) (LV.mk 14155776 [(0, 14155776)] 64 0) 0 144 K n [EV.int IntKind.i64 x0, EV.int IntKind.i64 x1, EV.ptr 0 [], EV.int IntKind.i64 x2, EV.int IntKind.i64 x3, EV.int IntKind.i64 x4] [some (EV.agg [EV.int IntKind.u64 x5, EV.int IntKind.u64 x6])] = law22_BoxBack.l19 (fun y0 y1 y2 y3 => K (.exit 0) [EV.int IntKind.i64 y0, EV.int IntKind.i64 y1, EV.int IntKind.i64 y2, EV.int IntKind.i64 y3] []) n x0 x1 x2 x3 x4 x5 x6
  | 0, _, _, _, _, _, _, _ => rfl
  | n + 1, x0, x1, x2, x3, x4, x5, x6 => by
    have ih : (fun (x0 : Int) (x1 : Int) (x2 : Int) (x3 : Int) (x4 : Int) (x5 : Int) (x6 : Int) => loopE E_law22_BoxBack (loopAt Try.f7 0) (LV.mk 14155776 [(0, 14155776)] 64 0) 0 144 K n [EV.int IntKind.i64 x0, EV.int IntKind.i64 x1, EV.ptr 0 [], EV.int IntKind.i64 x2, EV.int IntKind.i64 x3, EV.int IntKind.i64 x4] [some (EV.agg [EV.int IntKind.u64 x5, EV.int IntKind.u64 x6])]) = law22_BoxBack.l19 (fun y0 y1 y2 y3 => K (.exit 0) [EV.int IntKind.i64 y0, EV.int IntKind.i64 y1, EV.int IntKind.i64 y2, EV.int IntKind.i64 y3] []) n := by funext x0 x1 x2 x3 x4 x5 x6; exact law22_BoxBack.l19X.eq K n x0 x1 x2 x3 x4 x5 x6
    show loopStep _ _ _ _ _ (loopE E_law22_BoxBack (loopAt Try.f7 0) (LV.mk 14155776 [(0, 14155776)] 64 0) 0 144 K n) [EV.int IntKind.i64 x0, EV.int IntKind.i64 x1, EV.ptr 0 [], EV.int IntKind.i64 x2, EV.int IntKind.i64 x3, EV.int IntKind.i64 x4] [some (EV.agg [EV.int IntKind.u64 x5, EV.int IntKind.u64 x6])] K = law22_BoxBack.l19.step (law22_BoxBack.l19 (fun y0 y1 y2 y3 => K (.exit 0) [EV.int IntKind.i64 y0, EV.int IntKind.i64 y1, EV.int IntKind.i64 y2, EV.int IntKind.i64 y3] []) n) (fun y0 y1 y2 y3 => K (.exit 0) [EV.int IntKind.i64 y0, EV.int IntKind.i64 y1, EV.int IntKind.i64 y2, EV.int IntKind.i64 y3] []) x0 x1 x2 x3 x4 x5 x6
    rw [← ih]
    exact law22_BoxBack.l19X.stepEq _ K x0 x1 x2 x3 x4 x5 x6
theorem law22_BoxBack.l19X.ok : LoopEq E_law22_BoxBack (loopAt Try.f7 0) := by
  intro L hL vs H
  have h1 : E_law22_BoxBack.lp (firstRegion (loopAt Try.f7 0)) = some law22_BoxBack.l19.entry := by kernel_rfl
  have h2 : L = law22_BoxBack.l19.entry := Option.some.inj (hL.symm.trans h1)
  subst h2
  by_cases hx : ∃ (x0 : Int) (x1 : Int) (x2 : Int) (x3 : Int) (x4 : Int) (x5 : Int) (x6 : Int), vs = [EV.int IntKind.i64 x0, EV.int IntKind.i64 x1, EV.ptr 0 [], EV.int IntKind.i64 x2, EV.int IntKind.i64 x3, EV.int IntKind.i64 x4] ∧ H = [some (EV.agg [EV.int IntKind.u64 x5, EV.int IntKind.u64 x6])]
  · obtain ⟨x0, x1, x2, x3, x4, x5, x6, rfl, rfl⟩ := hx
    right; intro K
    exact exists_congr fun n => iff_of_eq (law22_BoxBack.l19X.eq K n x0 x1 x2 x3 x4 x5 x6).symm
  · left; intro K h
    simp only [law22_BoxBack.l19.entry] at h
    split at h
    · exact hx ⟨_, _, _, _, _, _, _, rfl, rfl⟩
    · exact h
theorem X_law22_BoxBack.eq (a0 : Int) (a1 : Int) (a2_0 : Int) (a2_1 : Int) (K : EV → Heap → Prop) : evFn E_law22_BoxBack Try.f7 false [.int .u8 a0, .int .u8 a1, .agg [.int .u64 a2_0, .int .u64 a2_1]] [] K = law22_BoxBack a0 a1 a2_0 a2_1 (fun y0 => K (EV.bool y0) []) := by
  have h : evFn E_law22_BoxBack Try.f7 false [.int .u8 a0, .int .u8 a1, .agg [.int .u64 a2_0, .int .u64 a2_1]] [] K = law22_BoxBack.d a0 a1 a2_0 a2_1 (fun y0 => K (EV.bool y0) []) := by kernel_rfl
  rw [law22_BoxBack.is]; exact h
theorem X_law22_BoxBack.ok : SoundE Try.prog gl 7 e_law22_BoxBack := by
  refine fnOK (E := E_law22_BoxBack) (fn := Try.f7) rfl tys_ok rfl (show AllL _ [(48, e_box_Unbox), (49, e_box_Low), (50, e_box_Box), (51, e_box_IsBoxed), (53, e_law22_lives), (59, e_law22_width), (60, e_law22_bit)] from ⟨X_box_Unbox.ok, X_box_Low.ok, X_box_Box.ok, X_box_IsBoxed.ok, X_law22_lives.ok, X_law22_width.ok, X_law22_bit.ok, trivial⟩) mixed (by kernel_rfl) (by kernel_rfl) (by kernel_rfl) 1 (by kernel_rfl) false ⟨law22_BoxBack.l19X.ok, trivial⟩ ?_
  intro args H
  by_cases hx : ∃ (a0 : Int) (a1 : Int) (a2_0 : Int) (a2_1 : Int), args = [.int .u8 a0, .int .u8 a1, .agg [.int .u64 a2_0, .int .u64 a2_1]] ∧ H = []
  · obtain ⟨a0, a1, a2_0, a2_1, rfl, rfl⟩ := hx
    right; intro K
    exact iff_of_eq (X_law22_BoxBack.eq a0 a1 a2_0 a2_1 K).symm
  · left; intro K h
    simp only [e_law22_BoxBack] at h
    split at h
    · exact hx ⟨_, _, _, _, rfl, rfl⟩
    · exact h
end Go.Ev.S
