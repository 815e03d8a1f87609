/- The functions of the seat: that the evaluator has them as they are. -/
import Derived.Test.YtdnndfaojopnbaaProg
import Derived.Test.YtdnndfaojopnbaaDShape
import Derived.Test.YtdnndfaojopnbaaDR02
import Derived.Test.YtdnndfaojopnbaaDR07
import Derived.Test.YtdnndfaojopnbaaDLaw07
import Derived.KernelRfl
set_option maxRecDepth 100000
set_option linter.unusedVariables false
set_option linter.unusedSimpArgs false
namespace Go.Ev.S
open Go Go.Proofs Go.Ev
def tys : List (Nat × TI) := [
  (1, ⟨.func, 1, 8, .nilFunc⟩),
  (2, ⟨.int .i64, 1, 8, .int .i64 0⟩),
  (3, ⟨.int .i64, 1, 8, .int .i64 0⟩),
  (4, ⟨.bool, 1, 1, .bool false⟩),
  (5, ⟨.int .u8, 1, 1, .int .u8 0⟩),
  (6, ⟨.int .u8, 1, 1, .int .u8 0⟩),
  (7, ⟨.struct [(0, 2), (1, 3), (2, 4), (3, 6)], 4, 24, .agg [.int .i64 0, .int .i64 0, .bool false, .int .u8 0]⟩),
  (8, ⟨.struct [(0, 2), (1, 3), (2, 4), (3, 6)], 4, 24, .agg [.int .i64 0, .int .i64 0, .bool false, .int .u8 0]⟩),
  (9, ⟨.str, 1, 16, .str []⟩),
  (10, ⟨.str, 1, 16, .str []⟩),
  (11, ⟨.str, 1, 16, .str []⟩),
  (12, ⟨.int .u64, 1, 8, .int .u64 0⟩),
  (15, ⟨.ptr, 1, 8, .nilPtr⟩),
  (16, ⟨.ptr, 1, 8, .nilPtr⟩),
  (17, ⟨.ptr, 1, 8, .nilPtr⟩),
  (21, ⟨.int .i32, 1, 4, .int .i32 0⟩),
  (22, ⟨.int .u8, 1, 1, .int .u8 0⟩),
  (23, ⟨.int .u8, 1, 1, .int .u8 0⟩),
  (24, ⟨.int .u64, 1, 8, .int .u64 0⟩),
  (25, ⟨.struct [(0, 24), (1, 24)], 2, 16, .agg [.int .u64 0, .int .u64 0]⟩),
  (26, ⟨.struct [(0, 24), (1, 24)], 2, 16, .agg [.int .u64 0, .int .u64 0]⟩),
  (27, ⟨.int .i64, 1, 8, .int .i64 0⟩),
  (28, ⟨.func, 1, 8, .nilFunc⟩),
  (29, ⟨.func, 1, 8, .nilFunc⟩),
  (30, ⟨.func, 1, 8, .nilFunc⟩),
  (31, ⟨.func, 1, 8, .nilFunc⟩),
  (32, ⟨.func, 1, 8, .nilFunc⟩),
  (33, ⟨.func, 1, 8, .nilFunc⟩),
  (34, ⟨.func, 1, 8, .nilFunc⟩),
  (35, ⟨.func, 1, 8, .nilFunc⟩),
  (37, ⟨.func, 1, 8, .nilFunc⟩),
  (39, ⟨.func, 1, 8, .nilFunc⟩),
  (41, ⟨.func, 1, 8, .nilFunc⟩),
  (43, ⟨.func, 1, 8, .nilFunc⟩),
  (44, ⟨.slice 22, 1, 24, .nilSlice⟩),
  (45, ⟨.func, 1, 8, .nilFunc⟩),
  (46, ⟨.func, 1, 8, .nilFunc⟩),
  (47, ⟨.func, 1, 8, .nilFunc⟩),
  (48, ⟨.func, 1, 8, .nilFunc⟩),
  (49, ⟨.func, 1, 8, .nilFunc⟩),
  (50, ⟨.func, 1, 8, .nilFunc⟩),
  (51, ⟨.func, 1, 8, .nilFunc⟩),
  (52, ⟨.func, 1, 8, .nilFunc⟩),
  (54, ⟨.func, 1, 8, .nilFunc⟩),
  (55, ⟨.func, 1, 8, .nilFunc⟩),
  (56, ⟨.func, 1, 8, .nilFunc⟩),
  (57, ⟨.func, 1, 8, .nilFunc⟩),
  (58, ⟨.func, 1, 8, .nilFunc⟩),
  (59, ⟨.func, 1, 8, .nilFunc⟩),
  (60, ⟨.slice 26, 1, 24, .nilSlice⟩),
  (61, ⟨.array 6 24, 6, 48, .arr .u64 6 (fun _ => 0)⟩),
  (62, ⟨.array 6 24, 6, 48, .arr .u64 6 (fun _ => 0)⟩),
  (64, ⟨.func, 1, 8, .nilFunc⟩),
  (65, ⟨.func, 1, 8, .nilFunc⟩),
  (66, ⟨.func, 1, 8, .nilFunc⟩),
  (67, ⟨.func, 1, 8, .nilFunc⟩),
  (68, ⟨.array 2 22, 2, 2, .arr .u8 2 (fun _ => 0)⟩),
  (69, ⟨.func, 1, 8, .nilFunc⟩),
  (70, ⟨.func, 1, 8, .nilFunc⟩),
  (71, ⟨.func, 1, 8, .nilFunc⟩),
  (73, ⟨.func, 1, 8, .nilFunc⟩),
  (74, ⟨.int .u64, 1, 8, .int .u64 0⟩),
  (75, ⟨.func, 1, 8, .nilFunc⟩),
  (76, ⟨.array 4 22, 4, 4, .arr .u8 4 (fun _ => 0)⟩),
  (77, ⟨.func, 1, 8, .nilFunc⟩),
  (78, ⟨.func, 1, 8, .nilFunc⟩),
  (79, ⟨.func, 1, 8, .nilFunc⟩),
  (80, ⟨.func, 1, 8, .nilFunc⟩),
  (81, ⟨.func, 1, 8, .nilFunc⟩),
  (82, ⟨.func, 1, 8, .nilFunc⟩),
  (83, ⟨.slice 3, 1, 24, .nilSlice⟩),
  (84, ⟨.func, 1, 8, .nilFunc⟩),
  (85, ⟨.func, 1, 8, .nilFunc⟩),
  (87, ⟨.func, 1, 8, .nilFunc⟩),
  (88, ⟨.struct [(0, 3), (1, 3), (2, 3), (3, 9)], 4, 40, .agg [.int .i64 0, .int .i64 0, .int .i64 0, .str []]⟩),
  (89, ⟨.array 4 88, 16, 160, .agg [.agg [.int .i64 0, .int .i64 0, .int .i64 0, .str []], .agg [.int .i64 0, .int .i64 0, .int .i64 0, .str []], .agg [.int .i64 0, .int .i64 0, .int .i64 0, .str []], .agg [.int .i64 0, .int .i64 0, .int .i64 0, .str []]]⟩),
  (90, ⟨.func, 1, 8, .nilFunc⟩),
  (92, ⟨.func, 1, 8, .nilFunc⟩),
  (93, ⟨.array 4 26, 8, 64, .agg [.agg [.int .u64 0, .int .u64 0], .agg [.int .u64 0, .int .u64 0], .agg [.int .u64 0, .int .u64 0], .agg [.int .u64 0, .int .u64 0]]⟩),
  (94, ⟨.func, 1, 8, .nilFunc⟩),
  (95, ⟨.func, 1, 8, .nilFunc⟩),
  (98, ⟨.array 0 16, 0, 0, .agg []⟩),
  (101, ⟨.func, 1, 8, .nilFunc⟩),
  (102, ⟨.int .u32, 1, 4, .int .u32 0⟩),
  (103, ⟨.int .u8, 1, 1, .int .u8 0⟩),
  (104, ⟨.int .u8, 1, 1, .int .u8 0⟩),
  (105, ⟨.func, 1, 8, .nilFunc⟩),
  (106, ⟨.ptr, 1, 8, .nilPtr⟩),
  (107, ⟨.int .i32, 1, 4, .int .i32 0⟩),
  (108, ⟨.int .i32, 1, 4, .int .i32 0⟩)]
theorem tys_ok : AllL (OkTI Try.prog) tys :=
  ⟨.of (by kernel_rfl) (by kernel_rfl), .of (by kernel_rfl) (by kernel_rfl), .of (by kernel_rfl) (by kernel_rfl), .of (by kernel_rfl) (by kernel_rfl), .of (by kernel_rfl) (by kernel_rfl), .of (by kernel_rfl) (by kernel_rfl), .of (by kernel_rfl) (by kernel_rfl), .of (by kernel_rfl) (by kernel_rfl), .of (by kernel_rfl) (by kernel_rfl), .of (by kernel_rfl) (by kernel_rfl), .of (by kernel_rfl) (by kernel_rfl), .of (by kernel_rfl) (by kernel_rfl), .of (by kernel_rfl) (by kernel_rfl), .of (by kernel_rfl) (by kernel_rfl), .of (by kernel_rfl) (by kernel_rfl), .of (by kernel_rfl) (by kernel_rfl), .of (by kernel_rfl) (by kernel_rfl), .of (by kernel_rfl) (by kernel_rfl), .of (by kernel_rfl) (by kernel_rfl), .of (by kernel_rfl) (by kernel_rfl), .of (by kernel_rfl) (by kernel_rfl), .of (by kernel_rfl) (by kernel_rfl), .of (by kernel_rfl) (by kernel_rfl), .of (by kernel_rfl) (by kernel_rfl), .of (by kernel_rfl) (by kernel_rfl), .of (by kernel_rfl) (by kernel_rfl), .of (by kernel_rfl) (by kernel_rfl), .of (by kernel_rfl) (by kernel_rfl), .of (by kernel_rfl) (by kernel_rfl), .of (by kernel_rfl) (by kernel_rfl), .of (by kernel_rfl) (by kernel_rfl), .of (by kernel_rfl) (by kernel_rfl), .of (by kernel_rfl) (by kernel_rfl), .of (by kernel_rfl) (by kernel_rfl), .of (by kernel_rfl) (by kernel_rfl), .of (by kernel_rfl) (by kernel_rfl), .of (by kernel_rfl) (by kernel_rfl), .of (by kernel_rfl) (by kernel_rfl), .of (by kernel_rfl) (by kernel_rfl), .of (by kernel_rfl) (by kernel_rfl), .of (by kernel_rfl) (by kernel_rfl), .of (by kernel_rfl) (by kernel_rfl), .of (by kernel_rfl) (by kernel_rfl), .of (by kernel_rfl) (by kernel_rfl), .of (by kernel_rfl) (by kernel_rfl), .of (by kernel_rfl) (by kernel_rfl), .of (by kernel_rfl) (by kernel_rfl), .of (by kernel_rfl) (by kernel_rfl), .of (by kernel_rfl) (by kernel_rfl), .of (by kernel_rfl) (by kernel_rfl), .of (by kernel_rfl) (by kernel_rfl), .of (by kernel_rfl) (by kernel_rfl), .of (by kernel_rfl) (by kernel_rfl), .of (by kernel_rfl) (by kernel_rfl), .of (by kernel_rfl) (by kernel_rfl), .of (by kernel_rfl) (by kernel_rfl), .of (by kernel_rfl) (by kernel_rfl), .of (by kernel_rfl) (by kernel_rfl), .of (by kernel_rfl) (by kernel_rfl), .of (by kernel_rfl) (by kernel_rfl), .of (by kernel_rfl) (by kernel_rfl), .of (by kernel_rfl) (by kernel_rfl), .of (by kernel_rfl) (by kernel_rfl), .of (by kernel_rfl) (by kernel_rfl), .of (by kernel_rfl) (by kernel_rfl), .of (by kernel_rfl) (by kernel_rfl), .of (by kernel_rfl) (by kernel_rfl), .of (by kernel_rfl) (by kernel_rfl), .of (by kernel_rfl) (by kernel_rfl), .of (by kernel_rfl) (by kernel_rfl), .of (by kernel_rfl) (by kernel_rfl), .of (by kernel_rfl) (by kernel_rfl), .of (by kernel_rfl) (by kernel_rfl), .of (by kernel_rfl) (by kernel_rfl), .of (by kernel_rfl) (by kernel_rfl), .of (by kernel_rfl) (by kernel_rfl), .of (by kernel_rfl) (by kernel_rfl), .of (by kernel_rfl) (by kernel_rfl), .of (by kernel_rfl) (by kernel_rfl), .of (by kernel_rfl) (by kernel_rfl), .of (by kernel_rfl) (by kernel_rfl), .of (by kernel_rfl) (by kernel_rfl), .of (by kernel_rfl) (by kernel_rfl), .of (by kernel_rfl) (by kernel_rfl), .of (by kernel_rfl) (by kernel_rfl), .of (by kernel_rfl) (by kernel_rfl), .of (by kernel_rfl) (by kernel_rfl), .of (by kernel_rfl) (by kernel_rfl), .of (by kernel_rfl) (by kernel_rfl), .of (by kernel_rfl) (by kernel_rfl), trivial⟩
theorem mixed : Try.prog.follows .mixedOrders = true := by kernel_rfl
def gl : Nat → Option EV := look []
noncomputable def e_r07_Right : Entry := ⟨[none], false, fun args H K => match args, H with
  | [.int .u8 a0], [] => r07_Right a0 (fun y0 => K (EV.bool y0) [])
  | _, _ => False⟩
noncomputable def E_r07_Right : Env := ⟨look tys, look [], look [], gl, lookL []⟩
theorem X_r07_Right.eq (a0 : Int) (K : EV → Heap → Prop) : evFn E_r07_Right Try.f12 false [.int .u8 a0] [] K = r07_Right a0 (fun y0 => K (EV.bool y0) []) := by
  have h : evFn E_r07_Right Try.f12 false [.int .u8 a0] [] K = r07_Right.d a0 (fun y0 => K (EV.bool y0) []) := by kernel_rfl
  rw [r07_Right.is]; exact h
theorem X_r07_Right.ok : SoundE Try.prog gl 12 e_r07_Right := by
  refine fnOK (E := E_r07_Right) (fn := Try.f12) rfl tys_ok rfl (show AllL _ [] from trivial) mixed (by kernel_rfl) (by kernel_rfl) (by kernel_rfl) 0 (by kernel_rfl) false trivial ?_
  intro args H
  by_cases hx : ∃ (a0 : Int), args = [.int .u8 a0] ∧ H = []
  · obtain ⟨a0, rfl, rfl⟩ := hx
    right; intro K
    exact iff_of_eq (X_r07_Right.eq a0 K).symm
  · left; intro K h
    simp only [e_r07_Right] at h
    split at h
    · exact hx ⟨_, rfl, rfl⟩
    · exact h
noncomputable def e_shape_numbers : Entry := ⟨[none], false, fun args H K => match args, H with
  | [.int .u8 a0], [] => shape_numbers a0 (fun y0 y1 y2 y3 => K (EV.tuple [EV.int IntKind.i64 y0, EV.int IntKind.i64 y1, EV.int IntKind.i64 y2, EV.str y3]) [])
  | _, _ => False⟩
noncomputable def E_shape_numbers : Env := ⟨look tys, look [], look [], gl, lookL []⟩
theorem X_shape_numbers.eq (a0 : Int) (K : EV → Heap → Prop) : evFn E_shape_numbers Try.f68 false [.int .u8 a0] [] K = shape_numbers a0 (fun y0 y1 y2 y3 => K (EV.tuple [EV.int IntKind.i64 y0, EV.int IntKind.i64 y1, EV.int IntKind.i64 y2, EV.str y3]) []) := by
  have h : evFn E_shape_numbers Try.f68 false [.int .u8 a0] [] K = shape_numbers.d a0 (fun y0 y1 y2 y3 => K (EV.tuple [EV.int IntKind.i64 y0, EV.int IntKind.i64 y1, EV.int IntKind.i64 y2, EV.str y3]) []) := by kernel_rfl
  rw [shape_numbers.is]; exact h
theorem X_shape_numbers.ok : SoundE Try.prog gl 68 e_shape_numbers := by
  refine fnOK (E := E_shape_numbers) (fn := Try.f68) rfl tys_ok rfl (show AllL _ [] from trivial) mixed (by kernel_rfl) (by kernel_rfl) (by kernel_rfl) 0 (by kernel_rfl) false trivial ?_
  intro args H
  by_cases hx : ∃ (a0 : Int), args = [.int .u8 a0] ∧ H = []
  · obtain ⟨a0, rfl, rfl⟩ := hx
    right; intro K
    exact iff_of_eq (X_shape_numbers.eq a0 K).symm
  · left; intro K h
    simp only [e_shape_numbers] at h
    split at h
    · exact hx ⟨_, rfl, rfl⟩
    · exact h
noncomputable def e_shape_Width : Entry := ⟨[none], false, fun args H K => match args, H with
  | [.int .u8 a0], [] => shape_Width a0 (fun y0 => K (EV.int IntKind.i64 y0) [])
  | _, _ => False⟩
noncomputable def E_shape_Width : Env := ⟨look tys, look [(68, e_shape_numbers)], look [], gl, lookL []⟩
theorem X_shape_Width.eq (a0 : Int) (K : EV → Heap → Prop) : evFn E_shape_Width Try.f15 false [.int .u8 a0] [] K = shape_Width a0 (fun y0 => K (EV.int IntKind.i64 y0) []) := by
  have h : evFn E_shape_Width Try.f15 false [.int .u8 a0] [] K = shape_Width.d a0 (fun y0 => K (EV.int IntKind.i64 y0) []) := by kernel_rfl
  rw [shape_Width.is]; exact h
theorem X_shape_Width.ok : SoundE Try.prog gl 15 e_shape_Width := by
  refine fnOK (E := E_shape_Width) (fn := Try.f15) rfl tys_ok rfl (show AllL _ [(68, e_shape_numbers)] from ⟨X_shape_numbers.ok, trivial⟩) mixed (by kernel_rfl) (by kernel_rfl) (by kernel_rfl) 0 (by kernel_rfl) false trivial ?_
  intro args H
  by_cases hx : ∃ (a0 : Int), args = [.int .u8 a0] ∧ H = []
  · obtain ⟨a0, rfl, rfl⟩ := hx
    right; intro K
    exact iff_of_eq (X_shape_Width.eq a0 K).symm
  · left; intro K h
    simp only [e_shape_Width] at h
    split at h
    · exact hx ⟨_, rfl, rfl⟩
    · exact h
noncomputable def e_shape_Precision : Entry := ⟨[none], false, fun args H K => match args, H with
  | [.int .u8 a0], [] => shape_Precision a0 (fun y0 => K (EV.int IntKind.i64 y0) [])
  | _, _ => False⟩
noncomputable def E_shape_Precision : Env := ⟨look tys, look [(68, e_shape_numbers)], look [], gl, lookL []⟩
theorem X_shape_Precision.eq (a0 : Int) (K : EV → Heap → Prop) : evFn E_shape_Precision Try.f17 false [.int .u8 a0] [] K = shape_Precision a0 (fun y0 => K (EV.int IntKind.i64 y0) []) := by
  have h : evFn E_shape_Precision Try.f17 false [.int .u8 a0] [] K = shape_Precision.d a0 (fun y0 => K (EV.int IntKind.i64 y0) []) := by kernel_rfl
  rw [shape_Precision.is]; exact h
theorem X_shape_Precision.ok : SoundE Try.prog gl 17 e_shape_Precision := by
  refine fnOK (E := E_shape_Precision) (fn := Try.f17) rfl tys_ok rfl (show AllL _ [(68, e_shape_numbers)] from ⟨X_shape_numbers.ok, trivial⟩) mixed (by kernel_rfl) (by kernel_rfl) (by kernel_rfl) 0 (by kernel_rfl) false trivial ?_
  intro args H
  by_cases hx : ∃ (a0 : Int), args = [.int .u8 a0] ∧ H = []
  · obtain ⟨a0, rfl, rfl⟩ := hx
    right; intro K
    exact iff_of_eq (X_shape_Precision.eq a0 K).symm
  · left; intro K h
    simp only [e_shape_Precision] at h
    split at h
    · exact hx ⟨_, rfl, rfl⟩
    · exact h
noncomputable def e_shape_Emax : Entry := ⟨[none], false, fun args H K => match args, H with
  | [.int .u8 a0], [] => shape_Emax a0 (fun y0 => K (EV.int IntKind.i64 y0) [])
  | _, _ => False⟩
noncomputable def E_shape_Emax : Env := ⟨look tys, look [(68, e_shape_numbers)], look [], gl, lookL []⟩
theorem X_shape_Emax.eq (a0 : Int) (K : EV → Heap → Prop) : evFn E_shape_Emax Try.f19 false [.int .u8 a0] [] K = shape_Emax a0 (fun y0 => K (EV.int IntKind.i64 y0) []) := by
  have h : evFn E_shape_Emax Try.f19 false [.int .u8 a0] [] K = shape_Emax.d a0 (fun y0 => K (EV.int IntKind.i64 y0) []) := by kernel_rfl
  rw [shape_Emax.is]; exact h
theorem X_shape_Emax.ok : SoundE Try.prog gl 19 e_shape_Emax := by
  refine fnOK (E := E_shape_Emax) (fn := Try.f19) rfl tys_ok rfl (show AllL _ [(68, e_shape_numbers)] from ⟨X_shape_numbers.ok, trivial⟩) mixed (by kernel_rfl) (by kernel_rfl) (by kernel_rfl) 0 (by kernel_rfl) false trivial ?_
  intro args H
  by_cases hx : ∃ (a0 : Int), args = [.int .u8 a0] ∧ H = []
  · obtain ⟨a0, rfl, rfl⟩ := hx
    right; intro K
    exact iff_of_eq (X_shape_Emax.eq a0 K).symm
  · left; intro K h
    simp only [e_shape_Emax] at h
    split at h
    · exact hx ⟨_, rfl, rfl⟩
    · exact h
noncomputable def e_shape_Check : Entry := ⟨[none], false, fun args H K => match args, H with
  | [.int .u8 a0], [] => shape_Check a0 (fun y0 => K (EV.int IntKind.i64 y0) [])
  | _, _ => False⟩
noncomputable def E_shape_Check : Env := ⟨look tys, look [], look [], gl, lookL []⟩
theorem X_shape_Check.eq (a0 : Int) (K : EV → Heap → Prop) : evFn E_shape_Check Try.f11 false [.int .u8 a0] [] K = shape_Check a0 (fun y0 => K (EV.int IntKind.i64 y0) []) := by
  have h : evFn E_shape_Check Try.f11 false [.int .u8 a0] [] K = shape_Check.d a0 (fun y0 => K (EV.int IntKind.i64 y0) []) := by kernel_rfl
  rw [shape_Check.is]; exact h
theorem X_shape_Check.ok : SoundE Try.prog gl 11 e_shape_Check := by
  refine fnOK (E := E_shape_Check) (fn := Try.f11) rfl tys_ok rfl (show AllL _ [] from trivial) mixed (by kernel_rfl) (by kernel_rfl) (by kernel_rfl) 0 (by kernel_rfl) false trivial ?_
  intro args H
  by_cases hx : ∃ (a0 : Int), args = [.int .u8 a0] ∧ H = []
  · obtain ⟨a0, rfl, rfl⟩ := hx
    right; intro K
    exact iff_of_eq (X_shape_Check.eq a0 K).symm
  · left; intro K h
    simp only [e_shape_Check] at h
    split at h
    · exact hx ⟨_, rfl, rfl⟩
    · exact h
noncomputable def e_shape_Emin : Entry := ⟨[none], false, fun args H K => match args, H with
  | [.int .u8 a0], [] => shape_Emin a0 (fun y0 => K (EV.int IntKind.i64 y0) [])
  | _, _ => False⟩
noncomputable def E_shape_Emin : Env := ⟨look tys, look [(11, e_shape_Check), (19, e_shape_Emax)], look [], gl, lookL []⟩
theorem X_shape_Emin.eq (a0 : Int) (K : EV → Heap → Prop) : evFn E_shape_Emin Try.f21 false [.int .u8 a0] [] K = shape_Emin a0 (fun y0 => K (EV.int IntKind.i64 y0) []) := by
  have h : evFn E_shape_Emin Try.f21 false [.int .u8 a0] [] K = shape_Emin.d a0 (fun y0 => K (EV.int IntKind.i64 y0) []) := by kernel_rfl
  rw [shape_Emin.is]; exact h
theorem X_shape_Emin.ok : SoundE Try.prog gl 21 e_shape_Emin := by
  refine fnOK (E := E_shape_Emin) (fn := Try.f21) rfl tys_ok rfl (show AllL _ [(11, e_shape_Check), (19, e_shape_Emax)] from ⟨X_shape_Check.ok, X_shape_Emax.ok, trivial⟩) mixed (by kernel_rfl) (by kernel_rfl) (by kernel_rfl) 0 (by kernel_rfl) false trivial ?_
  intro args H
  by_cases hx : ∃ (a0 : Int), args = [.int .u8 a0] ∧ H = []
  · obtain ⟨a0, rfl, rfl⟩ := hx
    right; intro K
    exact iff_of_eq (X_shape_Emin.eq a0 K).symm
  · left; intro K h
    simp only [e_shape_Emin] at h
    split at h
    · exact hx ⟨_, rfl, rfl⟩
    · exact h
noncomputable def e_shape_Fits : Entry := ⟨[none, none], false, fun args H K => match args, H with
  | [.int .u8 a0, .agg [.int .u64 a1_0, .int .u64 a1_1]], [] => shape_Fits a0 a1_0 a1_1 (fun y0 => K (EV.bool y0) [])
  | _, _ => False⟩
noncomputable def E_shape_Fits : Env := ⟨look tys, look [(15, e_shape_Width)], look [], gl, lookL []⟩
theorem X_shape_Fits.eq (a0 : Int) (a1_0 : Int) (a1_1 : Int) (K : EV → Heap → Prop) : evFn E_shape_Fits Try.f23 false [.int .u8 a0, .agg [.int .u64 a1_0, .int .u64 a1_1]] [] K = shape_Fits a0 a1_0 a1_1 (fun y0 => K (EV.bool y0) []) := by
  have h : evFn E_shape_Fits Try.f23 false [.int .u8 a0, .agg [.int .u64 a1_0, .int .u64 a1_1]] [] K = shape_Fits.d a0 a1_0 a1_1 (fun y0 => K (EV.bool y0) []) := by kernel_rfl
  rw [shape_Fits.is]; exact h
theorem X_shape_Fits.ok : SoundE Try.prog gl 23 e_shape_Fits := by
  refine fnOK (E := E_shape_Fits) (fn := Try.f23) rfl tys_ok rfl (show AllL _ [(15, e_shape_Width)] from ⟨X_shape_Width.ok, trivial⟩) mixed (by kernel_rfl) (by kernel_rfl) (by kernel_rfl) 0 (by kernel_rfl) false trivial ?_
  intro args H
  by_cases hx : ∃ (a0 : Int) (a1_0 : Int) (a1_1 : Int), args = [.int .u8 a0, .agg [.int .u64 a1_0, .int .u64 a1_1]] ∧ H = []
  · obtain ⟨a0, a1_0, a1_1, rfl, rfl⟩ := hx
    right; intro K
    exact iff_of_eq (X_shape_Fits.eq a0 a1_0 a1_1 K).symm
  · left; intro K h
    simp only [e_shape_Fits] at h
    split at h
    · exact hx ⟨_, _, _, rfl, rfl⟩
    · exact h
noncomputable def e_shape_CheckMode : Entry := ⟨[none], false, fun args H K => match args, H with
  | [.int .u8 a0], [] => shape_CheckMode a0 (fun y0 => K (EV.int IntKind.i64 y0) [])
  | _, _ => False⟩
noncomputable def E_shape_CheckMode : Env := ⟨look tys, look [], look [], gl, lookL []⟩
theorem X_shape_CheckMode.eq (a0 : Int) (K : EV → Heap → Prop) : evFn E_shape_CheckMode Try.f13 false [.int .u8 a0] [] K = shape_CheckMode a0 (fun y0 => K (EV.int IntKind.i64 y0) []) := by
  have h : evFn E_shape_CheckMode Try.f13 false [.int .u8 a0] [] K = shape_CheckMode.d a0 (fun y0 => K (EV.int IntKind.i64 y0) []) := by kernel_rfl
  rw [shape_CheckMode.is]; exact h
theorem X_shape_CheckMode.ok : SoundE Try.prog gl 13 e_shape_CheckMode := by
  refine fnOK (E := E_shape_CheckMode) (fn := Try.f13) rfl tys_ok rfl (show AllL _ [] from trivial) mixed (by kernel_rfl) (by kernel_rfl) (by kernel_rfl) 0 (by kernel_rfl) false trivial ?_
  intro args H
  by_cases hx : ∃ (a0 : Int), args = [.int .u8 a0] ∧ H = []
  · obtain ⟨a0, rfl, rfl⟩ := hx
    right; intro K
    exact iff_of_eq (X_shape_CheckMode.eq a0 K).symm
  · left; intro K h
    simp only [e_shape_CheckMode] at h
    split at h
    · exact hx ⟨_, rfl, rfl⟩
    · exact h
noncomputable def e_shape_at : Entry := ⟨[none, none], false, fun args H K => match args, H with
  | [.int .u64 a0, .int .i64 a1], [] => shape_at a0 a1 (fun y0 y1 => K (EV.agg [EV.int IntKind.u64 y0, EV.int IntKind.u64 y1]) [])
  | _, _ => False⟩
noncomputable def E_shape_at : Env := ⟨look tys, look [], look [], gl, lookL []⟩
theorem X_shape_at.eq (a0 : Int) (a1 : Int) (K : EV → Heap → Prop) : evFn E_shape_at Try.f71 false [.int .u64 a0, .int .i64 a1] [] K = shape_at a0 a1 (fun y0 y1 => K (EV.agg [EV.int IntKind.u64 y0, EV.int IntKind.u64 y1]) []) := by
  have h : evFn E_shape_at Try.f71 false [.int .u64 a0, .int .i64 a1] [] K = shape_at.d a0 a1 (fun y0 y1 => K (EV.agg [EV.int IntKind.u64 y0, EV.int IntKind.u64 y1]) []) := by kernel_rfl
  rw [shape_at.is]; exact h
theorem X_shape_at.ok : SoundE Try.prog gl 71 e_shape_at := by
  refine fnOK (E := E_shape_at) (fn := Try.f71) rfl tys_ok rfl (show AllL _ [] from trivial) mixed (by kernel_rfl) (by kernel_rfl) (by kernel_rfl) 0 (by kernel_rfl) false trivial ?_
  intro args H
  by_cases hx : ∃ (a0 : Int) (a1 : Int), args = [.int .u64 a0, .int .i64 a1] ∧ H = []
  · obtain ⟨a0, a1, rfl, rfl⟩ := hx
    right; intro K
    exact iff_of_eq (X_shape_at.eq a0 a1 K).symm
  · left; intro K h
    simp only [e_shape_at] at h
    split at h
    · exact hx ⟨_, _, rfl, rfl⟩
    · exact h
noncomputable def e_shape_NaN : Entry := ⟨[none], false, fun args H K => match args, H with
  | [.int .u8 a0], [] => shape_NaN a0 (fun y0 y1 => K (EV.agg [EV.int IntKind.u64 y0, EV.int IntKind.u64 y1]) [])
  | _, _ => False⟩
noncomputable def E_shape_NaN : Env := ⟨look tys, look [(11, e_shape_Check), (17, e_shape_Precision), (19, e_shape_Emax), (71, e_shape_at)], look [], gl, lookL []⟩
theorem X_shape_NaN.eq (a0 : Int) (K : EV → Heap → Prop) : evFn E_shape_NaN Try.f32 false [.int .u8 a0] [] K = shape_NaN a0 (fun y0 y1 => K (EV.agg [EV.int IntKind.u64 y0, EV.int IntKind.u64 y1]) []) := by
  have h : evFn E_shape_NaN Try.f32 false [.int .u8 a0] [] K = shape_NaN.d a0 (fun y0 y1 => K (EV.agg [EV.int IntKind.u64 y0, EV.int IntKind.u64 y1]) []) := by kernel_rfl
  rw [shape_NaN.is]; exact h
theorem X_shape_NaN.ok : SoundE Try.prog gl 32 e_shape_NaN := by
  refine fnOK (E := E_shape_NaN) (fn := Try.f32) rfl tys_ok rfl (show AllL _ [(11, e_shape_Check), (17, e_shape_Precision), (19, e_shape_Emax), (71, e_shape_at)] from ⟨X_shape_Check.ok, X_shape_Precision.ok, X_shape_Emax.ok, X_shape_at.ok, trivial⟩) mixed (by kernel_rfl) (by kernel_rfl) (by kernel_rfl) 0 (by kernel_rfl) false trivial ?_
  intro args H
  by_cases hx : ∃ (a0 : Int), args = [.int .u8 a0] ∧ H = []
  · obtain ⟨a0, rfl, rfl⟩ := hx
    right; intro K
    exact iff_of_eq (X_shape_NaN.eq a0 K).symm
  · left; intro K h
    simp only [e_shape_NaN] at h
    split at h
    · exact hx ⟨_, rfl, rfl⟩
    · exact h
noncomputable def e_law07_alive : Entry := ⟨[], false, fun args H K => match args, H with
  | [], [] => law07_alive  (fun y0 => K (EV.bool y0) [])
  | _, _ => False⟩
noncomputable def E_law07_alive : Env := ⟨look tys, look [(11, e_shape_Check), (13, e_shape_CheckMode), (15, e_shape_Width), (19, e_shape_Emax), (32, e_shape_NaN)], look [], gl, lookL []⟩
theorem X_law07_alive.eq (K : EV → Heap → Prop) : evFn E_law07_alive Try.f25 false [] [] K = law07_alive  (fun y0 => K (EV.bool y0) []) := by
  have h : evFn E_law07_alive Try.f25 false [] [] K = law07_alive.d  (fun y0 => K (EV.bool y0) []) := by kernel_rfl
  rw [law07_alive.is]; exact h
theorem X_law07_alive.ok : SoundE Try.prog gl 25 e_law07_alive := by
  refine fnOK (E := E_law07_alive) (fn := Try.f25) rfl tys_ok rfl (show AllL _ [(11, e_shape_Check), (13, e_shape_CheckMode), (15, e_shape_Width), (19, e_shape_Emax), (32, e_shape_NaN)] from ⟨X_shape_Check.ok, X_shape_CheckMode.ok, X_shape_Width.ok, X_shape_Emax.ok, X_shape_NaN.ok, trivial⟩) mixed (by kernel_rfl) (by kernel_rfl) (by kernel_rfl) 0 (by kernel_rfl) false trivial ?_
  intro args H
  by_cases hx : args = [] ∧ H = []
  · obtain ⟨rfl, rfl⟩ := hx
    right; intro K
    exact iff_of_eq (X_law07_alive.eq  K).symm
  · left; intro K h
    simp only [e_law07_alive] at h
    split at h
    · exact hx ⟨rfl, rfl⟩
    · exact h
noncomputable def e_shape_with : Entry := ⟨[none, none, none], false, fun args H K => match args, H with
  | [.int .u8 a0, .agg [.int .u64 a1_0, .int .u64 a1_1], .bool a2], [] => shape_with a0 a1_0 a1_1 a2 (fun y0 y1 => K (EV.agg [EV.int IntKind.u64 y0, EV.int IntKind.u64 y1]) [])
  | _, _ => False⟩
noncomputable def E_shape_with : Env := ⟨look tys, look [(11, e_shape_Check), (15, e_shape_Width), (71, e_shape_at)], look [], gl, lookL []⟩
theorem X_shape_with.eq (a0 : Int) (a1_0 : Int) (a1_1 : Int) (a2 : Bool) (K : EV → Heap → Prop) : evFn E_shape_with Try.f72 false [.int .u8 a0, .agg [.int .u64 a1_0, .int .u64 a1_1], .bool a2] [] K = shape_with a0 a1_0 a1_1 a2 (fun y0 y1 => K (EV.agg [EV.int IntKind.u64 y0, EV.int IntKind.u64 y1]) []) := by
  have h : evFn E_shape_with Try.f72 false [.int .u8 a0, .agg [.int .u64 a1_0, .int .u64 a1_1], .bool a2] [] K = shape_with.d a0 a1_0 a1_1 a2 (fun y0 y1 => K (EV.agg [EV.int IntKind.u64 y0, EV.int IntKind.u64 y1]) []) := by kernel_rfl
  rw [shape_with.is]; exact h
theorem X_shape_with.ok : SoundE Try.prog gl 72 e_shape_with := by
  refine fnOK (E := E_shape_with) (fn := Try.f72) rfl tys_ok rfl (show AllL _ [(11, e_shape_Check), (15, e_shape_Width), (71, e_shape_at)] from ⟨X_shape_Check.ok, X_shape_Width.ok, X_shape_at.ok, trivial⟩) mixed (by kernel_rfl) (by kernel_rfl) (by kernel_rfl) 0 (by kernel_rfl) false trivial ?_
  intro args H
  by_cases hx : ∃ (a0 : Int) (a1_0 : Int) (a1_1 : Int) (a2 : Bool), args = [.int .u8 a0, .agg [.int .u64 a1_0, .int .u64 a1_1], .bool a2] ∧ H = []
  · obtain ⟨a0, a1_0, a1_1, a2, rfl, rfl⟩ := hx
    right; intro K
    exact iff_of_eq (X_shape_with.eq a0 a1_0 a1_1 a2 K).symm
  · left; intro K h
    simp only [e_shape_with] at h
    split at h
    · exact hx ⟨_, _, _, _, rfl, rfl⟩
    · exact h
noncomputable def e_shape_field : Entry := ⟨[none, none], false, fun args H K => match args, H with
  | [.int .u8 a0, .int .i64 a1], [] => shape_field a0 a1 (fun y0 y1 => K (EV.agg [EV.int IntKind.u64 y0, EV.int IntKind.u64 y1]) [])
  | _, _ => False⟩
noncomputable def E_shape_field : Env := ⟨look tys, look [(17, e_shape_Precision), (71, e_shape_at)], look [], gl, lookL []⟩
theorem X_shape_field.eq (a0 : Int) (a1 : Int) (K : EV → Heap → Prop) : evFn E_shape_field Try.f73 false [.int .u8 a0, .int .i64 a1] [] K = shape_field a0 a1 (fun y0 y1 => K (EV.agg [EV.int IntKind.u64 y0, EV.int IntKind.u64 y1]) []) := by
  have h : evFn E_shape_field Try.f73 false [.int .u8 a0, .int .i64 a1] [] K = shape_field.d a0 a1 (fun y0 y1 => K (EV.agg [EV.int IntKind.u64 y0, EV.int IntKind.u64 y1]) []) := by kernel_rfl
  rw [shape_field.is]; exact h
theorem X_shape_field.ok : SoundE Try.prog gl 73 e_shape_field := by
  refine fnOK (E := E_shape_field) (fn := Try.f73) rfl tys_ok rfl (show AllL _ [(17, e_shape_Precision), (71, e_shape_at)] from ⟨X_shape_Precision.ok, X_shape_at.ok, trivial⟩) mixed (by kernel_rfl) (by kernel_rfl) (by kernel_rfl) 0 (by kernel_rfl) false trivial ?_
  intro args H
  by_cases hx : ∃ (a0 : Int) (a1 : Int), args = [.int .u8 a0, .int .i64 a1] ∧ H = []
  · obtain ⟨a0, a1, rfl, rfl⟩ := hx
    right; intro K
    exact iff_of_eq (X_shape_field.eq a0 a1 K).symm
  · left; intro K h
    simp only [e_shape_field] at h
    split at h
    · exact hx ⟨_, _, rfl, rfl⟩
    · exact h
noncomputable def e_shape_Inf : Entry := ⟨[none, none], false, fun args H K => match args, H with
  | [.int .u8 a0, .bool a1], [] => shape_Inf a0 a1 (fun y0 y1 => K (EV.agg [EV.int IntKind.u64 y0, EV.int IntKind.u64 y1]) [])
  | _, _ => False⟩
noncomputable def E_shape_Inf : Env := ⟨look tys, look [(11, e_shape_Check), (19, e_shape_Emax), (72, e_shape_with), (73, e_shape_field)], look [], gl, lookL []⟩
theorem X_shape_Inf.eq (a0 : Int) (a1 : Bool) (K : EV → Heap → Prop) : evFn E_shape_Inf Try.f33 false [.int .u8 a0, .bool a1] [] K = shape_Inf a0 a1 (fun y0 y1 => K (EV.agg [EV.int IntKind.u64 y0, EV.int IntKind.u64 y1]) []) := by
  have h : evFn E_shape_Inf Try.f33 false [.int .u8 a0, .bool a1] [] K = shape_Inf.d a0 a1 (fun y0 y1 => K (EV.agg [EV.int IntKind.u64 y0, EV.int IntKind.u64 y1]) []) := by kernel_rfl
  rw [shape_Inf.is]; exact h
theorem X_shape_Inf.ok : SoundE Try.prog gl 33 e_shape_Inf := by
  refine fnOK (E := E_shape_Inf) (fn := Try.f33) rfl tys_ok rfl (show AllL _ [(11, e_shape_Check), (19, e_shape_Emax), (72, e_shape_with), (73, e_shape_field)] from ⟨X_shape_Check.ok, X_shape_Emax.ok, X_shape_with.ok, X_shape_field.ok, trivial⟩) mixed (by kernel_rfl) (by kernel_rfl) (by kernel_rfl) 0 (by kernel_rfl) false trivial ?_
  intro args H
  by_cases hx : ∃ (a0 : Int) (a1 : Bool), args = [.int .u8 a0, .bool a1] ∧ H = []
  · obtain ⟨a0, a1, rfl, rfl⟩ := hx
    right; intro K
    exact iff_of_eq (X_shape_Inf.eq a0 a1 K).symm
  · left; intro K h
    simp only [e_shape_Inf] at h
    split at h
    · exact hx ⟨_, _, rfl, rfl⟩
    · exact h
noncomputable def e_shape_Zero : Entry := ⟨[none, none], false, fun args H K => match args, H with
  | [.int .u8 a0, .bool a1], [] => shape_Zero a0 a1 (fun y0 y1 => K (EV.agg [EV.int IntKind.u64 y0, EV.int IntKind.u64 y1]) [])
  | _, _ => False⟩
noncomputable def E_shape_Zero : Env := ⟨look tys, look [(72, e_shape_with)], look [], gl, lookL []⟩
theorem X_shape_Zero.eq (a0 : Int) (a1 : Bool) (K : EV → Heap → Prop) : evFn E_shape_Zero Try.f34 false [.int .u8 a0, .bool a1] [] K = shape_Zero a0 a1 (fun y0 y1 => K (EV.agg [EV.int IntKind.u64 y0, EV.int IntKind.u64 y1]) []) := by
  have h : evFn E_shape_Zero Try.f34 false [.int .u8 a0, .bool a1] [] K = shape_Zero.d a0 a1 (fun y0 y1 => K (EV.agg [EV.int IntKind.u64 y0, EV.int IntKind.u64 y1]) []) := by kernel_rfl
  rw [shape_Zero.is]; exact h
theorem X_shape_Zero.ok : SoundE Try.prog gl 34 e_shape_Zero := by
  refine fnOK (E := E_shape_Zero) (fn := Try.f34) rfl tys_ok rfl (show AllL _ [(72, e_shape_with)] from ⟨X_shape_with.ok, trivial⟩) mixed (by kernel_rfl) (by kernel_rfl) (by kernel_rfl) 0 (by kernel_rfl) false trivial ?_
  intro args H
  by_cases hx : ∃ (a0 : Int) (a1 : Bool), args = [.int .u8 a0, .bool a1] ∧ H = []
  · obtain ⟨a0, a1, rfl, rfl⟩ := hx
    right; intro K
    exact iff_of_eq (X_shape_Zero.eq a0 a1 K).symm
  · left; intro K h
    simp only [e_shape_Zero] at h
    split at h
    · exact hx ⟨_, _, rfl, rfl⟩
    · exact h
noncomputable def e_shape_Greatest : Entry := ⟨[none, none], false, fun args H K => match args, H with
  | [.int .u8 a0, .bool a1], [] => shape_Greatest a0 a1 (fun y0 y1 => K (EV.agg [EV.int IntKind.u64 y0, EV.int IntKind.u64 y1]) [])
  | _, _ => False⟩
noncomputable def E_shape_Greatest : Env := ⟨look tys, look [(11, e_shape_Check), (15, e_shape_Width), (33, e_shape_Inf), (72, e_shape_with)], look [], gl, lookL []⟩
theorem X_shape_Greatest.eq (a0 : Int) (a1 : Bool) (K : EV → Heap → Prop) : evFn E_shape_Greatest Try.f35 false [.int .u8 a0, .bool a1] [] K = shape_Greatest a0 a1 (fun y0 y1 => K (EV.agg [EV.int IntKind.u64 y0, EV.int IntKind.u64 y1]) []) := by
  have h : evFn E_shape_Greatest Try.f35 false [.int .u8 a0, .bool a1] [] K = shape_Greatest.d a0 a1 (fun y0 y1 => K (EV.agg [EV.int IntKind.u64 y0, EV.int IntKind.u64 y1]) []) := by kernel_rfl
  rw [shape_Greatest.is]; exact h
theorem X_shape_Greatest.ok : SoundE Try.prog gl 35 e_shape_Greatest := by
  refine fnOK (E := E_shape_Greatest) (fn := Try.f35) rfl tys_ok rfl (show AllL _ [(11, e_shape_Check), (15, e_shape_Width), (33, e_shape_Inf), (72, e_shape_with)] from ⟨X_shape_Check.ok, X_shape_Width.ok, X_shape_Inf.ok, X_shape_with.ok, trivial⟩) mixed (by kernel_rfl) (by kernel_rfl) (by kernel_rfl) 0 (by kernel_rfl) false trivial ?_
  intro args H
  by_cases hx : ∃ (a0 : Int) (a1 : Bool), args = [.int .u8 a0, .bool a1] ∧ H = []
  · obtain ⟨a0, a1, rfl, rfl⟩ := hx
    right; intro K
    exact iff_of_eq (X_shape_Greatest.eq a0 a1 K).symm
  · left; intro K h
    simp only [e_shape_Greatest] at h
    split at h
    · exact hx ⟨_, _, rfl, rfl⟩
    · exact h
noncomputable def e_shape_LeastNormal : Entry := ⟨[none, none], false, fun args H K => match args, H with
  | [.int .u8 a0, .bool a1], [] => shape_LeastNormal a0 a1 (fun y0 y1 => K (EV.agg [EV.int IntKind.u64 y0, EV.int IntKind.u64 y1]) [])
  | _, _ => False⟩
noncomputable def E_shape_LeastNormal : Env := ⟨look tys, look [(11, e_shape_Check), (72, e_shape_with), (73, e_shape_field)], look [], gl, lookL []⟩
theorem X_shape_LeastNormal.eq (a0 : Int) (a1 : Bool) (K : EV → Heap → Prop) : evFn E_shape_LeastNormal Try.f36 false [.int .u8 a0, .bool a1] [] K = shape_LeastNormal a0 a1 (fun y0 y1 => K (EV.agg [EV.int IntKind.u64 y0, EV.int IntKind.u64 y1]) []) := by
  have h : evFn E_shape_LeastNormal Try.f36 false [.int .u8 a0, .bool a1] [] K = shape_LeastNormal.d a0 a1 (fun y0 y1 => K (EV.agg [EV.int IntKind.u64 y0, EV.int IntKind.u64 y1]) []) := by kernel_rfl
  rw [shape_LeastNormal.is]; exact h
theorem X_shape_LeastNormal.ok : SoundE Try.prog gl 36 e_shape_LeastNormal := by
  refine fnOK (E := E_shape_LeastNormal) (fn := Try.f36) rfl tys_ok rfl (show AllL _ [(11, e_shape_Check), (72, e_shape_with), (73, e_shape_field)] from ⟨X_shape_Check.ok, X_shape_with.ok, X_shape_field.ok, trivial⟩) mixed (by kernel_rfl) (by kernel_rfl) (by kernel_rfl) 0 (by kernel_rfl) false trivial ?_
  intro args H
  by_cases hx : ∃ (a0 : Int) (a1 : Bool), args = [.int .u8 a0, .bool a1] ∧ H = []
  · obtain ⟨a0, a1, rfl, rfl⟩ := hx
    right; intro K
    exact iff_of_eq (X_shape_LeastNormal.eq a0 a1 K).symm
  · left; intro K h
    simp only [e_shape_LeastNormal] at h
    split at h
    · exact hx ⟨_, _, rfl, rfl⟩
    · exact h
noncomputable def e_shape_Least : Entry := ⟨[none, none], false, fun args H K => match args, H with
  | [.int .u8 a0, .bool a1], [] => shape_Least a0 a1 (fun y0 y1 => K (EV.agg [EV.int IntKind.u64 y0, EV.int IntKind.u64 y1]) [])
  | _, _ => False⟩
noncomputable def E_shape_Least : Env := ⟨look tys, look [(72, e_shape_with)], look [], gl, lookL []⟩
theorem X_shape_Least.eq (a0 : Int) (a1 : Bool) (K : EV → Heap → Prop) : evFn E_shape_Least Try.f37 false [.int .u8 a0, .bool a1] [] K = shape_Least a0 a1 (fun y0 y1 => K (EV.agg [EV.int IntKind.u64 y0, EV.int IntKind.u64 y1]) []) := by
  have h : evFn E_shape_Least Try.f37 false [.int .u8 a0, .bool a1] [] K = shape_Least.d a0 a1 (fun y0 y1 => K (EV.agg [EV.int IntKind.u64 y0, EV.int IntKind.u64 y1]) []) := by kernel_rfl
  rw [shape_Least.is]; exact h
theorem X_shape_Least.ok : SoundE Try.prog gl 37 e_shape_Least := by
  refine fnOK (E := E_shape_Least) (fn := Try.f37) rfl tys_ok rfl (show AllL _ [(72, e_shape_with)] from ⟨X_shape_with.ok, trivial⟩) mixed (by kernel_rfl) (by kernel_rfl) (by kernel_rfl) 0 (by kernel_rfl) false trivial ?_
  intro args H
  by_cases hx : ∃ (a0 : Int) (a1 : Bool), args = [.int .u8 a0, .bool a1] ∧ H = []
  · obtain ⟨a0, a1, rfl, rfl⟩ := hx
    right; intro K
    exact iff_of_eq (X_shape_Least.eq a0 a1 K).symm
  · left; intro K h
    simp only [e_shape_Least] at h
    split at h
    · exact hx ⟨_, _, rfl, rfl⟩
    · exact h
noncomputable def e_shape_One : Entry := ⟨[none, none], false, fun args H K => match args, H with
  | [.int .u8 a0, .bool a1], [] => shape_One a0 a1 (fun y0 y1 => K (EV.agg [EV.int IntKind.u64 y0, EV.int IntKind.u64 y1]) [])
  | _, _ => False⟩
noncomputable def E_shape_One : Env := ⟨look tys, look [(11, e_shape_Check), (19, e_shape_Emax), (72, e_shape_with), (73, e_shape_field)], look [], gl, lookL []⟩
theorem X_shape_One.eq (a0 : Int) (a1 : Bool) (K : EV → Heap → Prop) : evFn E_shape_One Try.f38 false [.int .u8 a0, .bool a1] [] K = shape_One a0 a1 (fun y0 y1 => K (EV.agg [EV.int IntKind.u64 y0, EV.int IntKind.u64 y1]) []) := by
  have h : evFn E_shape_One Try.f38 false [.int .u8 a0, .bool a1] [] K = shape_One.d a0 a1 (fun y0 y1 => K (EV.agg [EV.int IntKind.u64 y0, EV.int IntKind.u64 y1]) []) := by kernel_rfl
  rw [shape_One.is]; exact h
theorem X_shape_One.ok : SoundE Try.prog gl 38 e_shape_One := by
  refine fnOK (E := E_shape_One) (fn := Try.f38) rfl tys_ok rfl (show AllL _ [(11, e_shape_Check), (19, e_shape_Emax), (72, e_shape_with), (73, e_shape_field)] from ⟨X_shape_Check.ok, X_shape_Emax.ok, X_shape_with.ok, X_shape_field.ok, trivial⟩) mixed (by kernel_rfl) (by kernel_rfl) (by kernel_rfl) 0 (by kernel_rfl) false trivial ?_
  intro args H
  by_cases hx : ∃ (a0 : Int) (a1 : Bool), args = [.int .u8 a0, .bool a1] ∧ H = []
  · obtain ⟨a0, a1, rfl, rfl⟩ := hx
    right; intro K
    exact iff_of_eq (X_shape_One.eq a0 a1 K).symm
  · left; intro K h
    simp only [e_shape_One] at h
    split at h
    · exact hx ⟨_, _, rfl, rfl⟩
    · exact h
noncomputable def e_r02_Count : Entry := ⟨[none], false, fun args H K => match args, H with
  | [.int .i64 a0], [] => r02_Count a0 (fun y0 => K (EV.int IntKind.i64 y0) [])
  | _, _ => False⟩
noncomputable def E_r02_Count : Env := ⟨look tys, look [], look [], gl, lookL []⟩
theorem X_r02_Count.eq (a0 : Int) (K : EV → Heap → Prop) : evFn E_r02_Count Try.f81 false [.int .i64 a0] [] K = r02_Count a0 (fun y0 => K (EV.int IntKind.i64 y0) []) := by
  have h : evFn E_r02_Count Try.f81 false [.int .i64 a0] [] K = r02_Count.d a0 (fun y0 => K (EV.int IntKind.i64 y0) []) := by kernel_rfl
  rw [r02_Count.is]; exact h
theorem X_r02_Count.ok : SoundE Try.prog gl 81 e_r02_Count := by
  refine fnOK (E := E_r02_Count) (fn := Try.f81) rfl tys_ok rfl (show AllL _ [] from trivial) mixed (by kernel_rfl) (by kernel_rfl) (by kernel_rfl) 0 (by kernel_rfl) false trivial ?_
  intro args H
  by_cases hx : ∃ (a0 : Int), args = [.int .i64 a0] ∧ H = []
  · obtain ⟨a0, rfl, rfl⟩ := hx
    right; intro K
    exact iff_of_eq (X_r02_Count.eq a0 K).symm
  · left; intro K h
    simp only [e_r02_Count] at h
    split at h
    · exact hx ⟨_, rfl, rfl⟩
    · exact h
noncomputable def e_r01_Bit : Entry := ⟨[none, none], false, fun args H K => match args, H with
  | [.int .u64 a0, .int .i64 a1], [] => r01_Bit a0 a1 (fun y0 => K (EV.bool y0) [])
  | _, _ => False⟩
noncomputable def E_r01_Bit : Env := ⟨look tys, look [], look [], gl, lookL []⟩
theorem X_r01_Bit.eq (a0 : Int) (a1 : Int) (K : EV → Heap → Prop) : evFn E_r01_Bit Try.f87 false [.int .u64 a0, .int .i64 a1] [] K = r01_Bit a0 a1 (fun y0 => K (EV.bool y0) []) := by
  have h : evFn E_r01_Bit Try.f87 false [.int .u64 a0, .int .i64 a1] [] K = r01_Bit.d a0 a1 (fun y0 => K (EV.bool y0) []) := by kernel_rfl
  rw [r01_Bit.is]; exact h
theorem X_r01_Bit.ok : SoundE Try.prog gl 87 e_r01_Bit := by
  refine fnOK (E := E_r01_Bit) (fn := Try.f87) rfl tys_ok rfl (show AllL _ [] from trivial) mixed (by kernel_rfl) (by kernel_rfl) (by kernel_rfl) 0 (by kernel_rfl) false trivial ?_
  intro args H
  by_cases hx : ∃ (a0 : Int) (a1 : Int), args = [.int .u64 a0, .int .i64 a1] ∧ H = []
  · obtain ⟨a0, a1, rfl, rfl⟩ := hx
    right; intro K
    exact iff_of_eq (X_r01_Bit.eq a0 a1 K).symm
  · left; intro K h
    simp only [e_r01_Bit] at h
    split at h
    · exact hx ⟨_, _, rfl, rfl⟩
    · exact h
noncomputable def e_r02_Bit : Entry := ⟨[none, none], false, fun args H K => match args, H with
  | [.arr .u64 6 a0, .int .i64 a1], [] => r02_Bit a0 a1 (fun y0 => K (EV.bool y0) [])
  | _, _ => False⟩
noncomputable def E_r02_Bit : Env := ⟨look tys, look [(87, e_r01_Bit)], look [], gl, lookL []⟩
theorem X_r02_Bit.eq (a0 : Nat → Int) (a1 : Int) (K : EV → Heap → Prop) : evFn E_r02_Bit Try.f82 false [.arr .u64 6 a0, .int .i64 a1] [] K = r02_Bit a0 a1 (fun y0 => K (EV.bool y0) []) := by
  have h : evFn E_r02_Bit Try.f82 false [.arr .u64 6 a0, .int .i64 a1] [] K = r02_Bit.d a0 a1 (fun y0 => K (EV.bool y0) []) := by kernel_rfl
  rw [r02_Bit.is]; exact h
theorem X_r02_Bit.ok : SoundE Try.prog gl 82 e_r02_Bit := by
  refine fnOK (E := E_r02_Bit) (fn := Try.f82) rfl tys_ok rfl (show AllL _ [(87, e_r01_Bit)] from ⟨X_r01_Bit.ok, trivial⟩) mixed (by kernel_rfl) (by kernel_rfl) (by kernel_rfl) 0 (by kernel_rfl) false trivial ?_
  intro args H
  by_cases hx : ∃ (a0 : Nat → Int) (a1 : Int), args = [.arr .u64 6 a0, .int .i64 a1] ∧ H = []
  · obtain ⟨a0, a1, rfl, rfl⟩ := hx
    right; intro K
    exact iff_of_eq (X_r02_Bit.eq a0 a1 K).symm
  · left; intro K h
    simp only [e_r02_Bit] at h
    split at h
    · exact hx ⟨_, _, rfl, rfl⟩
    · exact h
noncomputable def e_r02_Left : Entry := ⟨[none, none], false, fun args H K => match args, H with
  | [.arr .u64 6 a0, .int .i64 a1], [] => r02_Left a0 a1 (fun y0 y1 => K (EV.tuple [EV.arr IntKind.u64 6 y0, EV.bool y1]) [])
  | _, _ => False⟩
noncomputable def E_r02_Left : Env := ⟨look tys, look [(81, e_r02_Count), (82, e_r02_Bit)], look [(5, r02_Left.l5.entry)], gl, lookL []⟩
theorem r02_Left.l5X.stepEq (R : List EV → Heap → Prop) (K : Ex → List EV → Heap → Prop) (x0 : Int) (x1 : Bool) (x2 : Int) (x3 : Nat → Int) (x4 : Nat → Int) (x5 : Nat → Int) : loopStep (evCode E_r02_Left (loopAt Try.f62 0) { (LV.mk 208 [(0, 208)] 48 0) with nx := live (.loop (loopAt Try.f62 0)) (LV.mk 208 [(0, 208)] 48 0) }) (live (.loop (loopAt Try.f62 0)) (LV.mk 208 [(0, 208)] 48 0)) (LV.mk 208 [(0, 208)] 48 0) 0 42 R [EV.int IntKind.i64 x0, EV.ptr 0 [], EV.ptr 1 [], EV.ptr 2 [], EV.bool x1, EV.int IntKind.i64 x2] [some (EV.arr IntKind.u64 6 x3), some (EV.arr IntKind.u64 6 x4), some (EV.arr IntKind.u64 6 x5)] K = r02_Left.l5.step (fun x0 x1 x2 x3 x4 x5 => R [EV.int IntKind.i64 x0, EV.ptr 0 [], EV.ptr 1 [], EV.ptr 2 [], EV.bool x1, EV.int IntKind.i64 x2] [some (EV.arr IntKind.u64 6 x3), some (EV.arr IntKind.u64 6 x4), some (EV.arr IntKind.u64 6 x5)]) (fun y0 y1 y2 => K (.exit 0) [EV.ptr 0 [], EV.ptr 1 [], EV.bool y0] [some (EV.arr IntKind.u64 6 y1), some (EV.arr IntKind.u64 6 y2)]) x0 x1 x2 x3 x4 x5 := by kernel_rfl
theorem r02_Left.l5X.eq (K : Ex → List EV → Heap → Prop) : ∀ (n : Nat) (x0 : Int) (x1 : Bool) (x2 : Int) (x3 : Nat → Int) (x4 : Nat → Int) (x5 : Nat → Int), loopE E_r02_Left (loopAt Try.f62 0) (LV.mk 208 [(0, 208)] 48 0) 0 42 K n [EV.int IntKind.i64 x0, EV.ptr 0 [], EV.ptr 1 [], EV.ptr 2 [], EV.bool x1, EV.int IntKind.i64 x2] [some (EV.arr IntKind.u64 6 x3), some (EV.arr IntKind.u64 6 x4), some (EV.arr IntKind.u64 6 x5)] = r02_Left.l5 (fun y0 y1 y2 => K (.exit 0) [EV.ptr 0 [], EV.ptr 1 [], EV.bool y0] [some (EV.arr IntKind.u64 6 y1), some (EV.arr IntKind.u64 6 y2)]) n x0 x1 x2 x3 x4 x5
  | 0, _, _, _, _, _, _ => rfl
  | n + 1, x0, x1, x2, x3, x4, x5 => by
    have ih : (fun (x0 : Int) (x1 : Bool) (x2 : Int) (x3 : Nat → Int) (x4 : Nat → Int) (x5 : Nat → Int) => loopE E_r02_Left (loopAt Try.f62 0) (LV.mk 208 [(0, 208)] 48 0) 0 42 K n [EV.int IntKind.i64 x0, EV.ptr 0 [], EV.ptr 1 [], EV.ptr 2 [], EV.bool x1, EV.int IntKind.i64 x2] [some (EV.arr IntKind.u64 6 x3), some (EV.arr IntKind.u64 6 x4), some (EV.arr IntKind.u64 6 x5)]) = r02_Left.l5 (fun y0 y1 y2 => K (.exit 0) [EV.ptr 0 [], EV.ptr 1 [], EV.bool y0] [some (EV.arr IntKind.u64 6 y1), some (EV.arr IntKind.u64 6 y2)]) n := by funext x0 x1 x2 x3 x4 x5; exact r02_Left.l5X.eq K n x0 x1 x2 x3 x4 x5
    show loopStep _ _ _ _ _ (loopE E_r02_Left (loopAt Try.f62 0) (LV.mk 208 [(0, 208)] 48 0) 0 42 K n) [EV.int IntKind.i64 x0, EV.ptr 0 [], EV.ptr 1 [], EV.ptr 2 [], EV.bool x1, EV.int IntKind.i64 x2] [some (EV.arr IntKind.u64 6 x3), some (EV.arr IntKind.u64 6 x4), some (EV.arr IntKind.u64 6 x5)] K = r02_Left.l5.step (r02_Left.l5 (fun y0 y1 y2 => K (.exit 0) [EV.ptr 0 [], EV.ptr 1 [], EV.bool y0] [some (EV.arr IntKind.u64 6 y1), some (EV.arr IntKind.u64 6 y2)]) n) (fun y0 y1 y2 => K (.exit 0) [EV.ptr 0 [], EV.ptr 1 [], EV.bool y0] [some (EV.arr IntKind.u64 6 y1), some (EV.arr IntKind.u64 6 y2)]) x0 x1 x2 x3 x4 x5
    rw [← ih]
    exact r02_Left.l5X.stepEq _ K x0 x1 x2 x3 x4 x5
theorem r02_Left.l5X.ok : LoopEq E_r02_Left (loopAt Try.f62 0) := by
  intro L hL vs H
  have h1 : E_r02_Left.lp (firstRegion (loopAt Try.f62 0)) = some r02_Left.l5.entry := by kernel_rfl
  have h2 : L = r02_Left.l5.entry := Option.some.inj (hL.symm.trans h1)
  subst h2
  by_cases hx : ∃ (x0 : Int) (x1 : Bool) (x2 : Int) (x3 : Nat → Int) (x4 : Nat → Int) (x5 : Nat → Int), vs = [EV.int IntKind.i64 x0, EV.ptr 0 [], EV.ptr 1 [], EV.ptr 2 [], EV.bool x1, EV.int IntKind.i64 x2] ∧ H = [some (EV.arr IntKind.u64 6 x3), some (EV.arr IntKind.u64 6 x4), some (EV.arr IntKind.u64 6 x5)]
  · obtain ⟨x0, x1, x2, x3, x4, x5, rfl, rfl⟩ := hx
    right; intro K
    exact exists_congr fun n => iff_of_eq (r02_Left.l5X.eq K n x0 x1 x2 x3 x4 x5).symm
  · left; intro K h
    simp only [r02_Left.l5.entry] at h
    split at h
    · exact hx ⟨_, _, _, _, _, _, rfl, rfl⟩
    · exact h
theorem X_r02_Left.eq (a0 : Nat → Int) (a1 : Int) (K : EV → Heap → Prop) : evFn E_r02_Left Try.f62 false [.arr .u64 6 a0, .int .i64 a1] [] K = r02_Left a0 a1 (fun y0 y1 => K (EV.tuple [EV.arr IntKind.u64 6 y0, EV.bool y1]) []) := by
  have h : evFn E_r02_Left Try.f62 false [.arr .u64 6 a0, .int .i64 a1] [] K = r02_Left.d a0 a1 (fun y0 y1 => K (EV.tuple [EV.arr IntKind.u64 6 y0, EV.bool y1]) []) := by kernel_rfl
  rw [r02_Left.is]; exact h
theorem X_r02_Left.ok : SoundE Try.prog gl 62 e_r02_Left := by
  refine fnOK (E := E_r02_Left) (fn := Try.f62) rfl tys_ok rfl (show AllL _ [(81, e_r02_Count), (82, e_r02_Bit)] from ⟨X_r02_Count.ok, X_r02_Bit.ok, trivial⟩) mixed (by kernel_rfl) (by kernel_rfl) (by kernel_rfl) 1 (by kernel_rfl) false ⟨r02_Left.l5X.ok, trivial⟩ ?_
  intro args H
  by_cases hx : ∃ (a0 : Nat → Int) (a1 : Int), args = [.arr .u64 6 a0, .int .i64 a1] ∧ H = []
  · obtain ⟨a0, a1, rfl, rfl⟩ := hx
    right; intro K
    exact iff_of_eq (X_r02_Left.eq a0 a1 K).symm
  · left; intro K h
    simp only [e_r02_Left] at h
    split at h
    · exact hx ⟨_, _, rfl, rfl⟩
    · exact h
noncomputable def e_r02_Of : Entry := ⟨[none], false, fun args H K => match args, H with
  | [.int .u64 a0], [] => r02_Of a0 (fun y0 => K (EV.arr IntKind.u64 6 y0) [])
  | _, _ => False⟩
noncomputable def E_r02_Of : Env := ⟨look tys, look [], look [], gl, lookL []⟩
theorem X_r02_Of.eq (a0 : Int) (K : EV → Heap → Prop) : evFn E_r02_Of Try.f63 false [.int .u64 a0] [] K = r02_Of a0 (fun y0 => K (EV.arr IntKind.u64 6 y0) []) := by
  have h : evFn E_r02_Of Try.f63 false [.int .u64 a0] [] K = r02_Of.d a0 (fun y0 => K (EV.arr IntKind.u64 6 y0) []) := by kernel_rfl
  rw [r02_Of.is]; exact h
theorem X_r02_Of.ok : SoundE Try.prog gl 63 e_r02_Of := by
  refine fnOK (E := E_r02_Of) (fn := Try.f63) rfl tys_ok rfl (show AllL _ [] from trivial) mixed (by kernel_rfl) (by kernel_rfl) (by kernel_rfl) 0 (by kernel_rfl) false trivial ?_
  intro args H
  by_cases hx : ∃ (a0 : Int), args = [.int .u64 a0] ∧ H = []
  · obtain ⟨a0, rfl, rfl⟩ := hx
    right; intro K
    exact iff_of_eq (X_r02_Of.eq a0 K).symm
  · left; intro K h
    simp only [e_r02_Of] at h
    split at h
    · exact hx ⟨_, rfl, rfl⟩
    · exact h
noncomputable def e_r01_Add : Entry := ⟨[none, none, none], false, fun args H K => match args, H with
  | [.int .u64 a0, .int .u64 a1, .bool a2], [] => r01_Add a0 a1 a2 (fun y0 y1 => K (EV.tuple [EV.int IntKind.u64 y0, EV.bool y1]) [])
  | _, _ => False⟩
noncomputable def E_r01_Add : Env := ⟨look tys, look [(87, e_r01_Bit)], look [(3, r01_Add.l3.entry)], gl, lookL []⟩
theorem r01_Add.l3X.stepEq (R : List EV → Heap → Prop) (K : Ex → List EV → Heap → Prop) (x0 : Int) (x1 : Int) (x2 : Bool) (x3 : Int) (x4 : Int) : loopStep (evCode E_r01_Add (loopAt Try.f83 0) { (LV.mk 260 [(0, 260)] 192 0) with nx := live (.loop (loopAt Try.f83 0)) (LV.mk 260 [(0, 260)] 192 0) }) (live (.loop (loopAt Try.f83 0)) (LV.mk 260 [(0, 260)] 192 0)) (LV.mk 260 [(0, 260)] 192 0) 0 50 R [EV.int IntKind.u64 x0, EV.int IntKind.u64 x1, EV.bool x2, EV.int IntKind.u64 x3, EV.int IntKind.i64 x4] [] K = r01_Add.l3.step (fun x0 x1 x2 x3 x4 => R [EV.int IntKind.u64 x0, EV.int IntKind.u64 x1, EV.bool x2, EV.int IntKind.u64 x3, EV.int IntKind.i64 x4] []) (fun y0 y1 => K (.exit 0) [EV.bool y0, EV.int IntKind.u64 y1] []) x0 x1 x2 x3 x4 := by kernel_rfl
theorem r01_Add.l3X.eq (K : Ex → List EV → Heap → Prop) : ∀ (n : Nat) (x0 : Int) (x1 : Int) (x2 : Bool) (x3 : Int) (x4 : Int), loopE E_r01_Add (loopAt Try.f83 0) (LV.mk 260 [(0, 260)] 192 0) 0 50 K n [EV.int IntKind.u64 x0, EV.int IntKind.u64 x1, EV.bool x2, EV.int IntKind.u64 x3, EV.int IntKind.i64 x4] [] = r01_Add.l3 (fun y0 y1 => K (.exit 0) [EV.bool y0, EV.int IntKind.u64 y1] []) n x0 x1 x2 x3 x4
  | 0, _, _, _, _, _ => rfl
  | n + 1, x0, x1, x2, x3, x4 => by
    have ih : (fun (x0 : Int) (x1 : Int) (x2 : Bool) (x3 : Int) (x4 : Int) => loopE E_r01_Add (loopAt Try.f83 0) (LV.mk 260 [(0, 260)] 192 0) 0 50 K n [EV.int IntKind.u64 x0, EV.int IntKind.u64 x1, EV.bool x2, EV.int IntKind.u64 x3, EV.int IntKind.i64 x4] []) = r01_Add.l3 (fun y0 y1 => K (.exit 0) [EV.bool y0, EV.int IntKind.u64 y1] []) n := by funext x0 x1 x2 x3 x4; exact r01_Add.l3X.eq K n x0 x1 x2 x3 x4
    show loopStep _ _ _ _ _ (loopE E_r01_Add (loopAt Try.f83 0) (LV.mk 260 [(0, 260)] 192 0) 0 50 K n) [EV.int IntKind.u64 x0, EV.int IntKind.u64 x1, EV.bool x2, EV.int IntKind.u64 x3, EV.int IntKind.i64 x4] [] K = r01_Add.l3.step (r01_Add.l3 (fun y0 y1 => K (.exit 0) [EV.bool y0, EV.int IntKind.u64 y1] []) n) (fun y0 y1 => K (.exit 0) [EV.bool y0, EV.int IntKind.u64 y1] []) x0 x1 x2 x3 x4
    rw [← ih]
    exact r01_Add.l3X.stepEq _ K x0 x1 x2 x3 x4
theorem r01_Add.l3X.ok : LoopEq E_r01_Add (loopAt Try.f83 0) := by
  intro L hL vs H
  have h1 : E_r01_Add.lp (firstRegion (loopAt Try.f83 0)) = some r01_Add.l3.entry := by kernel_rfl
  have h2 : L = r01_Add.l3.entry := Option.some.inj (hL.symm.trans h1)
  subst h2
  by_cases hx : ∃ (x0 : Int) (x1 : Int) (x2 : Bool) (x3 : Int) (x4 : Int), vs = [EV.int IntKind.u64 x0, EV.int IntKind.u64 x1, EV.bool x2, EV.int IntKind.u64 x3, EV.int IntKind.i64 x4] ∧ H = []
  · obtain ⟨x0, x1, x2, x3, x4, rfl, rfl⟩ := hx
    right; intro K
    exact exists_congr fun n => iff_of_eq (r01_Add.l3X.eq K n x0 x1 x2 x3 x4).symm
  · left; intro K h
    simp only [r01_Add.l3.entry] at h
    split at h
    · exact hx ⟨_, _, _, _, _, rfl, rfl⟩
    · exact h
theorem X_r01_Add.eq (a0 : Int) (a1 : Int) (a2 : Bool) (K : EV → Heap → Prop) : evFn E_r01_Add Try.f83 false [.int .u64 a0, .int .u64 a1, .bool a2] [] K = r01_Add a0 a1 a2 (fun y0 y1 => K (EV.tuple [EV.int IntKind.u64 y0, EV.bool y1]) []) := by
  have h : evFn E_r01_Add Try.f83 false [.int .u64 a0, .int .u64 a1, .bool a2] [] K = r01_Add.d a0 a1 a2 (fun y0 y1 => K (EV.tuple [EV.int IntKind.u64 y0, EV.bool y1]) []) := by kernel_rfl
  rw [r01_Add.is]; exact h
theorem X_r01_Add.ok : SoundE Try.prog gl 83 e_r01_Add := by
  refine fnOK (E := E_r01_Add) (fn := Try.f83) rfl tys_ok rfl (show AllL _ [(87, e_r01_Bit)] from ⟨X_r01_Bit.ok, trivial⟩) mixed (by kernel_rfl) (by kernel_rfl) (by kernel_rfl) 1 (by kernel_rfl) false ⟨r01_Add.l3X.ok, trivial⟩ ?_
  intro args H
  by_cases hx : ∃ (a0 : Int) (a1 : Int) (a2 : Bool), args = [.int .u64 a0, .int .u64 a1, .bool a2] ∧ H = []
  · obtain ⟨a0, a1, a2, rfl, rfl⟩ := hx
    right; intro K
    exact iff_of_eq (X_r01_Add.eq a0 a1 a2 K).symm
  · left; intro K h
    simp only [e_r01_Add] at h
    split at h
    · exact hx ⟨_, _, _, rfl, rfl⟩
    · exact h
noncomputable def e_r02_Add : Entry := ⟨[none, none], false, fun args H K => match args, H with
  | [.arr .u64 6 a0, .arr .u64 6 a1], [] => r02_Add a0 a1 (fun y0 y1 => K (EV.tuple [EV.arr IntKind.u64 6 y0, EV.bool y1]) [])
  | _, _ => False⟩
noncomputable def E_r02_Add : Env := ⟨look tys, look [(83, e_r01_Add)], look [(4, r02_Add.l4.entry)], gl, lookL []⟩
theorem r02_Add.l4X.stepEq (R : List EV → Heap → Prop) (K : Ex → List EV → Heap → Prop) (x0 : Bool) (x1 : Int) (x2 : Nat → Int) (x3 : Nat → Int) (x4 : Nat → Int) (x5 : Nat → Int) : loopStep (evCode E_r02_Add (loopAt Try.f64 0) { (LV.mk 208 [(0, 208)] 48 0) with nx := live (.loop (loopAt Try.f64 0)) (LV.mk 208 [(0, 208)] 48 0) }) (live (.loop (loopAt Try.f64 0)) (LV.mk 208 [(0, 208)] 48 0)) (LV.mk 208 [(0, 208)] 48 0) 0 32 R [EV.ptr 0 [], EV.ptr 1 [], EV.ptr 2 [], EV.ptr 3 [], EV.bool x0, EV.int IntKind.i64 x1] [some (EV.arr IntKind.u64 6 x2), some (EV.arr IntKind.u64 6 x3), some (EV.arr IntKind.u64 6 x4), some (EV.arr IntKind.u64 6 x5)] K = r02_Add.l4.step (fun x0 x1 x2 x3 x4 x5 => R [EV.ptr 0 [], EV.ptr 1 [], EV.ptr 2 [], EV.ptr 3 [], EV.bool x0, EV.int IntKind.i64 x1] [some (EV.arr IntKind.u64 6 x2), some (EV.arr IntKind.u64 6 x3), some (EV.arr IntKind.u64 6 x4), some (EV.arr IntKind.u64 6 x5)]) (fun y0 y1 y2 => K (.exit 0) [EV.ptr 0 [], EV.ptr 1 [], EV.bool y0] [some (EV.arr IntKind.u64 6 y1), some (EV.arr IntKind.u64 6 y2)]) x0 x1 x2 x3 x4 x5 := by kernel_rfl
theorem r02_Add.l4X.eq (K : Ex → List EV → Heap → Prop) : ∀ (n : Nat) (x0 : Bool) (x1 : Int) (x2 : Nat → Int) (x3 : Nat → Int) (x4 : Nat → Int) (x5 : Nat → Int), loopE E_r02_Add (loopAt Try.f64 0) (LV.mk 208 [(0, 208)] 48 0) 0 32 K n [EV.ptr 0 [], EV.ptr 1 [], EV.ptr 2 [], EV.ptr 3 [], EV.bool x0, EV.int IntKind.i64 x1] [some (EV.arr IntKind.u64 6 x2), some (EV.arr IntKind.u64 6 x3), some (EV.arr IntKind.u64 6 x4), some (EV.arr IntKind.u64 6 x5)] = r02_Add.l4 (fun y0 y1 y2 => K (.exit 0) [EV.ptr 0 [], EV.ptr 1 [], EV.bool y0] [some (EV.arr IntKind.u64 6 y1), some (EV.arr IntKind.u64 6 y2)]) n x0 x1 x2 x3 x4 x5
  | 0, _, _, _, _, _, _ => rfl
  | n + 1, x0, x1, x2, x3, x4, x5 => by
    have ih : (fun (x0 : Bool) (x1 : Int) (x2 : Nat → Int) (x3 : Nat → Int) (x4 : Nat → Int) (x5 : Nat → Int) => loopE E_r02_Add (loopAt Try.f64 0) (LV.mk 208 [(0, 208)] 48 0) 0 32 K n [EV.ptr 0 [], EV.ptr 1 [], EV.ptr 2 [], EV.ptr 3 [], EV.bool x0, EV.int IntKind.i64 x1] [some (EV.arr IntKind.u64 6 x2), some (EV.arr IntKind.u64 6 x3), some (EV.arr IntKind.u64 6 x4), some (EV.arr IntKind.u64 6 x5)]) = r02_Add.l4 (fun y0 y1 y2 => K (.exit 0) [EV.ptr 0 [], EV.ptr 1 [], EV.bool y0] [some (EV.arr IntKind.u64 6 y1), some (EV.arr IntKind.u64 6 y2)]) n := by funext x0 x1 x2 x3 x4 x5; exact r02_Add.l4X.eq K n x0 x1 x2 x3 x4 x5
    show loopStep _ _ _ _ _ (loopE E_r02_Add (loopAt Try.f64 0) (LV.mk 208 [(0, 208)] 48 0) 0 32 K n) [EV.ptr 0 [], EV.ptr 1 [], EV.ptr 2 [], EV.ptr 3 [], EV.bool x0, EV.int IntKind.i64 x1] [some (EV.arr IntKind.u64 6 x2), some (EV.arr IntKind.u64 6 x3), some (EV.arr IntKind.u64 6 x4), some (EV.arr IntKind.u64 6 x5)] K = r02_Add.l4.step (r02_Add.l4 (fun y0 y1 y2 => K (.exit 0) [EV.ptr 0 [], EV.ptr 1 [], EV.bool y0] [some (EV.arr IntKind.u64 6 y1), some (EV.arr IntKind.u64 6 y2)]) n) (fun y0 y1 y2 => K (.exit 0) [EV.ptr 0 [], EV.ptr 1 [], EV.bool y0] [some (EV.arr IntKind.u64 6 y1), some (EV.arr IntKind.u64 6 y2)]) x0 x1 x2 x3 x4 x5
    rw [← ih]
    exact r02_Add.l4X.stepEq _ K x0 x1 x2 x3 x4 x5
theorem r02_Add.l4X.ok : LoopEq E_r02_Add (loopAt Try.f64 0) := by
  intro L hL vs H
  have h1 : E_r02_Add.lp (firstRegion (loopAt Try.f64 0)) = some r02_Add.l4.entry := by kernel_rfl
  have h2 : L = r02_Add.l4.entry := Option.some.inj (hL.symm.trans h1)
  subst h2
  by_cases hx : ∃ (x0 : Bool) (x1 : Int) (x2 : Nat → Int) (x3 : Nat → Int) (x4 : Nat → Int) (x5 : Nat → Int), vs = [EV.ptr 0 [], EV.ptr 1 [], EV.ptr 2 [], EV.ptr 3 [], EV.bool x0, EV.int IntKind.i64 x1] ∧ H = [some (EV.arr IntKind.u64 6 x2), some (EV.arr IntKind.u64 6 x3), some (EV.arr IntKind.u64 6 x4), some (EV.arr IntKind.u64 6 x5)]
  · obtain ⟨x0, x1, x2, x3, x4, x5, rfl, rfl⟩ := hx
    right; intro K
    exact exists_congr fun n => iff_of_eq (r02_Add.l4X.eq K n x0 x1 x2 x3 x4 x5).symm
  · left; intro K h
    simp only [r02_Add.l4.entry] at h
    split at h
    · exact hx ⟨_, _, _, _, _, _, rfl, rfl⟩
    · exact h
theorem X_r02_Add.eq (a0 : Nat → Int) (a1 : Nat → Int) (K : EV → Heap → Prop) : evFn E_r02_Add Try.f64 false [.arr .u64 6 a0, .arr .u64 6 a1] [] K = r02_Add a0 a1 (fun y0 y1 => K (EV.tuple [EV.arr IntKind.u64 6 y0, EV.bool y1]) []) := by
  have h : evFn E_r02_Add Try.f64 false [.arr .u64 6 a0, .arr .u64 6 a1] [] K = r02_Add.d a0 a1 (fun y0 y1 => K (EV.tuple [EV.arr IntKind.u64 6 y0, EV.bool y1]) []) := by kernel_rfl
  rw [r02_Add.is]; exact h
theorem X_r02_Add.ok : SoundE Try.prog gl 64 e_r02_Add := by
  refine fnOK (E := E_r02_Add) (fn := Try.f64) rfl tys_ok rfl (show AllL _ [(83, e_r01_Add)] from ⟨X_r01_Add.ok, trivial⟩) mixed (by kernel_rfl) (by kernel_rfl) (by kernel_rfl) 1 (by kernel_rfl) false ⟨r02_Add.l4X.ok, trivial⟩ ?_
  intro args H
  by_cases hx : ∃ (a0 : Nat → Int) (a1 : Nat → Int), args = [.arr .u64 6 a0, .arr .u64 6 a1] ∧ H = []
  · obtain ⟨a0, a1, rfl, rfl⟩ := hx
    right; intro K
    exact iff_of_eq (X_r02_Add.eq a0 a1 K).symm
  · left; intro K h
    simp only [e_r02_Add] at h
    split at h
    · exact hx ⟨_, _, rfl, rfl⟩
    · exact h
noncomputable def e_r02_OfBits : Entry := ⟨[none], false, fun args H K => match args, H with
  | [.agg [.int .u64 a0_0, .int .u64 a0_1]], [] => r02_OfBits a0_0 a0_1 (fun y0 => K (EV.arr IntKind.u64 6 y0) [])
  | _, _ => False⟩
noncomputable def E_r02_OfBits : Env := ⟨look tys, look [], look [], gl, lookL []⟩
theorem X_r02_OfBits.eq (a0_0 : Int) (a0_1 : Int) (K : EV → Heap → Prop) : evFn E_r02_OfBits Try.f65 false [.agg [.int .u64 a0_0, .int .u64 a0_1]] [] K = r02_OfBits a0_0 a0_1 (fun y0 => K (EV.arr IntKind.u64 6 y0) []) := by
  have h : evFn E_r02_OfBits Try.f65 false [.agg [.int .u64 a0_0, .int .u64 a0_1]] [] K = r02_OfBits.d a0_0 a0_1 (fun y0 => K (EV.arr IntKind.u64 6 y0) []) := by kernel_rfl
  rw [r02_OfBits.is]; exact h
theorem X_r02_OfBits.ok : SoundE Try.prog gl 65 e_r02_OfBits := by
  refine fnOK (E := E_r02_OfBits) (fn := Try.f65) rfl tys_ok rfl (show AllL _ [] from trivial) mixed (by kernel_rfl) (by kernel_rfl) (by kernel_rfl) 0 (by kernel_rfl) false trivial ?_
  intro args H
  by_cases hx : ∃ (a0_0 : Int) (a0_1 : Int), args = [.agg [.int .u64 a0_0, .int .u64 a0_1]] ∧ H = []
  · obtain ⟨a0_0, a0_1, rfl, rfl⟩ := hx
    right; intro K
    exact iff_of_eq (X_r02_OfBits.eq a0_0 a0_1 K).symm
  · left; intro K h
    simp only [e_r02_OfBits] at h
    split at h
    · exact hx ⟨_, _, rfl, rfl⟩
    · exact h
noncomputable def e_law07_ShapeSigns : Entry := ⟨[none], false, fun args H K => match args, H with
  | [.int .u8 a0], [] => law07_ShapeSigns a0 (fun y0 => K (EV.bool y0) [])
  | _, _ => False⟩
noncomputable def E_law07_ShapeSigns : Env := ⟨look tys, look [(12, e_r07_Right), (15, e_shape_Width), (17, e_shape_Precision), (19, e_shape_Emax), (21, e_shape_Emin), (23, e_shape_Fits), (25, e_law07_alive), (33, e_shape_Inf), (34, e_shape_Zero), (35, e_shape_Greatest), (36, e_shape_LeastNormal), (37, e_shape_Least), (38, e_shape_One), (62, e_r02_Left), (63, e_r02_Of), (64, e_r02_Add), (65, e_r02_OfBits)], look [], gl, lookL [(7, 7)]⟩
theorem law07_ShapeSigns_u7.ok : LoopEq E_law07_ShapeSigns (loopAt Try.f9 0) := LoopEq.none (by kernel_rfl)
theorem X_law07_ShapeSigns.eq (a0 : Int) (K : EV → Heap → Prop) : evFn E_law07_ShapeSigns Try.f9 false [.int .u8 a0] [] K = law07_ShapeSigns a0 (fun y0 => K (EV.bool y0) []) := by
  have h : evFn E_law07_ShapeSigns Try.f9 false [.int .u8 a0] [] K = law07_ShapeSigns.d a0 (fun y0 => K (EV.bool y0) []) := by kernel_rfl
  rw [law07_ShapeSigns.is]; exact h
theorem X_law07_ShapeSigns.ok : SoundE Try.prog gl 9 e_law07_ShapeSigns := by
  refine fnOK (E := E_law07_ShapeSigns) (fn := Try.f9) rfl tys_ok rfl (show AllL _ [(12, e_r07_Right), (15, e_shape_Width), (17, e_shape_Precision), (19, e_shape_Emax), (21, e_shape_Emin), (23, e_shape_Fits), (25, e_law07_alive), (33, e_shape_Inf), (34, e_shape_Zero), (35, e_shape_Greatest), (36, e_shape_LeastNormal), (37, e_shape_Least), (38, e_shape_One), (62, e_r02_Left), (63, e_r02_Of), (64, e_r02_Add), (65, e_r02_OfBits)] from ⟨X_r07_Right.ok, X_shape_Width.ok, X_shape_Precision.ok, X_shape_Emax.ok, X_shape_Emin.ok, X_shape_Fits.ok, X_law07_alive.ok, X_shape_Inf.ok, X_shape_Zero.ok, X_shape_Greatest.ok, X_shape_LeastNormal.ok, X_shape_Least.ok, X_shape_One.ok, X_r02_Left.ok, X_r02_Of.ok, X_r02_Add.ok, X_r02_OfBits.ok, trivial⟩) mixed (by kernel_rfl) (by kernel_rfl) (by kernel_rfl) 1 (by kernel_rfl) false ⟨law07_ShapeSigns_u7.ok, trivial⟩ ?_
  intro args H
  by_cases hx : ∃ (a0 : Int), args = [.int .u8 a0] ∧ H = []
  · obtain ⟨a0, rfl, rfl⟩ := hx
    right; intro K
    exact iff_of_eq (X_law07_ShapeSigns.eq a0 K).symm
  · left; intro K h
    simp only [e_law07_ShapeSigns] at h
    split at h
    · exact hx ⟨_, rfl, rfl⟩
    · exact h
end Go.Ev.S
