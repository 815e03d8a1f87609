/- The functions of the seat: that the evaluator has them as they are. -/
import Derived.Test.YtanelnajdbghdaaDoorProg
import Derived.Test.YtanelnajdbghdaaDoorDA
import Derived.KernelRfl
set_option maxRecDepth 100000
set_option linter.unusedVariables false
set_option linter.unusedSimpArgs false
namespace Go.Ev.S
open Go Go.Proofs Go.Ev
def tys : List (Nat × TI) := [
  (1, ⟨.func, 1, 8, .nilFunc⟩),
  (2, ⟨.int .i64, 1, 8, .int .i64 0⟩),
  (3, ⟨.int .i64, 1, 8, .int .i64 0⟩),
  (4, ⟨.bool, 1, 1, .bool false⟩),
  (5, ⟨.int .u8, 1, 1, .int .u8 0⟩),
  (6, ⟨.int .u8, 1, 1, .int .u8 0⟩),
  (7, ⟨.struct [(0, 2), (1, 3), (2, 4), (3, 6)], 4, 24, .agg [.int .i64 0, .int .i64 0, .bool false, .int .u8 0]⟩),
  (8, ⟨.struct [(0, 2), (1, 3), (2, 4), (3, 6)], 4, 24, .agg [.int .i64 0, .int .i64 0, .bool false, .int .u8 0]⟩),
  (9, ⟨.str, 1, 16, .str []⟩),
  (10, ⟨.str, 1, 16, .str []⟩),
  (11, ⟨.str, 1, 16, .str []⟩),
  (12, ⟨.int .u64, 1, 8, .int .u64 0⟩),
  (15, ⟨.ptr, 1, 8, .nilPtr⟩),
  (16, ⟨.ptr, 1, 8, .nilPtr⟩),
  (17, ⟨.ptr, 1, 8, .nilPtr⟩),
  (21, ⟨.int .i32, 1, 4, .int .i32 0⟩),
  (22, ⟨.int .u8, 1, 1, .int .u8 0⟩),
  (23, ⟨.int .u64, 1, 8, .int .u64 0⟩),
  (24, ⟨.struct [(0, 23), (1, 23)], 2, 16, .agg [.int .u64 0, .int .u64 0]⟩),
  (25, ⟨.struct [(0, 23), (1, 23)], 2, 16, .agg [.int .u64 0, .int .u64 0]⟩),
  (26, ⟨.int .i64, 1, 8, .int .i64 0⟩),
  (28, ⟨.func, 1, 8, .nilFunc⟩),
  (29, ⟨.func, 1, 8, .nilFunc⟩),
  (30, ⟨.func, 1, 8, .nilFunc⟩),
  (31, ⟨.func, 1, 8, .nilFunc⟩),
  (32, ⟨.func, 1, 8, .nilFunc⟩),
  (34, ⟨.func, 1, 8, .nilFunc⟩),
  (35, ⟨.func, 1, 8, .nilFunc⟩),
  (37, ⟨.func, 1, 8, .nilFunc⟩),
  (38, ⟨.func, 1, 8, .nilFunc⟩),
  (40, ⟨.func, 1, 8, .nilFunc⟩),
  (41, ⟨.func, 1, 8, .nilFunc⟩),
  (42, ⟨.func, 1, 8, .nilFunc⟩),
  (44, ⟨.func, 1, 8, .nilFunc⟩),
  (45, ⟨.int .u8, 1, 1, .int .u8 0⟩),
  (47, ⟨.func, 1, 8, .nilFunc⟩),
  (48, ⟨.func, 1, 8, .nilFunc⟩),
  (49, ⟨.int .u8, 1, 1, .int .u8 0⟩),
  (51, ⟨.func, 1, 8, .nilFunc⟩),
  (52, ⟨.func, 1, 8, .nilFunc⟩),
  (53, ⟨.slice 25, 1, 24, .nilSlice⟩),
  (54, ⟨.func, 1, 8, .nilFunc⟩),
  (55, ⟨.func, 1, 8, .nilFunc⟩),
  (57, ⟨.func, 1, 8, .nilFunc⟩),
  (59, ⟨.func, 1, 8, .nilFunc⟩),
  (60, ⟨.int .u8, 1, 1, .int .u8 0⟩),
  (62, ⟨.func, 1, 8, .nilFunc⟩),
  (64, ⟨.func, 1, 8, .nilFunc⟩),
  (65, ⟨.func, 1, 8, .nilFunc⟩),
  (66, ⟨.func, 1, 8, .nilFunc⟩),
  (67, ⟨.func, 1, 8, .nilFunc⟩),
  (68, ⟨.func, 1, 8, .nilFunc⟩),
  (69, ⟨.func, 1, 8, .nilFunc⟩),
  (70, ⟨.func, 1, 8, .nilFunc⟩),
  (71, ⟨.array 6 23, 6, 48, .arr .u64 6 (fun _ => 0)⟩),
  (72, ⟨.array 6 23, 6, 48, .arr .u64 6 (fun _ => 0)⟩),
  (73, ⟨.func, 1, 8, .nilFunc⟩),
  (74, ⟨.func, 1, 8, .nilFunc⟩),
  (76, ⟨.func, 1, 8, .nilFunc⟩),
  (77, ⟨.int .u64, 1, 8, .int .u64 0⟩),
  (78, ⟨.func, 1, 8, .nilFunc⟩),
  (79, ⟨.func, 1, 8, .nilFunc⟩),
  (80, ⟨.func, 1, 8, .nilFunc⟩),
  (81, ⟨.func, 1, 8, .nilFunc⟩),
  (83, ⟨.func, 1, 8, .nilFunc⟩),
  (84, ⟨.func, 1, 8, .nilFunc⟩),
  (85, ⟨.func, 1, 8, .nilFunc⟩),
  (86, ⟨.func, 1, 8, .nilFunc⟩),
  (87, ⟨.func, 1, 8, .nilFunc⟩),
  (88, ⟨.func, 1, 8, .nilFunc⟩),
  (89, ⟨.func, 1, 8, .nilFunc⟩),
  (90, ⟨.func, 1, 8, .nilFunc⟩),
  (91, ⟨.str, 1, 16, .str []⟩),
  (92, ⟨.struct [(0, 4), (1, 91), (2, 91), (3, 3)], 4, 48, .agg [.bool false, .str [], .str [], .int .i64 0]⟩),
  (93, ⟨.struct [(0, 4), (1, 91), (2, 91), (3, 3)], 4, 48, .agg [.bool false, .str [], .str [], .int .i64 0]⟩),
  (95, ⟨.func, 1, 8, .nilFunc⟩),
  (97, ⟨.func, 1, 8, .nilFunc⟩),
  (98, ⟨.func, 1, 8, .nilFunc⟩),
  (99, ⟨.func, 1, 8, .nilFunc⟩),
  (100, ⟨.func, 1, 8, .nilFunc⟩),
  (101, ⟨.func, 1, 8, .nilFunc⟩),
  (102, ⟨.func, 1, 8, .nilFunc⟩),
  (103, ⟨.func, 1, 8, .nilFunc⟩),
  (104, ⟨.func, 1, 8, .nilFunc⟩),
  (105, ⟨.func, 1, 8, .nilFunc⟩),
  (107, ⟨.func, 1, 8, .nilFunc⟩),
  (108, ⟨.func, 1, 8, .nilFunc⟩),
  (110, ⟨.func, 1, 8, .nilFunc⟩),
  (111, ⟨.func, 1, 8, .nilFunc⟩),
  (112, ⟨.func, 1, 8, .nilFunc⟩),
  (113, ⟨.func, 1, 8, .nilFunc⟩),
  (114, ⟨.struct [(0, 60), (1, 72), (7, 3), (8, 72)], 14, 112, .agg [.int .u8 0, .arr .u64 6 (fun _ => 0), .int .i64 0, .arr .u64 6 (fun _ => 0)]⟩),
  (115, ⟨.struct [(0, 60), (1, 72), (7, 3), (8, 72)], 14, 112, .agg [.int .u8 0, .arr .u64 6 (fun _ => 0), .int .i64 0, .arr .u64 6 (fun _ => 0)]⟩),
  (116, ⟨.func, 1, 8, .nilFunc⟩),
  (117, ⟨.func, 1, 8, .nilFunc⟩),
  (118, ⟨.func, 1, 8, .nilFunc⟩),
  (119, ⟨.func, 1, 8, .nilFunc⟩),
  (121, ⟨.func, 1, 8, .nilFunc⟩),
  (122, ⟨.func, 1, 8, .nilFunc⟩),
  (123, ⟨.func, 1, 8, .nilFunc⟩),
  (124, ⟨.func, 1, 8, .nilFunc⟩),
  (125, ⟨.func, 1, 8, .nilFunc⟩),
  (126, ⟨.struct [(0, 3), (1, 3), (2, 3), (3, 9)], 4, 40, .agg [.int .i64 0, .int .i64 0, .int .i64 0, .str []]⟩),
  (127, ⟨.array 4 126, 16, 160, .agg [.agg [.int .i64 0, .int .i64 0, .int .i64 0, .str []], .agg [.int .i64 0, .int .i64 0, .int .i64 0, .str []], .agg [.int .i64 0, .int .i64 0, .int .i64 0, .str []], .agg [.int .i64 0, .int .i64 0, .int .i64 0, .str []]]⟩),
  (128, ⟨.func, 1, 8, .nilFunc⟩),
  (129, ⟨.func, 1, 8, .nilFunc⟩),
  (130, ⟨.func, 1, 8, .nilFunc⟩),
  (131, ⟨.func, 1, 8, .nilFunc⟩),
  (133, ⟨.func, 1, 8, .nilFunc⟩),
  (134, ⟨.func, 1, 8, .nilFunc⟩),
  (136, ⟨.func, 1, 8, .nilFunc⟩),
  (137, ⟨.slice 5, 1, 24, .nilSlice⟩),
  (138, ⟨.func, 1, 8, .nilFunc⟩),
  (140, ⟨.func, 1, 8, .nilFunc⟩),
  (141, ⟨.func, 1, 8, .nilFunc⟩),
  (142, ⟨.func, 1, 8, .nilFunc⟩),
  (143, ⟨.int .i64, 1, 8, .int .i64 0⟩),
  (145, ⟨.func, 1, 8, .nilFunc⟩),
  (146, ⟨.func, 1, 8, .nilFunc⟩),
  (147, ⟨.func, 1, 8, .nilFunc⟩),
  (149, ⟨.func, 1, 8, .nilFunc⟩),
  (150, ⟨.func, 1, 8, .nilFunc⟩),
  (151, ⟨.int .u32, 1, 4, .int .u32 0⟩),
  (153, ⟨.func, 1, 8, .nilFunc⟩),
  (154, ⟨.func, 1, 8, .nilFunc⟩),
  (155, ⟨.func, 1, 8, .nilFunc⟩),
  (156, ⟨.func, 1, 8, .nilFunc⟩),
  (157, ⟨.int .u64, 1, 8, .int .u64 0⟩),
  (158, ⟨.func, 1, 8, .nilFunc⟩),
  (159, ⟨.func, 1, 8, .nilFunc⟩),
  (160, ⟨.ptr, 1, 8, .nilPtr⟩),
  (161, ⟨.func, 1, 8, .nilFunc⟩),
  (162, ⟨.ptr, 1, 8, .nilPtr⟩),
  (163, ⟨.func, 1, 8, .nilFunc⟩),
  (164, ⟨.array 64 5, 64, 64, .arr .u8 64 (fun _ => 0)⟩),
  (165, ⟨.func, 1, 8, .nilFunc⟩),
  (168, ⟨.array 0 16, 0, 0, .agg []⟩),
  (171, ⟨.func, 1, 8, .nilFunc⟩),
  (172, ⟨.int .u8, 1, 1, .int .u8 0⟩),
  (173, ⟨.int .u8, 1, 1, .int .u8 0⟩),
  (174, ⟨.func, 1, 8, .nilFunc⟩),
  (175, ⟨.ptr, 1, 8, .nilPtr⟩),
  (176, ⟨.int .i32, 1, 4, .int .i32 0⟩),
  (177, ⟨.int .i32, 1, 4, .int .i32 0⟩)]
theorem tys_ok : AllL (OkTI Tryd.prog) tys :=
  ⟨.of (by kernel_rfl) (by kernel_rfl), .of (by kernel_rfl) (by kernel_rfl), .of (by kernel_rfl) (by kernel_rfl), .of (by kernel_rfl) (by kernel_rfl), .of (by kernel_rfl) (by kernel_rfl), .of (by kernel_rfl) (by kernel_rfl), .of (by kernel_rfl) (by kernel_rfl), .of (by kernel_rfl) (by kernel_rfl), .of (by kernel_rfl) (by kernel_rfl), .of (by kernel_rfl) (by kernel_rfl), .of (by kernel_rfl) (by kernel_rfl), .of (by kernel_rfl) (by kernel_rfl), .of (by kernel_rfl) (by kernel_rfl), .of (by kernel_rfl) (by kernel_rfl), .of (by kernel_rfl) (by kernel_rfl), .of (by kernel_rfl) (by kernel_rfl), .of (by kernel_rfl) (by kernel_rfl), .of (by kernel_rfl) (by kernel_rfl), .of (by kernel_rfl) (by kernel_rfl), .of (by kernel_rfl) (by kernel_rfl), .of (by kernel_rfl) (by kernel_rfl), .of (by kernel_rfl) (by kernel_rfl), .of (by kernel_rfl) (by kernel_rfl), .of (by kernel_rfl) (by kernel_rfl), .of (by kernel_rfl) (by kernel_rfl), .of (by kernel_rfl) (by kernel_rfl), .of (by kernel_rfl) (by kernel_rfl), .of (by kernel_rfl) (by kernel_rfl), .of (by kernel_rfl) (by kernel_rfl), .of (by kernel_rfl) (by kernel_rfl), .of (by kernel_rfl) (by kernel_rfl), .of (by kernel_rfl) (by kernel_rfl), .of (by kernel_rfl) (by kernel_rfl), .of (by kernel_rfl) (by kernel_rfl), .of (by kernel_rfl) (by kernel_rfl), .of (by kernel_rfl) (by kernel_rfl), .of (by kernel_rfl) (by kernel_rfl), .of (by kernel_rfl) (by kernel_rfl), .of (by kernel_rfl) (by kernel_rfl), .of (by kernel_rfl) (by kernel_rfl), .of (by kernel_rfl) (by kernel_rfl), .of (by kernel_rfl) (by kernel_rfl), .of (by kernel_rfl) (by kernel_rfl), .of (by kernel_rfl) (by kernel_rfl), .of (by kernel_rfl) (by kernel_rfl), .of (by kernel_rfl) (by kernel_rfl), .of (by kernel_rfl) (by kernel_rfl), .of (by kernel_rfl) (by kernel_rfl), .of (by kernel_rfl) (by kernel_rfl), .of (by kernel_rfl) (by kernel_rfl), .of (by kernel_rfl) (by kernel_rfl), .of (by kernel_rfl) (by kernel_rfl), .of (by kernel_rfl) (by kernel_rfl), .of (by kernel_rfl) (by kernel_rfl), .of (by kernel_rfl) (by kernel_rfl), .of (by kernel_rfl) (by kernel_rfl), .of (by kernel_rfl) (by kernel_rfl), .of (by kernel_rfl) (by kernel_rfl), .of (by kernel_rfl) (by kernel_rfl), .of (by kernel_rfl) (by kernel_rfl), .of (by kernel_rfl) (by kernel_rfl), .of (by kernel_rfl) (by kernel_rfl), .of (by kernel_rfl) (by kernel_rfl), .of (by kernel_rfl) (by kernel_rfl), .of (by kernel_rfl) (by kernel_rfl), .of (by kernel_rfl) (by kernel_rfl), .of (by kernel_rfl) (by kernel_rfl), .of (by kernel_rfl) (by kernel_rfl), .of (by kernel_rfl) (by kernel_rfl), .of (by kernel_rfl) (by kernel_rfl), .of (by kernel_rfl) (by kernel_rfl), .of (by kernel_rfl) (by kernel_rfl), .of (by kernel_rfl) (by kernel_rfl), .of (by kernel_rfl) (by kernel_rfl), .of (by kernel_rfl) (by kernel_rfl), .of (by kernel_rfl) (by kernel_rfl), .of (by kernel_rfl) (by kernel_rfl), .of (by kernel_rfl) (by kernel_rfl), .of (by kernel_rfl) (by kernel_rfl), .of (by kernel_rfl) (by kernel_rfl), .of (by kernel_rfl) (by kernel_rfl), .of (by kernel_rfl) (by kernel_rfl), .of (by kernel_rfl) (by kernel_rfl), .of (by kernel_rfl) (by kernel_rfl), .of (by kernel_rfl) (by kernel_rfl), .of (by kernel_rfl) (by kernel_rfl), .of (by kernel_rfl) (by kernel_rfl), .of (by kernel_rfl) (by kernel_rfl), .of (by kernel_rfl) (by kernel_rfl), .of (by kernel_rfl) (by kernel_rfl), .of (by kernel_rfl) (by kernel_rfl), .of (by kernel_rfl) (by kernel_rfl), .of (by kernel_rfl) (by kernel_rfl), .of (by kernel_rfl) (by kernel_rfl), .of (by kernel_rfl) (by kernel_rfl), .of (by kernel_rfl) (by kernel_rfl), .of (by kernel_rfl) (by kernel_rfl), .of (by kernel_rfl) (by kernel_rfl), .of (by kernel_rfl) (by kernel_rfl), .of (by kernel_rfl) (by kernel_rfl), .of (by kernel_rfl) (by kernel_rfl), .of (by kernel_rfl) (by kernel_rfl), .of (by kernel_rfl) (by kernel_rfl), .of (by kernel_rfl) (by kernel_rfl), .of (by kernel_rfl) (by kernel_rfl), .of (by kernel_rfl) (by kernel_rfl), .of (by kernel_rfl) (by kernel_rfl), .of (by kernel_rfl) (by kernel_rfl), .of (by kernel_rfl) (by kernel_rfl), .of (by kernel_rfl) (by kernel_rfl), .of (by kernel_rfl) (by kernel_rfl), .of (by kernel_rfl) (by kernel_rfl), .of (by kernel_rfl) (by kernel_rfl), .of (by kernel_rfl) (by kernel_rfl), .of (by kernel_rfl) (by kernel_rfl), .of (by kernel_rfl) (by kernel_rfl), .of (by kernel_rfl) (by kernel_rfl), .of (by kernel_rfl) (by kernel_rfl), .of (by kernel_rfl) (by kernel_rfl), .of (by kernel_rfl) (by kernel_rfl), .of (by kernel_rfl) (by kernel_rfl), .of (by kernel_rfl) (by kernel_rfl), .of (by kernel_rfl) (by kernel_rfl), .of (by kernel_rfl) (by kernel_rfl), .of (by kernel_rfl) (by kernel_rfl), .of (by kernel_rfl) (by kernel_rfl), .of (by kernel_rfl) (by kernel_rfl), .of (by kernel_rfl) (by kernel_rfl), .of (by kernel_rfl) (by kernel_rfl), .of (by kernel_rfl) (by kernel_rfl), .of (by kernel_rfl) (by kernel_rfl), .of (by kernel_rfl) (by kernel_rfl), .of (by kernel_rfl) (by kernel_rfl), .of (by kernel_rfl) (by kernel_rfl), .of (by kernel_rfl) (by kernel_rfl), .of (by kernel_rfl) (by kernel_rfl), .of (by kernel_rfl) (by kernel_rfl), .of (by kernel_rfl) (by kernel_rfl), .of (by kernel_rfl) (by kernel_rfl), .of (by kernel_rfl) (by kernel_rfl), .of (by kernel_rfl) (by kernel_rfl), .of (by kernel_rfl) (by kernel_rfl), .of (by kernel_rfl) (by kernel_rfl), .of (by kernel_rfl) (by kernel_rfl), trivial⟩
theorem mixed : Tryd.prog.follows .mixedOrders = true := by kernel_rfl
noncomputable def gl : Nat → Option EV := look [(0, .arr .u8 64 tab_deBruijn64tab)]
noncomputable def e_shape_numbers : Entry := ⟨[none], false, fun args H K => match args, H with
  | [.int .u8 a0], [] => shape_numbers a0 (fun y0 y1 y2 y3 => K (EV.tuple [EV.int IntKind.i64 y0, EV.int IntKind.i64 y1, EV.int IntKind.i64 y2, EV.str y3]) [])
  | _, _ => False⟩
noncomputable def E_shape_numbers : Env := ⟨look tys, look [], look [], gl, lookL [], false⟩
theorem X_shape_numbers.eq (a0 : Int) (K : EV → Heap → Prop) : evFn E_shape_numbers Tryd.f88 false [.int .u8 a0] [] K = shape_numbers a0 (fun y0 y1 y2 y3 => K (EV.tuple [EV.int IntKind.i64 y0, EV.int IntKind.i64 y1, EV.int IntKind.i64 y2, EV.str y3]) []) := by
  have h : evFn E_shape_numbers Tryd.f88 false [.int .u8 a0] [] K = shape_numbers.d a0 (fun y0 y1 y2 y3 => K (EV.tuple [EV.int IntKind.i64 y0, EV.int IntKind.i64 y1, EV.int IntKind.i64 y2, EV.str y3]) []) := by kernel_rfl
  rw [shape_numbers.is]; exact h
theorem X_shape_numbers.ok : SoundE Tryd.prog gl 88 e_shape_numbers := by
  refine fnOK (E := E_shape_numbers) (fn := Tryd.f88) rfl tys_ok rfl (show AllL _ [] from trivial) mixed (by kernel_rfl) (by kernel_rfl) (by kernel_rfl) 0 (by kernel_rfl) false trivial ?_
  intro args H
  by_cases hx : ∃ (a0 : Int), args = [.int .u8 a0] ∧ H = []
  · obtain ⟨a0, rfl, rfl⟩ := hx
    right; intro K
    exact iff_of_eq (X_shape_numbers.eq a0 K).symm
  · left; intro K h
    simp only [e_shape_numbers] at h
    split at h
    · exact hx ⟨_, rfl, rfl⟩
    · exact h
noncomputable def e_shape_Width : Entry := ⟨[none], false, fun args H K => match args, H with
  | [.int .u8 a0], [] => shape_Width a0 (fun y0 => K (EV.int IntKind.i64 y0) [])
  | _, _ => False⟩
noncomputable def E_shape_Width : Env := ⟨look tys, look [(88, e_shape_numbers)], look [], gl, lookL [], false⟩
theorem X_shape_Width.eq (a0 : Int) (K : EV → Heap → Prop) : evFn E_shape_Width Tryd.f55 false [.int .u8 a0] [] K = shape_Width a0 (fun y0 => K (EV.int IntKind.i64 y0) []) := by
  have h : evFn E_shape_Width Tryd.f55 false [.int .u8 a0] [] K = shape_Width.d a0 (fun y0 => K (EV.int IntKind.i64 y0) []) := by kernel_rfl
  rw [shape_Width.is]; exact h
theorem X_shape_Width.ok : SoundE Tryd.prog gl 55 e_shape_Width := by
  refine fnOK (E := E_shape_Width) (fn := Tryd.f55) rfl tys_ok rfl (show AllL _ [(88, e_shape_numbers)] from ⟨X_shape_numbers.ok, trivial⟩) mixed (by kernel_rfl) (by kernel_rfl) (by kernel_rfl) 0 (by kernel_rfl) false trivial ?_
  intro args H
  by_cases hx : ∃ (a0 : Int), args = [.int .u8 a0] ∧ H = []
  · obtain ⟨a0, rfl, rfl⟩ := hx
    right; intro K
    exact iff_of_eq (X_shape_Width.eq a0 K).symm
  · left; intro K h
    simp only [e_shape_Width] at h
    split at h
    · exact hx ⟨_, rfl, rfl⟩
    · exact h
noncomputable def e_shape_Fits : Entry := ⟨[none, none], false, fun args H K => match args, H with
  | [.int .u8 a0, .agg [.int .u64 a1_0, .int .u64 a1_1]], [] => shape_Fits a0 a1_0 a1_1 (fun y0 => K (EV.bool y0) [])
  | _, _ => False⟩
noncomputable def E_shape_Fits : Env := ⟨look tys, look [(55, e_shape_Width)], look [], gl, lookL [], false⟩
theorem X_shape_Fits.eq (a0 : Int) (a1_0 : Int) (a1_1 : Int) (K : EV → Heap → Prop) : evFn E_shape_Fits Tryd.f53 false [.int .u8 a0, .agg [.int .u64 a1_0, .int .u64 a1_1]] [] K = shape_Fits a0 a1_0 a1_1 (fun y0 => K (EV.bool y0) []) := by
  have h : evFn E_shape_Fits Tryd.f53 false [.int .u8 a0, .agg [.int .u64 a1_0, .int .u64 a1_1]] [] K = shape_Fits.d a0 a1_0 a1_1 (fun y0 => K (EV.bool y0) []) := by kernel_rfl
  rw [shape_Fits.is]; exact h
theorem X_shape_Fits.ok : SoundE Tryd.prog gl 53 e_shape_Fits := by
  refine fnOK (E := E_shape_Fits) (fn := Tryd.f53) rfl tys_ok rfl (show AllL _ [(55, e_shape_Width)] from ⟨X_shape_Width.ok, trivial⟩) mixed (by kernel_rfl) (by kernel_rfl) (by kernel_rfl) 0 (by kernel_rfl) false trivial ?_
  intro args H
  by_cases hx : ∃ (a0 : Int) (a1_0 : Int) (a1_1 : Int), args = [.int .u8 a0, .agg [.int .u64 a1_0, .int .u64 a1_1]] ∧ H = []
  · obtain ⟨a0, a1_0, a1_1, rfl, rfl⟩ := hx
    right; intro K
    exact iff_of_eq (X_shape_Fits.eq a0 a1_0 a1_1 K).symm
  · left; intro K h
    simp only [e_shape_Fits] at h
    split at h
    · exact hx ⟨_, _, _, rfl, rfl⟩
    · exact h
noncomputable def e_shape_Check : Entry := ⟨[none], false, fun args H K => match args, H with
  | [.int .u8 a0], [] => shape_Check a0 (fun y0 => K (EV.int IntKind.i64 y0) [])
  | _, _ => False⟩
noncomputable def E_shape_Check : Env := ⟨look tys, look [], look [], gl, lookL [], false⟩
theorem X_shape_Check.eq (a0 : Int) (K : EV → Heap → Prop) : evFn E_shape_Check Tryd.f57 false [.int .u8 a0] [] K = shape_Check a0 (fun y0 => K (EV.int IntKind.i64 y0) []) := by
  have h : evFn E_shape_Check Tryd.f57 false [.int .u8 a0] [] K = shape_Check.d a0 (fun y0 => K (EV.int IntKind.i64 y0) []) := by kernel_rfl
  rw [shape_Check.is]; exact h
theorem X_shape_Check.ok : SoundE Tryd.prog gl 57 e_shape_Check := by
  refine fnOK (E := E_shape_Check) (fn := Tryd.f57) rfl tys_ok rfl (show AllL _ [] from trivial) mixed (by kernel_rfl) (by kernel_rfl) (by kernel_rfl) 0 (by kernel_rfl) false trivial ?_
  intro args H
  by_cases hx : ∃ (a0 : Int), args = [.int .u8 a0] ∧ H = []
  · obtain ⟨a0, rfl, rfl⟩ := hx
    right; intro K
    exact iff_of_eq (X_shape_Check.eq a0 K).symm
  · left; intro K h
    simp only [e_shape_Check] at h
    split at h
    · exact hx ⟨_, rfl, rfl⟩
    · exact h
noncomputable def e_order_fits : Entry := ⟨[none, none], true, fun args H K => match args, H with
  | [.int .u8 a0, .slice 0 0 2 (some 2) 2], [some (.agg [.agg [.int .u64 a1_0_0, .int .u64 a1_0_1], .agg [.int .u64 a1_1_0, .int .u64 a1_1_1]])] => order_fits a0 a1_0_0 a1_0_1 a1_1_0 a1_1_1 (fun y0 y1 y2 y3 y4 => K (EV.bool y0) [some (EV.agg [EV.agg [EV.int IntKind.u64 y1, EV.int IntKind.u64 y2], EV.agg [EV.int IntKind.u64 y3, EV.int IntKind.u64 y4]])])
  | _, _ => False⟩
noncomputable def E_order_fits : Env := ⟨look tys, look [(53, e_shape_Fits), (57, e_shape_Check)], look [(2, order_fits.l2.entry)], gl, lookL [], false⟩
theorem order_fits.l2X.stepEq (R : List EV → Heap → Prop) (K : Ex → List EV → Heap → Prop) (x0 : Int) (x1 : Int) (x2 : Int) (x3 : Int) (x4 : Int) (x5 : Int) (x6 : Int) : loopStep (evCode E_order_fits (loopAt Tryd.f64 0) { (LV.mk 1 [(0, 1)] 16 1 false) with nx := live (.loop (loopAt Tryd.f64 0)) (LV.mk 1 [(0, 1)] 16 1 false) }) (live (.loop (loopAt Tryd.f64 0)) (LV.mk 1 [(0, 1)] 16 1 false)) (LV.mk 1 [(0, 1)] 16 1 false) 1 21 R [EV.int IntKind.u8 x0, EV.slice 0 0 2 (some 2) 2, EV.int IntKind.i64 x1, EV.int IntKind.i64 x2] [some (EV.agg [EV.agg [EV.int IntKind.u64 x3, EV.int IntKind.u64 x4], EV.agg [EV.int IntKind.u64 x5, EV.int IntKind.u64 x6]])] K = order_fits.l2.step (fun x0 x1 x2 x3 x4 x5 x6 => R [EV.int IntKind.u8 x0, EV.slice 0 0 2 (some 2) 2, EV.int IntKind.i64 x1, EV.int IntKind.i64 x2] [some (EV.agg [EV.agg [EV.int IntKind.u64 x3, EV.int IntKind.u64 x4], EV.agg [EV.int IntKind.u64 x5, EV.int IntKind.u64 x6]])]) (fun y0 y1 y2 y3 y4 => K .ret [EV.bool y0] [some (EV.agg [EV.agg [EV.int IntKind.u64 y1, EV.int IntKind.u64 y2], EV.agg [EV.int IntKind.u64 y3, EV.int IntKind.u64 y4]])]) (fun y0 y1 y2 y3 y4 => K (.exit 0) [EV.int IntKind.u8 y0] [some (EV.agg [EV.agg [EV.int IntKind.u64 y1, EV.int IntKind.u64 y2], EV.agg [EV.int IntKind.u64 y3, EV.int IntKind.u64 y4]])]) x0 x1 x2 x3 x4 x5 x6 := by kernel_rfl
theorem order_fits.l2X.eq (K : Ex → List EV → Heap → Prop) : ∀ (n : Nat) (x0 : Int) (x1 : Int) (x2 : Int) (x3 : Int) (x4 : Int) (x5 : Int) (x6 : Int), loopE E_order_fits (loopAt Tryd.f64 0) (LV.mk 1 [(0, 1)] 16 1 false) 1 21 K n [EV.int IntKind.u8 x0, EV.slice 0 0 2 (some 2) 2, EV.int IntKind.i64 x1, EV.int IntKind.i64 x2] [some (EV.agg [EV.agg [EV.int IntKind.u64 x3, EV.int IntKind.u64 x4], EV.agg [EV.int IntKind.u64 x5, EV.int IntKind.u64 x6]])] = order_fits.l2 (fun y0 y1 y2 y3 y4 => K .ret [EV.bool y0] [some (EV.agg [EV.agg [EV.int IntKind.u64 y1, EV.int IntKind.u64 y2], EV.agg [EV.int IntKind.u64 y3, EV.int IntKind.u64 y4]])]) (fun y0 y1 y2 y3 y4 => K (.exit 0) [EV.int IntKind.u8 y0] [some (EV.agg [EV.agg [EV.int IntKind.u64 y1, EV.int IntKind.u64 y2], EV.agg [EV.int IntKind.u64 y3, EV.int IntKind.u64 y4]])]) n x0 x1 x2 x3 x4 x5 x6
  | 0, _, _, _, _, _, _, _ => rfl
  | n + 1, x0, x1, x2, x3, x4, x5, x6 => by
    have ih : (fun (x0 : Int) (x1 : Int) (x2 : Int) (x3 : Int) (x4 : Int) (x5 : Int) (x6 : Int) => loopE E_order_fits (loopAt Tryd.f64 0) (LV.mk 1 [(0, 1)] 16 1 false) 1 21 K n [EV.int IntKind.u8 x0, EV.slice 0 0 2 (some 2) 2, EV.int IntKind.i64 x1, EV.int IntKind.i64 x2] [some (EV.agg [EV.agg [EV.int IntKind.u64 x3, EV.int IntKind.u64 x4], EV.agg [EV.int IntKind.u64 x5, EV.int IntKind.u64 x6]])]) = order_fits.l2 (fun y0 y1 y2 y3 y4 => K .ret [EV.bool y0] [some (EV.agg [EV.agg [EV.int IntKind.u64 y1, EV.int IntKind.u64 y2], EV.agg [EV.int IntKind.u64 y3, EV.int IntKind.u64 y4]])]) (fun y0 y1 y2 y3 y4 => K (.exit 0) [EV.int IntKind.u8 y0] [some (EV.agg [EV.agg [EV.int IntKind.u64 y1, EV.int IntKind.u64 y2], EV.agg [EV.int IntKind.u64 y3, EV.int IntKind.u64 y4]])]) n := by funext x0 x1 x2 x3 x4 x5 x6; exact order_fits.l2X.eq K n x0 x1 x2 x3 x4 x5 x6
    show loopStep _ _ _ _ _ (loopE E_order_fits (loopAt Tryd.f64 0) (LV.mk 1 [(0, 1)] 16 1 false) 1 21 K n) [EV.int IntKind.u8 x0, EV.slice 0 0 2 (some 2) 2, EV.int IntKind.i64 x1, EV.int IntKind.i64 x2] [some (EV.agg [EV.agg [EV.int IntKind.u64 x3, EV.int IntKind.u64 x4], EV.agg [EV.int IntKind.u64 x5, EV.int IntKind.u64 x6]])] K = order_fits.l2.step (order_fits.l2 (fun y0 y1 y2 y3 y4 => K .ret [EV.bool y0] [some (EV.agg [EV.agg [EV.int IntKind.u64 y1, EV.int IntKind.u64 y2], EV.agg [EV.int IntKind.u64 y3, EV.int IntKind.u64 y4]])]) (fun y0 y1 y2 y3 y4 => K (.exit 0) [EV.int IntKind.u8 y0] [some (EV.agg [EV.agg [EV.int IntKind.u64 y1, EV.int IntKind.u64 y2], EV.agg [EV.int IntKind.u64 y3, EV.int IntKind.u64 y4]])]) n) (fun y0 y1 y2 y3 y4 => K .ret [EV.bool y0] [some (EV.agg [EV.agg [EV.int IntKind.u64 y1, EV.int IntKind.u64 y2], EV.agg [EV.int IntKind.u64 y3, EV.int IntKind.u64 y4]])]) (fun y0 y1 y2 y3 y4 => K (.exit 0) [EV.int IntKind.u8 y0] [some (EV.agg [EV.agg [EV.int IntKind.u64 y1, EV.int IntKind.u64 y2], EV.agg [EV.int IntKind.u64 y3, EV.int IntKind.u64 y4]])]) x0 x1 x2 x3 x4 x5 x6
    rw [← ih]
    exact order_fits.l2X.stepEq _ K x0 x1 x2 x3 x4 x5 x6
theorem order_fits.l2X.ok : LoopEq E_order_fits (loopAt Tryd.f64 0) := by
  intro L hL vs H
  have h1 : E_order_fits.lp (firstRegion (loopAt Tryd.f64 0)) = some order_fits.l2.entry := by kernel_rfl
  have h2 : L = order_fits.l2.entry := Option.some.inj (hL.symm.trans h1)
  subst h2
  by_cases hx : ∃ (x0 : Int) (x1 : Int) (x2 : Int) (x3 : Int) (x4 : Int) (x5 : Int) (x6 : Int), vs = [EV.int IntKind.u8 x0, EV.slice 0 0 2 (some 2) 2, EV.int IntKind.i64 x1, EV.int IntKind.i64 x2] ∧ H = [some (EV.agg [EV.agg [EV.int IntKind.u64 x3, EV.int IntKind.u64 x4], EV.agg [EV.int IntKind.u64 x5, EV.int IntKind.u64 x6]])]
  · obtain ⟨x0, x1, x2, x3, x4, x5, x6, rfl, rfl⟩ := hx
    right; intro K
    exact exists_congr fun n => iff_of_eq (order_fits.l2X.eq K n x0 x1 x2 x3 x4 x5 x6).symm
  · left; intro K h
    simp only [order_fits.l2.entry] at h
    split at h
    · exact hx ⟨_, _, _, _, _, _, _, rfl, rfl⟩
    · exact h
theorem X_order_fits.eq (a0 : Int) (a1_0_0 : Int) (a1_0_1 : Int) (a1_1_0 : Int) (a1_1_1 : Int) (K : EV → Heap → Prop) : evFn E_order_fits Tryd.f64 false [.int .u8 a0, .slice 0 0 2 (some 2) 2] [some (.agg [.agg [.int .u64 a1_0_0, .int .u64 a1_0_1], .agg [.int .u64 a1_1_0, .int .u64 a1_1_1]])] K = order_fits a0 a1_0_0 a1_0_1 a1_1_0 a1_1_1 (fun y0 y1 y2 y3 y4 => K (EV.bool y0) [some (EV.agg [EV.agg [EV.int IntKind.u64 y1, EV.int IntKind.u64 y2], EV.agg [EV.int IntKind.u64 y3, EV.int IntKind.u64 y4]])]) := by
  have h : evFn E_order_fits Tryd.f64 false [.int .u8 a0, .slice 0 0 2 (some 2) 2] [some (.agg [.agg [.int .u64 a1_0_0, .int .u64 a1_0_1], .agg [.int .u64 a1_1_0, .int .u64 a1_1_1]])] K = order_fits.d a0 a1_0_0 a1_0_1 a1_1_0 a1_1_1 (fun y0 y1 y2 y3 y4 => K (EV.bool y0) [some (EV.agg [EV.agg [EV.int IntKind.u64 y1, EV.int IntKind.u64 y2], EV.agg [EV.int IntKind.u64 y3, EV.int IntKind.u64 y4]])]) := by kernel_rfl
  rw [order_fits.is]; exact h
theorem X_order_fits.ok : SoundE Tryd.prog gl 64 e_order_fits := by
  refine fnOK (E := E_order_fits) (fn := Tryd.f64) rfl tys_ok rfl (show AllL _ [(53, e_shape_Fits), (57, e_shape_Check)] from ⟨X_shape_Fits.ok, X_shape_Check.ok, trivial⟩) mixed (by kernel_rfl) (by kernel_rfl) (by kernel_rfl) 1 (by kernel_rfl) false ⟨order_fits.l2X.ok, trivial⟩ ?_
  intro args H
  by_cases hx : ∃ (a0 : Int) (a1_0_0 : Int) (a1_0_1 : Int) (a1_1_0 : Int) (a1_1_1 : Int), args = [.int .u8 a0, .slice 0 0 2 (some 2) 2] ∧ H = [some (.agg [.agg [.int .u64 a1_0_0, .int .u64 a1_0_1], .agg [.int .u64 a1_1_0, .int .u64 a1_1_1]])]
  · obtain ⟨a0, a1_0_0, a1_0_1, a1_1_0, a1_1_1, rfl, rfl⟩ := hx
    right; intro K
    exact iff_of_eq (X_order_fits.eq a0 a1_0_0 a1_0_1 a1_1_0 a1_1_1 K).symm
  · left; intro K h
    simp only [e_order_fits] at h
    split at h
    · exact hx ⟨_, _, _, _, _, rfl, rfl⟩
    · exact h
noncomputable def e_wide_Bit : Entry := ⟨[none, none], false, fun args H K => match args, H with
  | [.arr .u64 6 a0, .int .i64 a1], [] => wide_Bit a0 a1 (fun y0 => K (EV.bool y0) [])
  | _, _ => False⟩
noncomputable def E_wide_Bit : Env := ⟨look tys, look [], look [], gl, lookL [], false⟩
theorem X_wide_Bit.eq (a0 : Nat → Int) (a1 : Int) (K : EV → Heap → Prop) : evFn E_wide_Bit Tryd.f107 false [.arr .u64 6 a0, .int .i64 a1] [] K = wide_Bit a0 a1 (fun y0 => K (EV.bool y0) []) := by
  have h : evFn E_wide_Bit Tryd.f107 false [.arr .u64 6 a0, .int .i64 a1] [] K = wide_Bit.d a0 a1 (fun y0 => K (EV.bool y0) []) := by kernel_rfl
  rw [wide_Bit.is]; exact h
theorem X_wide_Bit.ok : SoundE Tryd.prog gl 107 e_wide_Bit := by
  refine fnOK (E := E_wide_Bit) (fn := Tryd.f107) rfl tys_ok rfl (show AllL _ [] from trivial) mixed (by kernel_rfl) (by kernel_rfl) (by kernel_rfl) 0 (by kernel_rfl) false trivial ?_
  intro args H
  by_cases hx : ∃ (a0 : Nat → Int) (a1 : Int), args = [.arr .u64 6 a0, .int .i64 a1] ∧ H = []
  · obtain ⟨a0, a1, rfl, rfl⟩ := hx
    right; intro K
    exact iff_of_eq (X_wide_Bit.eq a0 a1 K).symm
  · left; intro K h
    simp only [e_wide_Bit] at h
    split at h
    · exact hx ⟨_, _, rfl, rfl⟩
    · exact h
noncomputable def e_wide_OfBits : Entry := ⟨[none], false, fun args H K => match args, H with
  | [.agg [.int .u64 a0_0, .int .u64 a0_1]], [] => wide_OfBits a0_0 a0_1 (fun y0 => K (EV.arr IntKind.u64 6 y0) [])
  | _, _ => False⟩
noncomputable def E_wide_OfBits : Env := ⟨look tys, look [], look [], gl, lookL [], false⟩
theorem X_wide_OfBits.eq (a0_0 : Int) (a0_1 : Int) (K : EV → Heap → Prop) : evFn E_wide_OfBits Tryd.f111 false [.agg [.int .u64 a0_0, .int .u64 a0_1]] [] K = wide_OfBits a0_0 a0_1 (fun y0 => K (EV.arr IntKind.u64 6 y0) []) := by
  have h : evFn E_wide_OfBits Tryd.f111 false [.agg [.int .u64 a0_0, .int .u64 a0_1]] [] K = wide_OfBits.d a0_0 a0_1 (fun y0 => K (EV.arr IntKind.u64 6 y0) []) := by kernel_rfl
  rw [wide_OfBits.is]; exact h
theorem X_wide_OfBits.ok : SoundE Tryd.prog gl 111 e_wide_OfBits := by
  refine fnOK (E := E_wide_OfBits) (fn := Tryd.f111) rfl tys_ok rfl (show AllL _ [] from trivial) mixed (by kernel_rfl) (by kernel_rfl) (by kernel_rfl) 0 (by kernel_rfl) false trivial ?_
  intro args H
  by_cases hx : ∃ (a0_0 : Int) (a0_1 : Int), args = [.agg [.int .u64 a0_0, .int .u64 a0_1]] ∧ H = []
  · obtain ⟨a0_0, a0_1, rfl, rfl⟩ := hx
    right; intro K
    exact iff_of_eq (X_wide_OfBits.eq a0_0 a0_1 K).symm
  · left; intro K h
    simp only [e_wide_OfBits] at h
    split at h
    · exact hx ⟨_, _, rfl, rfl⟩
    · exact h
noncomputable def e_kind_Sign : Entry := ⟨[none, none], false, fun args H K => match args, H with
  | [.int .u8 a0, .agg [.int .u64 a1_0, .int .u64 a1_1]], [] => kind_Sign a0 a1_0 a1_1 (fun y0 => K (EV.bool y0) [])
  | _, _ => False⟩
noncomputable def E_kind_Sign : Env := ⟨look tys, look [(53, e_shape_Fits), (55, e_shape_Width), (107, e_wide_Bit), (111, e_wide_OfBits)], look [], gl, lookL [], false⟩
theorem X_kind_Sign.eq (a0 : Int) (a1_0 : Int) (a1_1 : Int) (K : EV → Heap → Prop) : evFn E_kind_Sign Tryd.f81 false [.int .u8 a0, .agg [.int .u64 a1_0, .int .u64 a1_1]] [] K = kind_Sign a0 a1_0 a1_1 (fun y0 => K (EV.bool y0) []) := by
  have h : evFn E_kind_Sign Tryd.f81 false [.int .u8 a0, .agg [.int .u64 a1_0, .int .u64 a1_1]] [] K = kind_Sign.d a0 a1_0 a1_1 (fun y0 => K (EV.bool y0) []) := by kernel_rfl
  rw [kind_Sign.is]; exact h
theorem X_kind_Sign.ok : SoundE Tryd.prog gl 81 e_kind_Sign := by
  refine fnOK (E := E_kind_Sign) (fn := Tryd.f81) rfl tys_ok rfl (show AllL _ [(53, e_shape_Fits), (55, e_shape_Width), (107, e_wide_Bit), (111, e_wide_OfBits)] from ⟨X_shape_Fits.ok, X_shape_Width.ok, X_wide_Bit.ok, X_wide_OfBits.ok, trivial⟩) mixed (by kernel_rfl) (by kernel_rfl) (by kernel_rfl) 0 (by kernel_rfl) false trivial ?_
  intro args H
  by_cases hx : ∃ (a0 : Int) (a1_0 : Int) (a1_1 : Int), args = [.int .u8 a0, .agg [.int .u64 a1_0, .int .u64 a1_1]] ∧ H = []
  · obtain ⟨a0, a1_0, a1_1, rfl, rfl⟩ := hx
    right; intro K
    exact iff_of_eq (X_kind_Sign.eq a0 a1_0 a1_1 K).symm
  · left; intro K h
    simp only [e_kind_Sign] at h
    split at h
    · exact hx ⟨_, _, _, rfl, rfl⟩
    · exact h
noncomputable def e_shape_at : Entry := ⟨[none, none], false, fun args H K => match args, H with
  | [.int .u64 a0, .int .i64 a1], [] => shape_at a0 a1 (fun y0 y1 => K (EV.agg [EV.int IntKind.u64 y0, EV.int IntKind.u64 y1]) [])
  | _, _ => False⟩
noncomputable def E_shape_at : Env := ⟨look tys, look [], look [], gl, lookL [], false⟩
theorem X_shape_at.eq (a0 : Int) (a1 : Int) (K : EV → Heap → Prop) : evFn E_shape_at Tryd.f115 false [.int .u64 a0, .int .i64 a1] [] K = shape_at a0 a1 (fun y0 y1 => K (EV.agg [EV.int IntKind.u64 y0, EV.int IntKind.u64 y1]) []) := by
  have h : evFn E_shape_at Tryd.f115 false [.int .u64 a0, .int .i64 a1] [] K = shape_at.d a0 a1 (fun y0 y1 => K (EV.agg [EV.int IntKind.u64 y0, EV.int IntKind.u64 y1]) []) := by kernel_rfl
  rw [shape_at.is]; exact h
theorem X_shape_at.ok : SoundE Tryd.prog gl 115 e_shape_at := by
  refine fnOK (E := E_shape_at) (fn := Tryd.f115) rfl tys_ok rfl (show AllL _ [] from trivial) mixed (by kernel_rfl) (by kernel_rfl) (by kernel_rfl) 0 (by kernel_rfl) false trivial ?_
  intro args H
  by_cases hx : ∃ (a0 : Int) (a1 : Int), args = [.int .u64 a0, .int .i64 a1] ∧ H = []
  · obtain ⟨a0, a1, rfl, rfl⟩ := hx
    right; intro K
    exact iff_of_eq (X_shape_at.eq a0 a1 K).symm
  · left; intro K h
    simp only [e_shape_at] at h
    split at h
    · exact hx ⟨_, _, rfl, rfl⟩
    · exact h
noncomputable def e_shape_with : Entry := ⟨[none, none, none], false, fun args H K => match args, H with
  | [.int .u8 a0, .agg [.int .u64 a1_0, .int .u64 a1_1], .bool a2], [] => shape_with a0 a1_0 a1_1 a2 (fun y0 y1 => K (EV.agg [EV.int IntKind.u64 y0, EV.int IntKind.u64 y1]) [])
  | _, _ => False⟩
noncomputable def E_shape_with : Env := ⟨look tys, look [(55, e_shape_Width), (57, e_shape_Check), (115, e_shape_at)], look [], gl, lookL [], false⟩
theorem X_shape_with.eq (a0 : Int) (a1_0 : Int) (a1_1 : Int) (a2 : Bool) (K : EV → Heap → Prop) : evFn E_shape_with Tryd.f94 false [.int .u8 a0, .agg [.int .u64 a1_0, .int .u64 a1_1], .bool a2] [] K = shape_with a0 a1_0 a1_1 a2 (fun y0 y1 => K (EV.agg [EV.int IntKind.u64 y0, EV.int IntKind.u64 y1]) []) := by
  have h : evFn E_shape_with Tryd.f94 false [.int .u8 a0, .agg [.int .u64 a1_0, .int .u64 a1_1], .bool a2] [] K = shape_with.d a0 a1_0 a1_1 a2 (fun y0 y1 => K (EV.agg [EV.int IntKind.u64 y0, EV.int IntKind.u64 y1]) []) := by kernel_rfl
  rw [shape_with.is]; exact h
theorem X_shape_with.ok : SoundE Tryd.prog gl 94 e_shape_with := by
  refine fnOK (E := E_shape_with) (fn := Tryd.f94) rfl tys_ok rfl (show AllL _ [(55, e_shape_Width), (57, e_shape_Check), (115, e_shape_at)] from ⟨X_shape_Width.ok, X_shape_Check.ok, X_shape_at.ok, trivial⟩) mixed (by kernel_rfl) (by kernel_rfl) (by kernel_rfl) 0 (by kernel_rfl) false trivial ?_
  intro args H
  by_cases hx : ∃ (a0 : Int) (a1_0 : Int) (a1_1 : Int) (a2 : Bool), args = [.int .u8 a0, .agg [.int .u64 a1_0, .int .u64 a1_1], .bool a2] ∧ H = []
  · obtain ⟨a0, a1_0, a1_1, a2, rfl, rfl⟩ := hx
    right; intro K
    exact iff_of_eq (X_shape_with.eq a0 a1_0 a1_1 a2 K).symm
  · left; intro K h
    simp only [e_shape_with] at h
    split at h
    · exact hx ⟨_, _, _, _, rfl, rfl⟩
    · exact h
noncomputable def e_shape_Zero : Entry := ⟨[none, none], false, fun args H K => match args, H with
  | [.int .u8 a0, .bool a1], [] => shape_Zero a0 a1 (fun y0 y1 => K (EV.agg [EV.int IntKind.u64 y0, EV.int IntKind.u64 y1]) [])
  | _, _ => False⟩
noncomputable def E_shape_Zero : Env := ⟨look tys, look [(94, e_shape_with)], look [], gl, lookL [], false⟩
theorem X_shape_Zero.eq (a0 : Int) (a1 : Bool) (K : EV → Heap → Prop) : evFn E_shape_Zero Tryd.f63 false [.int .u8 a0, .bool a1] [] K = shape_Zero a0 a1 (fun y0 y1 => K (EV.agg [EV.int IntKind.u64 y0, EV.int IntKind.u64 y1]) []) := by
  have h : evFn E_shape_Zero Tryd.f63 false [.int .u8 a0, .bool a1] [] K = shape_Zero.d a0 a1 (fun y0 y1 => K (EV.agg [EV.int IntKind.u64 y0, EV.int IntKind.u64 y1]) []) := by kernel_rfl
  rw [shape_Zero.is]; exact h
theorem X_shape_Zero.ok : SoundE Tryd.prog gl 63 e_shape_Zero := by
  refine fnOK (E := E_shape_Zero) (fn := Tryd.f63) rfl tys_ok rfl (show AllL _ [(94, e_shape_with)] from ⟨X_shape_with.ok, trivial⟩) mixed (by kernel_rfl) (by kernel_rfl) (by kernel_rfl) 0 (by kernel_rfl) false trivial ?_
  intro args H
  by_cases hx : ∃ (a0 : Int) (a1 : Bool), args = [.int .u8 a0, .bool a1] ∧ H = []
  · obtain ⟨a0, a1, rfl, rfl⟩ := hx
    right; intro K
    exact iff_of_eq (X_shape_Zero.eq a0 a1 K).symm
  · left; intro K h
    simp only [e_shape_Zero] at h
    split at h
    · exact hx ⟨_, _, rfl, rfl⟩
    · exact h
noncomputable def e_order_key : Entry := ⟨[none, none], false, fun args H K => match args, H with
  | [.int .u8 a0, .agg [.int .u64 a1_0, .int .u64 a1_1]], [] => order_key a0 a1_0 a1_1 (fun y0 y1 => K (EV.agg [EV.int IntKind.u64 y0, EV.int IntKind.u64 y1]) [])
  | _, _ => False⟩
noncomputable def E_order_key : Env := ⟨look tys, look [(63, e_shape_Zero), (81, e_kind_Sign)], look [], gl, lookL [], false⟩
theorem X_order_key.eq (a0 : Int) (a1_0 : Int) (a1_1 : Int) (K : EV → Heap → Prop) : evFn E_order_key Tryd.f95 false [.int .u8 a0, .agg [.int .u64 a1_0, .int .u64 a1_1]] [] K = order_key a0 a1_0 a1_1 (fun y0 y1 => K (EV.agg [EV.int IntKind.u64 y0, EV.int IntKind.u64 y1]) []) := by
  have h : evFn E_order_key Tryd.f95 false [.int .u8 a0, .agg [.int .u64 a1_0, .int .u64 a1_1]] [] K = order_key.d a0 a1_0 a1_1 (fun y0 y1 => K (EV.agg [EV.int IntKind.u64 y0, EV.int IntKind.u64 y1]) []) := by kernel_rfl
  rw [order_key.is]; exact h
theorem X_order_key.ok : SoundE Tryd.prog gl 95 e_order_key := by
  refine fnOK (E := E_order_key) (fn := Tryd.f95) rfl tys_ok rfl (show AllL _ [(63, e_shape_Zero), (81, e_kind_Sign)] from ⟨X_shape_Zero.ok, X_kind_Sign.ok, trivial⟩) mixed (by kernel_rfl) (by kernel_rfl) (by kernel_rfl) 0 (by kernel_rfl) false trivial ?_
  intro args H
  by_cases hx : ∃ (a0 : Int) (a1_0 : Int) (a1_1 : Int), args = [.int .u8 a0, .agg [.int .u64 a1_0, .int .u64 a1_1]] ∧ H = []
  · obtain ⟨a0, a1_0, a1_1, rfl, rfl⟩ := hx
    right; intro K
    exact iff_of_eq (X_order_key.eq a0 a1_0 a1_1 K).symm
  · left; intro K h
    simp only [e_order_key] at h
    split at h
    · exact hx ⟨_, _, _, rfl, rfl⟩
    · exact h
noncomputable def e_order_total : Entry := ⟨[none, none, none], false, fun args H K => match args, H with
  | [.int .u8 a0, .agg [.int .u64 a1_0, .int .u64 a1_1], .agg [.int .u64 a2_0, .int .u64 a2_1]], [] => order_total a0 a1_0 a1_1 a2_0 a2_1 (fun y0 => K (EV.int IntKind.i64 y0) [])
  | _, _ => False⟩
noncomputable def E_order_total : Env := ⟨look tys, look [(81, e_kind_Sign), (95, e_order_key)], look [], gl, lookL [], false⟩
theorem X_order_total.eq (a0 : Int) (a1_0 : Int) (a1_1 : Int) (a2_0 : Int) (a2_1 : Int) (K : EV → Heap → Prop) : evFn E_order_total Tryd.f65 false [.int .u8 a0, .agg [.int .u64 a1_0, .int .u64 a1_1], .agg [.int .u64 a2_0, .int .u64 a2_1]] [] K = order_total a0 a1_0 a1_1 a2_0 a2_1 (fun y0 => K (EV.int IntKind.i64 y0) []) := by
  have h : evFn E_order_total Tryd.f65 false [.int .u8 a0, .agg [.int .u64 a1_0, .int .u64 a1_1], .agg [.int .u64 a2_0, .int .u64 a2_1]] [] K = order_total.d a0 a1_0 a1_1 a2_0 a2_1 (fun y0 => K (EV.int IntKind.i64 y0) []) := by kernel_rfl
  rw [order_total.is]; exact h
theorem X_order_total.ok : SoundE Tryd.prog gl 65 e_order_total := by
  refine fnOK (E := E_order_total) (fn := Tryd.f65) rfl tys_ok rfl (show AllL _ [(81, e_kind_Sign), (95, e_order_key)] from ⟨X_kind_Sign.ok, X_order_key.ok, trivial⟩) mixed (by kernel_rfl) (by kernel_rfl) (by kernel_rfl) 0 (by kernel_rfl) false trivial ?_
  intro args H
  by_cases hx : ∃ (a0 : Int) (a1_0 : Int) (a1_1 : Int) (a2_0 : Int) (a2_1 : Int), args = [.int .u8 a0, .agg [.int .u64 a1_0, .int .u64 a1_1], .agg [.int .u64 a2_0, .int .u64 a2_1]] ∧ H = []
  · obtain ⟨a0, a1_0, a1_1, a2_0, a2_1, rfl, rfl⟩ := hx
    right; intro K
    exact iff_of_eq (X_order_total.eq a0 a1_0 a1_1 a2_0 a2_1 K).symm
  · left; intro K h
    simp only [e_order_total] at h
    split at h
    · exact hx ⟨_, _, _, _, _, rfl, rfl⟩
    · exact h
noncomputable def e_shape_Precision : Entry := ⟨[none], false, fun args H K => match args, H with
  | [.int .u8 a0], [] => shape_Precision a0 (fun y0 => K (EV.int IntKind.i64 y0) [])
  | _, _ => False⟩
noncomputable def E_shape_Precision : Env := ⟨look tys, look [(88, e_shape_numbers)], look [], gl, lookL [], false⟩
theorem X_shape_Precision.eq (a0 : Int) (K : EV → Heap → Prop) : evFn E_shape_Precision Tryd.f108 false [.int .u8 a0] [] K = shape_Precision a0 (fun y0 => K (EV.int IntKind.i64 y0) []) := by
  have h : evFn E_shape_Precision Tryd.f108 false [.int .u8 a0] [] K = shape_Precision.d a0 (fun y0 => K (EV.int IntKind.i64 y0) []) := by kernel_rfl
  rw [shape_Precision.is]; exact h
theorem X_shape_Precision.ok : SoundE Tryd.prog gl 108 e_shape_Precision := by
  refine fnOK (E := E_shape_Precision) (fn := Tryd.f108) rfl tys_ok rfl (show AllL _ [(88, e_shape_numbers)] from ⟨X_shape_numbers.ok, trivial⟩) mixed (by kernel_rfl) (by kernel_rfl) (by kernel_rfl) 0 (by kernel_rfl) false trivial ?_
  intro args H
  by_cases hx : ∃ (a0 : Int), args = [.int .u8 a0] ∧ H = []
  · obtain ⟨a0, rfl, rfl⟩ := hx
    right; intro K
    exact iff_of_eq (X_shape_Precision.eq a0 K).symm
  · left; intro K h
    simp only [e_shape_Precision] at h
    split at h
    · exact hx ⟨_, rfl, rfl⟩
    · exact h
noncomputable def e_wide_And : Entry := ⟨[none, none], false, fun args H K => match args, H with
  | [.arr .u64 6 a0, .arr .u64 6 a1], [] => wide_And a0 a1 (fun y0 => K (EV.arr IntKind.u64 6 y0) [])
  | _, _ => False⟩
noncomputable def E_wide_And : Env := ⟨look tys, look [], look [(2, wide_And.l2.entry)], gl, lookL [], false⟩
theorem wide_And.l2X.stepEq (R : List EV → Heap → Prop) (K : Ex → List EV → Heap → Prop) (x0 : Int) (x1 : Nat → Int) (x2 : Nat → Int) (x3 : Nat → Int) : loopStep (evCode E_wide_And (loopAt Tryd.f126 0) { (LV.mk 20 [(0, 20)] 16 0 false) with nx := live (.loop (loopAt Tryd.f126 0)) (LV.mk 20 [(0, 20)] 16 0 false) }) (live (.loop (loopAt Tryd.f126 0)) (LV.mk 20 [(0, 20)] 16 0 false)) (LV.mk 20 [(0, 20)] 16 0 false) 0 19 R [EV.ptr 0 [], EV.ptr 1 [], EV.ptr 2 [], EV.int IntKind.i64 x0] [some (EV.arr IntKind.u64 6 x1), some (EV.arr IntKind.u64 6 x2), some (EV.arr IntKind.u64 6 x3)] K = wide_And.l2.step (fun x0 x1 x2 x3 => R [EV.ptr 0 [], EV.ptr 1 [], EV.ptr 2 [], EV.int IntKind.i64 x0] [some (EV.arr IntKind.u64 6 x1), some (EV.arr IntKind.u64 6 x2), some (EV.arr IntKind.u64 6 x3)]) (fun y0 y1 => K (.exit 0) [EV.ptr 0 [], EV.ptr 1 []] [some (EV.arr IntKind.u64 6 y0), some (EV.arr IntKind.u64 6 y1)]) x0 x1 x2 x3 := by kernel_rfl
theorem wide_And.l2X.eq (K : Ex → List EV → Heap → Prop) : ∀ (n : Nat) (x0 : Int) (x1 : Nat → Int) (x2 : Nat → Int) (x3 : Nat → Int), loopE E_wide_And (loopAt Tryd.f126 0) (LV.mk 20 [(0, 20)] 16 0 false) 0 19 K n [EV.ptr 0 [], EV.ptr 1 [], EV.ptr 2 [], EV.int IntKind.i64 x0] [some (EV.arr IntKind.u64 6 x1), some (EV.arr IntKind.u64 6 x2), some (EV.arr IntKind.u64 6 x3)] = wide_And.l2 (fun y0 y1 => K (.exit 0) [EV.ptr 0 [], EV.ptr 1 []] [some (EV.arr IntKind.u64 6 y0), some (EV.arr IntKind.u64 6 y1)]) n x0 x1 x2 x3
  | 0, _, _, _, _ => rfl
  | n + 1, x0, x1, x2, x3 => by
    have ih : (fun (x0 : Int) (x1 : Nat → Int) (x2 : Nat → Int) (x3 : Nat → Int) => loopE E_wide_And (loopAt Tryd.f126 0) (LV.mk 20 [(0, 20)] 16 0 false) 0 19 K n [EV.ptr 0 [], EV.ptr 1 [], EV.ptr 2 [], EV.int IntKind.i64 x0] [some (EV.arr IntKind.u64 6 x1), some (EV.arr IntKind.u64 6 x2), some (EV.arr IntKind.u64 6 x3)]) = wide_And.l2 (fun y0 y1 => K (.exit 0) [EV.ptr 0 [], EV.ptr 1 []] [some (EV.arr IntKind.u64 6 y0), some (EV.arr IntKind.u64 6 y1)]) n := by funext x0 x1 x2 x3; exact wide_And.l2X.eq K n x0 x1 x2 x3
    show loopStep _ _ _ _ _ (loopE E_wide_And (loopAt Tryd.f126 0) (LV.mk 20 [(0, 20)] 16 0 false) 0 19 K n) [EV.ptr 0 [], EV.ptr 1 [], EV.ptr 2 [], EV.int IntKind.i64 x0] [some (EV.arr IntKind.u64 6 x1), some (EV.arr IntKind.u64 6 x2), some (EV.arr IntKind.u64 6 x3)] K = wide_And.l2.step (wide_And.l2 (fun y0 y1 => K (.exit 0) [EV.ptr 0 [], EV.ptr 1 []] [some (EV.arr IntKind.u64 6 y0), some (EV.arr IntKind.u64 6 y1)]) n) (fun y0 y1 => K (.exit 0) [EV.ptr 0 [], EV.ptr 1 []] [some (EV.arr IntKind.u64 6 y0), some (EV.arr IntKind.u64 6 y1)]) x0 x1 x2 x3
    rw [← ih]
    exact wide_And.l2X.stepEq _ K x0 x1 x2 x3
theorem wide_And.l2X.ok : LoopEq E_wide_And (loopAt Tryd.f126 0) := by
  intro L hL vs H
  have h1 : E_wide_And.lp (firstRegion (loopAt Tryd.f126 0)) = some wide_And.l2.entry := by kernel_rfl
  have h2 : L = wide_And.l2.entry := Option.some.inj (hL.symm.trans h1)
  subst h2
  by_cases hx : ∃ (x0 : Int) (x1 : Nat → Int) (x2 : Nat → Int) (x3 : Nat → Int), vs = [EV.ptr 0 [], EV.ptr 1 [], EV.ptr 2 [], EV.int IntKind.i64 x0] ∧ H = [some (EV.arr IntKind.u64 6 x1), some (EV.arr IntKind.u64 6 x2), some (EV.arr IntKind.u64 6 x3)]
  · obtain ⟨x0, x1, x2, x3, rfl, rfl⟩ := hx
    right; intro K
    exact exists_congr fun n => iff_of_eq (wide_And.l2X.eq K n x0 x1 x2 x3).symm
  · left; intro K h
    simp only [wide_And.l2.entry] at h
    split at h
    · exact hx ⟨_, _, _, _, rfl, rfl⟩
    · exact h
theorem X_wide_And.eq (a0 : Nat → Int) (a1 : Nat → Int) (K : EV → Heap → Prop) : evFn E_wide_And Tryd.f126 false [.arr .u64 6 a0, .arr .u64 6 a1] [] K = wide_And a0 a1 (fun y0 => K (EV.arr IntKind.u64 6 y0) []) := by
  have h : evFn E_wide_And Tryd.f126 false [.arr .u64 6 a0, .arr .u64 6 a1] [] K = wide_And.d a0 a1 (fun y0 => K (EV.arr IntKind.u64 6 y0) []) := by kernel_rfl
  rw [wide_And.is]; exact h
theorem X_wide_And.ok : SoundE Tryd.prog gl 126 e_wide_And := by
  refine fnOK (E := E_wide_And) (fn := Tryd.f126) rfl tys_ok rfl (show AllL _ [] from trivial) mixed (by kernel_rfl) (by kernel_rfl) (by kernel_rfl) 1 (by kernel_rfl) false ⟨wide_And.l2X.ok, trivial⟩ ?_
  intro args H
  by_cases hx : ∃ (a0 : Nat → Int) (a1 : Nat → Int), args = [.arr .u64 6 a0, .arr .u64 6 a1] ∧ H = []
  · obtain ⟨a0, a1, rfl, rfl⟩ := hx
    right; intro K
    exact iff_of_eq (X_wide_And.eq a0 a1 K).symm
  · left; intro K h
    simp only [e_wide_And] at h
    split at h
    · exact hx ⟨_, _, rfl, rfl⟩
    · exact h
noncomputable def e_word_count : Entry := ⟨[none], false, fun args H K => match args, H with
  | [.int .i64 a0], [] => word_count a0 (fun y0 => K (EV.int IntKind.u64 y0) [])
  | _, _ => False⟩
noncomputable def E_word_count : Env := ⟨look tys, look [], look [], gl, lookL [], false⟩
theorem X_word_count.eq (a0 : Int) (K : EV → Heap → Prop) : evFn E_word_count Tryd.f92 false [.int .i64 a0] [] K = word_count a0 (fun y0 => K (EV.int IntKind.u64 y0) []) := by
  have h : evFn E_word_count Tryd.f92 false [.int .i64 a0] [] K = word_count.d a0 (fun y0 => K (EV.int IntKind.u64 y0) []) := by kernel_rfl
  rw [word_count.is]; exact h
theorem X_word_count.ok : SoundE Tryd.prog gl 92 e_word_count := by
  refine fnOK (E := E_word_count) (fn := Tryd.f92) rfl tys_ok rfl (show AllL _ [] from trivial) mixed (by kernel_rfl) (by kernel_rfl) (by kernel_rfl) 0 (by kernel_rfl) false trivial ?_
  intro args H
  by_cases hx : ∃ (a0 : Int), args = [.int .i64 a0] ∧ H = []
  · obtain ⟨a0, rfl, rfl⟩ := hx
    right; intro K
    exact iff_of_eq (X_word_count.eq a0 K).symm
  · left; intro K h
    simp only [e_word_count] at h
    split at h
    · exact hx ⟨_, rfl, rfl⟩
    · exact h
noncomputable def e_word_Mask : Entry := ⟨[none], false, fun args H K => match args, H with
  | [.int .i64 a0], [] => word_Mask a0 (fun y0 => K (EV.int IntKind.u64 y0) [])
  | _, _ => False⟩
noncomputable def E_word_Mask : Env := ⟨look tys, look [(92, e_word_count)], look [], gl, lookL [], false⟩
theorem X_word_Mask.eq (a0 : Int) (K : EV → Heap → Prop) : evFn E_word_Mask Tryd.f58 false [.int .i64 a0] [] K = word_Mask a0 (fun y0 => K (EV.int IntKind.u64 y0) []) := by
  have h : evFn E_word_Mask Tryd.f58 false [.int .i64 a0] [] K = word_Mask.d a0 (fun y0 => K (EV.int IntKind.u64 y0) []) := by kernel_rfl
  rw [word_Mask.is]; exact h
theorem X_word_Mask.ok : SoundE Tryd.prog gl 58 e_word_Mask := by
  refine fnOK (E := E_word_Mask) (fn := Tryd.f58) rfl tys_ok rfl (show AllL _ [(92, e_word_count)] from ⟨X_word_count.ok, trivial⟩) mixed (by kernel_rfl) (by kernel_rfl) (by kernel_rfl) 0 (by kernel_rfl) false trivial ?_
  intro args H
  by_cases hx : ∃ (a0 : Int), args = [.int .i64 a0] ∧ H = []
  · obtain ⟨a0, rfl, rfl⟩ := hx
    right; intro K
    exact iff_of_eq (X_word_Mask.eq a0 K).symm
  · left; intro K h
    simp only [e_word_Mask] at h
    split at h
    · exact hx ⟨_, rfl, rfl⟩
    · exact h
noncomputable def e_wide_count : Entry := ⟨[none], false, fun args H K => match args, H with
  | [.int .i64 a0], [] => wide_count a0 (fun y0 => K (EV.int IntKind.i64 y0) [])
  | _, _ => False⟩
noncomputable def E_wide_count : Env := ⟨look tys, look [], look [], gl, lookL [], false⟩
theorem X_wide_count.eq (a0 : Int) (K : EV → Heap → Prop) : evFn E_wide_count Tryd.f147 false [.int .i64 a0] [] K = wide_count a0 (fun y0 => K (EV.int IntKind.i64 y0) []) := by
  have h : evFn E_wide_count Tryd.f147 false [.int .i64 a0] [] K = wide_count.d a0 (fun y0 => K (EV.int IntKind.i64 y0) []) := by kernel_rfl
  rw [wide_count.is]; exact h
theorem X_wide_count.ok : SoundE Tryd.prog gl 147 e_wide_count := by
  refine fnOK (E := E_wide_count) (fn := Tryd.f147) rfl tys_ok rfl (show AllL _ [] from trivial) mixed (by kernel_rfl) (by kernel_rfl) (by kernel_rfl) 0 (by kernel_rfl) false trivial ?_
  intro args H
  by_cases hx : ∃ (a0 : Int), args = [.int .i64 a0] ∧ H = []
  · obtain ⟨a0, rfl, rfl⟩ := hx
    right; intro K
    exact iff_of_eq (X_wide_count.eq a0 K).symm
  · left; intro K h
    simp only [e_wide_count] at h
    split at h
    · exact hx ⟨_, rfl, rfl⟩
    · exact h
noncomputable def e_wide_Mask : Entry := ⟨[none], false, fun args H K => match args, H with
  | [.int .i64 a0], [] => wide_Mask a0 (fun y0 => K (EV.arr IntKind.u64 6 y0) [])
  | _, _ => False⟩
noncomputable def E_wide_Mask : Env := ⟨look tys, look [(58, e_word_Mask), (147, e_wide_count)], look [(4, wide_Mask.l4.entry)], gl, lookL [], false⟩
theorem wide_Mask.l4X.stepEq (R : List EV → Heap → Prop) (K : Ex → List EV → Heap → Prop) (x0 : Int) (x1 : Int) (x2 : Nat → Int) (x3 : Nat → Int) : loopStep (evCode E_wide_Mask (loopAt Tryd.f127 0) { (LV.mk 12 [(0, 12)] 4 0 false) with nx := live (.loop (loopAt Tryd.f127 0)) (LV.mk 12 [(0, 12)] 4 0 false) }) (live (.loop (loopAt Tryd.f127 0)) (LV.mk 12 [(0, 12)] 4 0 false)) (LV.mk 12 [(0, 12)] 4 0 false) 0 19 R [EV.int IntKind.i64 x0, EV.ptr 0 [], EV.ptr 1 [], EV.int IntKind.i64 x1] [some (EV.arr IntKind.u64 6 x2), some (EV.arr IntKind.u64 6 x3)] K = wide_Mask.l4.step (fun x0 x1 x2 x3 => R [EV.int IntKind.i64 x0, EV.ptr 0 [], EV.ptr 1 [], EV.int IntKind.i64 x1] [some (EV.arr IntKind.u64 6 x2), some (EV.arr IntKind.u64 6 x3)]) (fun y0 y1 => K (.exit 0) [EV.ptr 0 [], EV.ptr 1 []] [some (EV.arr IntKind.u64 6 y0), some (EV.arr IntKind.u64 6 y1)]) x0 x1 x2 x3 := by kernel_rfl
theorem wide_Mask.l4X.eq (K : Ex → List EV → Heap → Prop) : ∀ (n : Nat) (x0 : Int) (x1 : Int) (x2 : Nat → Int) (x3 : Nat → Int), loopE E_wide_Mask (loopAt Tryd.f127 0) (LV.mk 12 [(0, 12)] 4 0 false) 0 19 K n [EV.int IntKind.i64 x0, EV.ptr 0 [], EV.ptr 1 [], EV.int IntKind.i64 x1] [some (EV.arr IntKind.u64 6 x2), some (EV.arr IntKind.u64 6 x3)] = wide_Mask.l4 (fun y0 y1 => K (.exit 0) [EV.ptr 0 [], EV.ptr 1 []] [some (EV.arr IntKind.u64 6 y0), some (EV.arr IntKind.u64 6 y1)]) n x0 x1 x2 x3
  | 0, _, _, _, _ => rfl
  | n + 1, x0, x1, x2, x3 => by
    have ih : (fun (x0 : Int) (x1 : Int) (x2 : Nat → Int) (x3 : Nat → Int) => loopE E_wide_Mask (loopAt Tryd.f127 0) (LV.mk 12 [(0, 12)] 4 0 false) 0 19 K n [EV.int IntKind.i64 x0, EV.ptr 0 [], EV.ptr 1 [], EV.int IntKind.i64 x1] [some (EV.arr IntKind.u64 6 x2), some (EV.arr IntKind.u64 6 x3)]) = wide_Mask.l4 (fun y0 y1 => K (.exit 0) [EV.ptr 0 [], EV.ptr 1 []] [some (EV.arr IntKind.u64 6 y0), some (EV.arr IntKind.u64 6 y1)]) n := by funext x0 x1 x2 x3; exact wide_Mask.l4X.eq K n x0 x1 x2 x3
    show loopStep _ _ _ _ _ (loopE E_wide_Mask (loopAt Tryd.f127 0) (LV.mk 12 [(0, 12)] 4 0 false) 0 19 K n) [EV.int IntKind.i64 x0, EV.ptr 0 [], EV.ptr 1 [], EV.int IntKind.i64 x1] [some (EV.arr IntKind.u64 6 x2), some (EV.arr IntKind.u64 6 x3)] K = wide_Mask.l4.step (wide_Mask.l4 (fun y0 y1 => K (.exit 0) [EV.ptr 0 [], EV.ptr 1 []] [some (EV.arr IntKind.u64 6 y0), some (EV.arr IntKind.u64 6 y1)]) n) (fun y0 y1 => K (.exit 0) [EV.ptr 0 [], EV.ptr 1 []] [some (EV.arr IntKind.u64 6 y0), some (EV.arr IntKind.u64 6 y1)]) x0 x1 x2 x3
    rw [← ih]
    exact wide_Mask.l4X.stepEq _ K x0 x1 x2 x3
theorem wide_Mask.l4X.ok : LoopEq E_wide_Mask (loopAt Tryd.f127 0) := by
  intro L hL vs H
  have h1 : E_wide_Mask.lp (firstRegion (loopAt Tryd.f127 0)) = some wide_Mask.l4.entry := by kernel_rfl
  have h2 : L = wide_Mask.l4.entry := Option.some.inj (hL.symm.trans h1)
  subst h2
  by_cases hx : ∃ (x0 : Int) (x1 : Int) (x2 : Nat → Int) (x3 : Nat → Int), vs = [EV.int IntKind.i64 x0, EV.ptr 0 [], EV.ptr 1 [], EV.int IntKind.i64 x1] ∧ H = [some (EV.arr IntKind.u64 6 x2), some (EV.arr IntKind.u64 6 x3)]
  · obtain ⟨x0, x1, x2, x3, rfl, rfl⟩ := hx
    right; intro K
    exact exists_congr fun n => iff_of_eq (wide_Mask.l4X.eq K n x0 x1 x2 x3).symm
  · left; intro K h
    simp only [wide_Mask.l4.entry] at h
    split at h
    · exact hx ⟨_, _, _, _, rfl, rfl⟩
    · exact h
theorem X_wide_Mask.eq (a0 : Int) (K : EV → Heap → Prop) : evFn E_wide_Mask Tryd.f127 false [.int .i64 a0] [] K = wide_Mask a0 (fun y0 => K (EV.arr IntKind.u64 6 y0) []) := by
  have h : evFn E_wide_Mask Tryd.f127 false [.int .i64 a0] [] K = wide_Mask.d a0 (fun y0 => K (EV.arr IntKind.u64 6 y0) []) := by kernel_rfl
  rw [wide_Mask.is]; exact h
theorem X_wide_Mask.ok : SoundE Tryd.prog gl 127 e_wide_Mask := by
  refine fnOK (E := E_wide_Mask) (fn := Tryd.f127) rfl tys_ok rfl (show AllL _ [(58, e_word_Mask), (147, e_wide_count)] from ⟨X_word_Mask.ok, X_wide_count.ok, trivial⟩) mixed (by kernel_rfl) (by kernel_rfl) (by kernel_rfl) 1 (by kernel_rfl) false ⟨wide_Mask.l4X.ok, trivial⟩ ?_
  intro args H
  by_cases hx : ∃ (a0 : Int), args = [.int .i64 a0] ∧ H = []
  · obtain ⟨a0, rfl, rfl⟩ := hx
    right; intro K
    exact iff_of_eq (X_wide_Mask.eq a0 K).symm
  · left; intro K h
    simp only [e_wide_Mask] at h
    split at h
    · exact hx ⟨_, rfl, rfl⟩
    · exact h
noncomputable def e_bits_TrailingZeros64 : Entry := ⟨[none], false, fun args H K => match args, H with
  | [.int .u64 a0], [] => bits_TrailingZeros64 a0 (fun y0 => K (EV.int IntKind.i64 y0) [])
  | _, _ => False⟩
noncomputable def E_bits_TrailingZeros64 : Env := ⟨look tys, look [], look [], gl, lookL [], false⟩
theorem X_bits_TrailingZeros64.eq (a0 : Int) (K : EV → Heap → Prop) : evFn E_bits_TrailingZeros64 Tryd.f156 false [.int .u64 a0] [] K = bits_TrailingZeros64 a0 (fun y0 => K (EV.int IntKind.i64 y0) []) := by
  have h : evFn E_bits_TrailingZeros64 Tryd.f156 false [.int .u64 a0] [] K = bits_TrailingZeros64.d a0 (fun y0 => K (EV.int IntKind.i64 y0) []) := by kernel_rfl
  rw [bits_TrailingZeros64.is]; exact h
theorem X_bits_TrailingZeros64.ok : SoundE Tryd.prog gl 156 e_bits_TrailingZeros64 := by
  refine fnOK (E := E_bits_TrailingZeros64) (fn := Tryd.f156) rfl tys_ok rfl (show AllL _ [] from trivial) mixed (by kernel_rfl) (by kernel_rfl) (by kernel_rfl) 0 (by kernel_rfl) false trivial ?_
  intro args H
  by_cases hx : ∃ (a0 : Int), args = [.int .u64 a0] ∧ H = []
  · obtain ⟨a0, rfl, rfl⟩ := hx
    right; intro K
    exact iff_of_eq (X_bits_TrailingZeros64.eq a0 K).symm
  · left; intro K h
    simp only [e_bits_TrailingZeros64] at h
    split at h
    · exact hx ⟨_, rfl, rfl⟩
    · exact h
noncomputable def e_word_Low : Entry := ⟨[none], false, fun args H K => match args, H with
  | [.int .u64 a0], [] => word_Low a0 (fun y0 => K (EV.int IntKind.i64 y0) [])
  | _, _ => False⟩
noncomputable def E_word_Low : Env := ⟨look tys, look [(156, e_bits_TrailingZeros64)], look [], gl, lookL [], false⟩
theorem X_word_Low.eq (a0 : Int) (K : EV → Heap → Prop) : evFn E_word_Low Tryd.f154 false [.int .u64 a0] [] K = word_Low a0 (fun y0 => K (EV.int IntKind.i64 y0) []) := by
  have h : evFn E_word_Low Tryd.f154 false [.int .u64 a0] [] K = word_Low.d a0 (fun y0 => K (EV.int IntKind.i64 y0) []) := by kernel_rfl
  rw [word_Low.is]; exact h
theorem X_word_Low.ok : SoundE Tryd.prog gl 154 e_word_Low := by
  refine fnOK (E := E_word_Low) (fn := Tryd.f154) rfl tys_ok rfl (show AllL _ [(156, e_bits_TrailingZeros64)] from ⟨X_bits_TrailingZeros64.ok, trivial⟩) mixed (by kernel_rfl) (by kernel_rfl) (by kernel_rfl) 0 (by kernel_rfl) false trivial ?_
  intro args H
  by_cases hx : ∃ (a0 : Int), args = [.int .u64 a0] ∧ H = []
  · obtain ⟨a0, rfl, rfl⟩ := hx
    right; intro K
    exact iff_of_eq (X_word_Low.eq a0 K).symm
  · left; intro K h
    simp only [e_word_Low] at h
    split at h
    · exact hx ⟨_, rfl, rfl⟩
    · exact h
noncomputable def e_wide_Low : Entry := ⟨[none], false, fun args H K => match args, H with
  | [.arr .u64 6 a0], [] => wide_Low a0 (fun y0 => K (EV.int IntKind.i64 y0) [])
  | _, _ => False⟩
noncomputable def E_wide_Low : Env := ⟨look tys, look [(154, e_word_Low)], look [(2, wide_Low.l2.entry)], gl, lookL [], false⟩
theorem wide_Low.l2X.stepEq (R : List EV → Heap → Prop) (K : Ex → List EV → Heap → Prop) (x0 : Nat → Int) (x1 : Int) : loopStep (evCode E_wide_Low (loopAt Tryd.f148 0) { (LV.mk 0 [(0, 0)] 4 0 false) with nx := live (.loop (loopAt Tryd.f148 0)) (LV.mk 0 [(0, 0)] 4 0 false) }) (live (.loop (loopAt Tryd.f148 0)) (LV.mk 0 [(0, 0)] 4 0 false)) (LV.mk 0 [(0, 0)] 4 0 false) 0 18 R [EV.arr IntKind.u64 6 x0, EV.int IntKind.i64 x1] [] K = wide_Low.l2.step (fun x0 x1 => R [EV.arr IntKind.u64 6 x0, EV.int IntKind.i64 x1] []) (fun y0 => K .ret [EV.int IntKind.i64 y0] []) (K (.exit 0) [] []) x0 x1 := by kernel_rfl
theorem wide_Low.l2X.eq (K : Ex → List EV → Heap → Prop) : ∀ (n : Nat) (x0 : Nat → Int) (x1 : Int), loopE E_wide_Low (loopAt Tryd.f148 0) (LV.mk 0 [(0, 0)] 4 0 false) 0 18 K n [EV.arr IntKind.u64 6 x0, EV.int IntKind.i64 x1] [] = wide_Low.l2 (fun y0 => K .ret [EV.int IntKind.i64 y0] []) (K (.exit 0) [] []) n x0 x1
  | 0, _, _ => rfl
  | n + 1, x0, x1 => by
    have ih : (fun (x0 : Nat → Int) (x1 : Int) => loopE E_wide_Low (loopAt Tryd.f148 0) (LV.mk 0 [(0, 0)] 4 0 false) 0 18 K n [EV.arr IntKind.u64 6 x0, EV.int IntKind.i64 x1] []) = wide_Low.l2 (fun y0 => K .ret [EV.int IntKind.i64 y0] []) (K (.exit 0) [] []) n := by funext x0 x1; exact wide_Low.l2X.eq K n x0 x1
    show loopStep _ _ _ _ _ (loopE E_wide_Low (loopAt Tryd.f148 0) (LV.mk 0 [(0, 0)] 4 0 false) 0 18 K n) [EV.arr IntKind.u64 6 x0, EV.int IntKind.i64 x1] [] K = wide_Low.l2.step (wide_Low.l2 (fun y0 => K .ret [EV.int IntKind.i64 y0] []) (K (.exit 0) [] []) n) (fun y0 => K .ret [EV.int IntKind.i64 y0] []) (K (.exit 0) [] []) x0 x1
    rw [← ih]
    exact wide_Low.l2X.stepEq _ K x0 x1
theorem wide_Low.l2X.ok : LoopEq E_wide_Low (loopAt Tryd.f148 0) := by
  intro L hL vs H
  have h1 : E_wide_Low.lp (firstRegion (loopAt Tryd.f148 0)) = some wide_Low.l2.entry := by kernel_rfl
  have h2 : L = wide_Low.l2.entry := Option.some.inj (hL.symm.trans h1)
  subst h2
  by_cases hx : ∃ (x0 : Nat → Int) (x1 : Int), vs = [EV.arr IntKind.u64 6 x0, EV.int IntKind.i64 x1] ∧ H = []
  · obtain ⟨x0, x1, rfl, rfl⟩ := hx
    right; intro K
    exact exists_congr fun n => iff_of_eq (wide_Low.l2X.eq K n x0 x1).symm
  · left; intro K h
    simp only [wide_Low.l2.entry] at h
    split at h
    · exact hx ⟨_, _, rfl, rfl⟩
    · exact h
theorem X_wide_Low.eq (a0 : Nat → Int) (K : EV → Heap → Prop) : evFn E_wide_Low Tryd.f148 false [.arr .u64 6 a0] [] K = wide_Low a0 (fun y0 => K (EV.int IntKind.i64 y0) []) := by
  have h : evFn E_wide_Low Tryd.f148 false [.arr .u64 6 a0] [] K = wide_Low.d a0 (fun y0 => K (EV.int IntKind.i64 y0) []) := by kernel_rfl
  rw [wide_Low.is]; exact h
theorem X_wide_Low.ok : SoundE Tryd.prog gl 148 e_wide_Low := by
  refine fnOK (E := E_wide_Low) (fn := Tryd.f148) rfl tys_ok rfl (show AllL _ [(154, e_word_Low)] from ⟨X_word_Low.ok, trivial⟩) mixed (by kernel_rfl) (by kernel_rfl) (by kernel_rfl) 1 (by kernel_rfl) false ⟨wide_Low.l2X.ok, trivial⟩ ?_
  intro args H
  by_cases hx : ∃ (a0 : Nat → Int), args = [.arr .u64 6 a0] ∧ H = []
  · obtain ⟨a0, rfl, rfl⟩ := hx
    right; intro K
    exact iff_of_eq (X_wide_Low.eq a0 K).symm
  · left; intro K h
    simp only [e_wide_Low] at h
    split at h
    · exact hx ⟨_, rfl, rfl⟩
    · exact h
noncomputable def e_wide_Right : Entry := ⟨[none, none], false, fun args H K => match args, H with
  | [.arr .u64 6 a0, .int .i64 a1], [] => wide_Right a0 a1 (fun y0 y1 => K (EV.tuple [EV.arr IntKind.u64 6 y0, EV.bool y1]) [])
  | _, _ => False⟩
noncomputable def E_wide_Right : Env := ⟨look tys, look [(147, e_wide_count), (148, e_wide_Low)], look [(5, wide_Right.l5.entry)], gl, lookL [], false⟩
theorem wide_Right.l5X.stepEq (R : List EV → Heap → Prop) (K : Ex → List EV → Heap → Prop) (x0 : Bool) (x1 : Int) (x2 : Int) (x3 : Int) (x4 : Nat → Int) (x5 : Nat → Int) : loopStep (evCode E_wide_Right (loopAt Tryd.f128 0) { (LV.mk 48 [(0, 48)] 48 0 false) with nx := live (.loop (loopAt Tryd.f128 0)) (LV.mk 48 [(0, 48)] 48 0 false) }) (live (.loop (loopAt Tryd.f128 0)) (LV.mk 48 [(0, 48)] 48 0 false)) (LV.mk 48 [(0, 48)] 48 0 false) 0 60 R [EV.ptr 0 [], EV.ptr 1 [], EV.bool x0, EV.int IntKind.i64 x1, EV.int IntKind.u64 x2, EV.int IntKind.i64 x3] [some (EV.arr IntKind.u64 6 x4), some (EV.arr IntKind.u64 6 x5)] K = wide_Right.l5.step (fun x0 x1 x2 x3 x4 x5 => R [EV.ptr 0 [], EV.ptr 1 [], EV.bool x0, EV.int IntKind.i64 x1, EV.int IntKind.u64 x2, EV.int IntKind.i64 x3] [some (EV.arr IntKind.u64 6 x4), some (EV.arr IntKind.u64 6 x5)]) (fun y0 y1 => K (.exit 0) [EV.ptr 0 [], EV.bool y0] [some (EV.arr IntKind.u64 6 y1)]) x0 x1 x2 x3 x4 x5 := by kernel_rfl
theorem wide_Right.l5X.eq (K : Ex → List EV → Heap → Prop) : ∀ (n : Nat) (x0 : Bool) (x1 : Int) (x2 : Int) (x3 : Int) (x4 : Nat → Int) (x5 : Nat → Int), loopE E_wide_Right (loopAt Tryd.f128 0) (LV.mk 48 [(0, 48)] 48 0 false) 0 60 K n [EV.ptr 0 [], EV.ptr 1 [], EV.bool x0, EV.int IntKind.i64 x1, EV.int IntKind.u64 x2, EV.int IntKind.i64 x3] [some (EV.arr IntKind.u64 6 x4), some (EV.arr IntKind.u64 6 x5)] = wide_Right.l5 (fun y0 y1 => K (.exit 0) [EV.ptr 0 [], EV.bool y0] [some (EV.arr IntKind.u64 6 y1)]) n x0 x1 x2 x3 x4 x5
  | 0, _, _, _, _, _, _ => rfl
  | n + 1, x0, x1, x2, x3, x4, x5 => by
    have ih : (fun (x0 : Bool) (x1 : Int) (x2 : Int) (x3 : Int) (x4 : Nat → Int) (x5 : Nat → Int) => loopE E_wide_Right (loopAt Tryd.f128 0) (LV.mk 48 [(0, 48)] 48 0 false) 0 60 K n [EV.ptr 0 [], EV.ptr 1 [], EV.bool x0, EV.int IntKind.i64 x1, EV.int IntKind.u64 x2, EV.int IntKind.i64 x3] [some (EV.arr IntKind.u64 6 x4), some (EV.arr IntKind.u64 6 x5)]) = wide_Right.l5 (fun y0 y1 => K (.exit 0) [EV.ptr 0 [], EV.bool y0] [some (EV.arr IntKind.u64 6 y1)]) n := by funext x0 x1 x2 x3 x4 x5; exact wide_Right.l5X.eq K n x0 x1 x2 x3 x4 x5
    show loopStep _ _ _ _ _ (loopE E_wide_Right (loopAt Tryd.f128 0) (LV.mk 48 [(0, 48)] 48 0 false) 0 60 K n) [EV.ptr 0 [], EV.ptr 1 [], EV.bool x0, EV.int IntKind.i64 x1, EV.int IntKind.u64 x2, EV.int IntKind.i64 x3] [some (EV.arr IntKind.u64 6 x4), some (EV.arr IntKind.u64 6 x5)] K = wide_Right.l5.step (wide_Right.l5 (fun y0 y1 => K (.exit 0) [EV.ptr 0 [], EV.bool y0] [some (EV.arr IntKind.u64 6 y1)]) n) (fun y0 y1 => K (.exit 0) [EV.ptr 0 [], EV.bool y0] [some (EV.arr IntKind.u64 6 y1)]) x0 x1 x2 x3 x4 x5
    rw [← ih]
    exact wide_Right.l5X.stepEq _ K x0 x1 x2 x3 x4 x5
theorem wide_Right.l5X.ok : LoopEq E_wide_Right (loopAt Tryd.f128 0) := by
  intro L hL vs H
  have h1 : E_wide_Right.lp (firstRegion (loopAt Tryd.f128 0)) = some wide_Right.l5.entry := by kernel_rfl
  have h2 : L = wide_Right.l5.entry := Option.some.inj (hL.symm.trans h1)
  subst h2
  by_cases hx : ∃ (x0 : Bool) (x1 : Int) (x2 : Int) (x3 : Int) (x4 : Nat → Int) (x5 : Nat → Int), vs = [EV.ptr 0 [], EV.ptr 1 [], EV.bool x0, EV.int IntKind.i64 x1, EV.int IntKind.u64 x2, EV.int IntKind.i64 x3] ∧ H = [some (EV.arr IntKind.u64 6 x4), some (EV.arr IntKind.u64 6 x5)]
  · obtain ⟨x0, x1, x2, x3, x4, x5, rfl, rfl⟩ := hx
    right; intro K
    exact exists_congr fun n => iff_of_eq (wide_Right.l5X.eq K n x0 x1 x2 x3 x4 x5).symm
  · left; intro K h
    simp only [wide_Right.l5.entry] at h
    split at h
    · exact hx ⟨_, _, _, _, _, _, rfl, rfl⟩
    · exact h
theorem X_wide_Right.eq (a0 : Nat → Int) (a1 : Int) (K : EV → Heap → Prop) : evFn E_wide_Right Tryd.f128 false [.arr .u64 6 a0, .int .i64 a1] [] K = wide_Right a0 a1 (fun y0 y1 => K (EV.tuple [EV.arr IntKind.u64 6 y0, EV.bool y1]) []) := by
  have h : evFn E_wide_Right Tryd.f128 false [.arr .u64 6 a0, .int .i64 a1] [] K = wide_Right.d a0 a1 (fun y0 y1 => K (EV.tuple [EV.arr IntKind.u64 6 y0, EV.bool y1]) []) := by kernel_rfl
  rw [wide_Right.is]; exact h
theorem X_wide_Right.ok : SoundE Tryd.prog gl 128 e_wide_Right := by
  refine fnOK (E := E_wide_Right) (fn := Tryd.f128) rfl tys_ok rfl (show AllL _ [(147, e_wide_count), (148, e_wide_Low)] from ⟨X_wide_count.ok, X_wide_Low.ok, trivial⟩) mixed (by kernel_rfl) (by kernel_rfl) (by kernel_rfl) 1 (by kernel_rfl) false ⟨wide_Right.l5X.ok, trivial⟩ ?_
  intro args H
  by_cases hx : ∃ (a0 : Nat → Int) (a1 : Int), args = [.arr .u64 6 a0, .int .i64 a1] ∧ H = []
  · obtain ⟨a0, a1, rfl, rfl⟩ := hx
    right; intro K
    exact iff_of_eq (X_wide_Right.eq a0 a1 K).symm
  · left; intro K h
    simp only [e_wide_Right] at h
    split at h
    · exact hx ⟨_, _, rfl, rfl⟩
    · exact h
noncomputable def e_kind_fields : Entry := ⟨[none, none], false, fun args H K => match args, H with
  | [.int .u8 a0, .agg [.int .u64 a1_0, .int .u64 a1_1]], [] => kind_fields a0 a1_0 a1_1 (fun y0 y1 y2 => K (EV.tuple [EV.bool y0, EV.int IntKind.i64 y1, EV.arr IntKind.u64 6 y2]) [])
  | _, _ => False⟩
noncomputable def E_kind_fields : Env := ⟨look tys, look [(55, e_shape_Width), (107, e_wide_Bit), (108, e_shape_Precision), (111, e_wide_OfBits), (126, e_wide_And), (127, e_wide_Mask), (128, e_wide_Right)], look [], gl, lookL [], false⟩
theorem X_kind_fields.eq (a0 : Int) (a1_0 : Int) (a1_1 : Int) (K : EV → Heap → Prop) : evFn E_kind_fields Tryd.f105 false [.int .u8 a0, .agg [.int .u64 a1_0, .int .u64 a1_1]] [] K = kind_fields a0 a1_0 a1_1 (fun y0 y1 y2 => K (EV.tuple [EV.bool y0, EV.int IntKind.i64 y1, EV.arr IntKind.u64 6 y2]) []) := by
  have h : evFn E_kind_fields Tryd.f105 false [.int .u8 a0, .agg [.int .u64 a1_0, .int .u64 a1_1]] [] K = kind_fields.d a0 a1_0 a1_1 (fun y0 y1 y2 => K (EV.tuple [EV.bool y0, EV.int IntKind.i64 y1, EV.arr IntKind.u64 6 y2]) []) := by kernel_rfl
  rw [kind_fields.is]; exact h
theorem X_kind_fields.ok : SoundE Tryd.prog gl 105 e_kind_fields := by
  refine fnOK (E := E_kind_fields) (fn := Tryd.f105) rfl tys_ok rfl (show AllL _ [(55, e_shape_Width), (107, e_wide_Bit), (108, e_shape_Precision), (111, e_wide_OfBits), (126, e_wide_And), (127, e_wide_Mask), (128, e_wide_Right)] from ⟨X_shape_Width.ok, X_wide_Bit.ok, X_shape_Precision.ok, X_wide_OfBits.ok, X_wide_And.ok, X_wide_Mask.ok, X_wide_Right.ok, trivial⟩) mixed (by kernel_rfl) (by kernel_rfl) (by kernel_rfl) 0 (by kernel_rfl) false trivial ?_
  intro args H
  by_cases hx : ∃ (a0 : Int) (a1_0 : Int) (a1_1 : Int), args = [.int .u8 a0, .agg [.int .u64 a1_0, .int .u64 a1_1]] ∧ H = []
  · obtain ⟨a0, a1_0, a1_1, rfl, rfl⟩ := hx
    right; intro K
    exact iff_of_eq (X_kind_fields.eq a0 a1_0 a1_1 K).symm
  · left; intro K h
    simp only [e_kind_fields] at h
    split at h
    · exact hx ⟨_, _, _, rfl, rfl⟩
    · exact h
noncomputable def e_shape_Emax : Entry := ⟨[none], false, fun args H K => match args, H with
  | [.int .u8 a0], [] => shape_Emax a0 (fun y0 => K (EV.int IntKind.i64 y0) [])
  | _, _ => False⟩
noncomputable def E_shape_Emax : Env := ⟨look tys, look [(88, e_shape_numbers)], look [], gl, lookL [], false⟩
theorem X_shape_Emax.eq (a0 : Int) (K : EV → Heap → Prop) : evFn E_shape_Emax Tryd.f106 false [.int .u8 a0] [] K = shape_Emax a0 (fun y0 => K (EV.int IntKind.i64 y0) []) := by
  have h : evFn E_shape_Emax Tryd.f106 false [.int .u8 a0] [] K = shape_Emax.d a0 (fun y0 => K (EV.int IntKind.i64 y0) []) := by kernel_rfl
  rw [shape_Emax.is]; exact h
theorem X_shape_Emax.ok : SoundE Tryd.prog gl 106 e_shape_Emax := by
  refine fnOK (E := E_shape_Emax) (fn := Tryd.f106) rfl tys_ok rfl (show AllL _ [(88, e_shape_numbers)] from ⟨X_shape_numbers.ok, trivial⟩) mixed (by kernel_rfl) (by kernel_rfl) (by kernel_rfl) 0 (by kernel_rfl) false trivial ?_
  intro args H
  by_cases hx : ∃ (a0 : Int), args = [.int .u8 a0] ∧ H = []
  · obtain ⟨a0, rfl, rfl⟩ := hx
    right; intro K
    exact iff_of_eq (X_shape_Emax.eq a0 K).symm
  · left; intro K h
    simp only [e_shape_Emax] at h
    split at h
    · exact hx ⟨_, rfl, rfl⟩
    · exact h
noncomputable def e_kind_class : Entry := ⟨[none, none], false, fun args H K => match args, H with
  | [.int .u8 a0, .agg [.int .u64 a1_0, .int .u64 a1_1]], [] => kind_class a0 a1_0 a1_1 (fun y0 => K (EV.int IntKind.u8 y0) [])
  | _, _ => False⟩
noncomputable def E_kind_class : Env := ⟨look tys, look [(105, e_kind_fields), (106, e_shape_Emax), (107, e_wide_Bit), (108, e_shape_Precision)], look [], gl, lookL [], false⟩
theorem X_kind_class.eq (a0 : Int) (a1_0 : Int) (a1_1 : Int) (K : EV → Heap → Prop) : evFn E_kind_class Tryd.f75 false [.int .u8 a0, .agg [.int .u64 a1_0, .int .u64 a1_1]] [] K = kind_class a0 a1_0 a1_1 (fun y0 => K (EV.int IntKind.u8 y0) []) := by
  have h : evFn E_kind_class Tryd.f75 false [.int .u8 a0, .agg [.int .u64 a1_0, .int .u64 a1_1]] [] K = kind_class.d a0 a1_0 a1_1 (fun y0 => K (EV.int IntKind.u8 y0) []) := by kernel_rfl
  rw [kind_class.is]; exact h
theorem X_kind_class.ok : SoundE Tryd.prog gl 75 e_kind_class := by
  refine fnOK (E := E_kind_class) (fn := Tryd.f75) rfl tys_ok rfl (show AllL _ [(105, e_kind_fields), (106, e_shape_Emax), (107, e_wide_Bit), (108, e_shape_Precision)] from ⟨X_kind_fields.ok, X_shape_Emax.ok, X_wide_Bit.ok, X_shape_Precision.ok, trivial⟩) mixed (by kernel_rfl) (by kernel_rfl) (by kernel_rfl) 0 (by kernel_rfl) false trivial ?_
  intro args H
  by_cases hx : ∃ (a0 : Int) (a1_0 : Int) (a1_1 : Int), args = [.int .u8 a0, .agg [.int .u64 a1_0, .int .u64 a1_1]] ∧ H = []
  · obtain ⟨a0, a1_0, a1_1, rfl, rfl⟩ := hx
    right; intro K
    exact iff_of_eq (X_kind_class.eq a0 a1_0 a1_1 K).symm
  · left; intro K h
    simp only [e_kind_class] at h
    split at h
    · exact hx ⟨_, _, _, rfl, rfl⟩
    · exact h
noncomputable def e_kind_Class : Entry := ⟨[none, none], false, fun args H K => match args, H with
  | [.int .u8 a0, .agg [.int .u64 a1_0, .int .u64 a1_1]], [] => kind_Class a0 a1_0 a1_1 (fun y0 y1 => K (EV.tuple [EV.int IntKind.u8 y0, EV.int IntKind.i64 y1]) [])
  | _, _ => False⟩
noncomputable def E_kind_Class : Env := ⟨look tys, look [(53, e_shape_Fits), (75, e_kind_class)], look [], gl, lookL [], false⟩
theorem X_kind_Class.eq (a0 : Int) (a1_0 : Int) (a1_1 : Int) (K : EV → Heap → Prop) : evFn E_kind_Class Tryd.f38 false [.int .u8 a0, .agg [.int .u64 a1_0, .int .u64 a1_1]] [] K = kind_Class a0 a1_0 a1_1 (fun y0 y1 => K (EV.tuple [EV.int IntKind.u8 y0, EV.int IntKind.i64 y1]) []) := by
  have h : evFn E_kind_Class Tryd.f38 false [.int .u8 a0, .agg [.int .u64 a1_0, .int .u64 a1_1]] [] K = kind_Class.d a0 a1_0 a1_1 (fun y0 y1 => K (EV.tuple [EV.int IntKind.u8 y0, EV.int IntKind.i64 y1]) []) := by kernel_rfl
  rw [kind_Class.is]; exact h
theorem X_kind_Class.ok : SoundE Tryd.prog gl 38 e_kind_Class := by
  refine fnOK (E := E_kind_Class) (fn := Tryd.f38) rfl tys_ok rfl (show AllL _ [(53, e_shape_Fits), (75, e_kind_class)] from ⟨X_shape_Fits.ok, X_kind_class.ok, trivial⟩) mixed (by kernel_rfl) (by kernel_rfl) (by kernel_rfl) 0 (by kernel_rfl) false trivial ?_
  intro args H
  by_cases hx : ∃ (a0 : Int) (a1_0 : Int) (a1_1 : Int), args = [.int .u8 a0, .agg [.int .u64 a1_0, .int .u64 a1_1]] ∧ H = []
  · obtain ⟨a0, a1_0, a1_1, rfl, rfl⟩ := hx
    right; intro K
    exact iff_of_eq (X_kind_Class.eq a0 a1_0 a1_1 K).symm
  · left; intro K h
    simp only [e_kind_Class] at h
    split at h
    · exact hx ⟨_, _, _, rfl, rfl⟩
    · exact h
noncomputable def e_order_nan : Entry := ⟨[none, none], false, fun args H K => match args, H with
  | [.int .u8 a0, .agg [.int .u64 a1_0, .int .u64 a1_1]], [] => order_nan a0 a1_0 a1_1 (fun y0 => K (EV.bool y0) [])
  | _, _ => False⟩
noncomputable def E_order_nan : Env := ⟨look tys, look [(38, e_kind_Class)], look [], gl, lookL [], false⟩
theorem X_order_nan.eq (a0 : Int) (a1_0 : Int) (a1_1 : Int) (K : EV → Heap → Prop) : evFn E_order_nan Tryd.f66 false [.int .u8 a0, .agg [.int .u64 a1_0, .int .u64 a1_1]] [] K = order_nan a0 a1_0 a1_1 (fun y0 => K (EV.bool y0) []) := by
  have h : evFn E_order_nan Tryd.f66 false [.int .u8 a0, .agg [.int .u64 a1_0, .int .u64 a1_1]] [] K = order_nan.d a0 a1_0 a1_1 (fun y0 => K (EV.bool y0) []) := by kernel_rfl
  rw [order_nan.is]; exact h
theorem X_order_nan.ok : SoundE Tryd.prog gl 66 e_order_nan := by
  refine fnOK (E := E_order_nan) (fn := Tryd.f66) rfl tys_ok rfl (show AllL _ [(38, e_kind_Class)] from ⟨X_kind_Class.ok, trivial⟩) mixed (by kernel_rfl) (by kernel_rfl) (by kernel_rfl) 0 (by kernel_rfl) false trivial ?_
  intro args H
  by_cases hx : ∃ (a0 : Int) (a1_0 : Int) (a1_1 : Int), args = [.int .u8 a0, .agg [.int .u64 a1_0, .int .u64 a1_1]] ∧ H = []
  · obtain ⟨a0, a1_0, a1_1, rfl, rfl⟩ := hx
    right; intro K
    exact iff_of_eq (X_order_nan.eq a0 a1_0 a1_1 K).symm
  · left; intro K h
    simp only [e_order_nan] at h
    split at h
    · exact hx ⟨_, _, _, rfl, rfl⟩
    · exact h
noncomputable def e_order_Compare : Entry := ⟨[none, none, none], false, fun args H K => match args, H with
  | [.int .u8 a0, .agg [.int .u64 a1_0, .int .u64 a1_1], .agg [.int .u64 a2_0, .int .u64 a2_1]], [] => order_Compare a0 a1_0 a1_1 a2_0 a2_1 (fun y0 y1 => K (EV.tuple [EV.int IntKind.u8 y0, EV.int IntKind.i64 y1]) [])
  | _, _ => False⟩
noncomputable def E_order_Compare : Env := ⟨look tys, look [(63, e_shape_Zero), (64, e_order_fits), (65, e_order_total), (66, e_order_nan)], look [], gl, lookL [], false⟩
theorem X_order_Compare.eq (a0 : Int) (a1_0 : Int) (a1_1 : Int) (a2_0 : Int) (a2_1 : Int) (K : EV → Heap → Prop) : evFn E_order_Compare Tryd.f27 false [.int .u8 a0, .agg [.int .u64 a1_0, .int .u64 a1_1], .agg [.int .u64 a2_0, .int .u64 a2_1]] [] K = order_Compare a0 a1_0 a1_1 a2_0 a2_1 (fun y0 y1 => K (EV.tuple [EV.int IntKind.u8 y0, EV.int IntKind.i64 y1]) []) := by
  have h : evFn E_order_Compare Tryd.f27 false [.int .u8 a0, .agg [.int .u64 a1_0, .int .u64 a1_1], .agg [.int .u64 a2_0, .int .u64 a2_1]] [] K = order_Compare.d a0 a1_0 a1_1 a2_0 a2_1 (fun y0 y1 => K (EV.tuple [EV.int IntKind.u8 y0, EV.int IntKind.i64 y1]) []) := by kernel_rfl
  rw [order_Compare.is]; exact h
theorem X_order_Compare.ok : SoundE Tryd.prog gl 27 e_order_Compare := by
  refine fnOK (E := E_order_Compare) (fn := Tryd.f27) rfl tys_ok rfl (show AllL _ [(63, e_shape_Zero), (64, e_order_fits), (65, e_order_total), (66, e_order_nan)] from ⟨X_shape_Zero.ok, X_order_fits.ok, X_order_total.ok, X_order_nan.ok, trivial⟩) mixed (by kernel_rfl) (by kernel_rfl) (by kernel_rfl) 0 (by kernel_rfl) false trivial ?_
  intro args H
  by_cases hx : ∃ (a0 : Int) (a1_0 : Int) (a1_1 : Int) (a2_0 : Int) (a2_1 : Int), args = [.int .u8 a0, .agg [.int .u64 a1_0, .int .u64 a1_1], .agg [.int .u64 a2_0, .int .u64 a2_1]] ∧ H = []
  · obtain ⟨a0, a1_0, a1_1, a2_0, a2_1, rfl, rfl⟩ := hx
    right; intro K
    exact iff_of_eq (X_order_Compare.eq a0 a1_0 a1_1 a2_0 a2_1 K).symm
  · left; intro K h
    simp only [e_order_Compare] at h
    split at h
    · exact hx ⟨_, _, _, _, _, rfl, rfl⟩
    · exact h
noncomputable def e_order_loud : Entry := ⟨[none, none, none], true, fun args H K => match args, H with
  | [.int .u8 a0, .bool a1, .slice 0 0 2 (some 2) 2], [some (.agg [.agg [.int .u64 a2_0_0, .int .u64 a2_0_1], .agg [.int .u64 a2_1_0, .int .u64 a2_1_1]])] => order_loud a0 a1 a2_0_0 a2_0_1 a2_1_0 a2_1_1 (fun y0 y1 y2 y3 y4 => K (EV.int IntKind.u8 y0) [some (EV.agg [EV.agg [EV.int IntKind.u64 y1, EV.int IntKind.u64 y2], EV.agg [EV.int IntKind.u64 y3, EV.int IntKind.u64 y4]])])
  | _, _ => False⟩
noncomputable def E_order_loud : Env := ⟨look tys, look [(38, e_kind_Class)], look [(2, order_loud.l2.entry)], gl, lookL [], false⟩
theorem order_loud.l2X.stepEq (R : List EV → Heap → Prop) (K : Ex → List EV → Heap → Prop) (x0 : Int) (x1 : Bool) (x2 : Int) (x3 : Int) (x4 : Int) (x5 : Int) (x6 : Int) (x7 : Int) : loopStep (evCode E_order_loud (loopAt Tryd.f67 0) { (LV.mk 0 [(0, 0)] 64 1 false) with nx := live (.loop (loopAt Tryd.f67 0)) (LV.mk 0 [(0, 0)] 64 1 false) }) (live (.loop (loopAt Tryd.f67 0)) (LV.mk 0 [(0, 0)] 64 1 false)) (LV.mk 0 [(0, 0)] 64 1 false) 1 33 R [EV.int IntKind.u8 x0, EV.bool x1, EV.slice 0 0 2 (some 2) 2, EV.int IntKind.i64 x2, EV.int IntKind.i64 x3] [some (EV.agg [EV.agg [EV.int IntKind.u64 x4, EV.int IntKind.u64 x5], EV.agg [EV.int IntKind.u64 x6, EV.int IntKind.u64 x7]])] K = order_loud.l2.step (fun x0 x1 x2 x3 x4 x5 x6 x7 => R [EV.int IntKind.u8 x0, EV.bool x1, EV.slice 0 0 2 (some 2) 2, EV.int IntKind.i64 x2, EV.int IntKind.i64 x3] [some (EV.agg [EV.agg [EV.int IntKind.u64 x4, EV.int IntKind.u64 x5], EV.agg [EV.int IntKind.u64 x6, EV.int IntKind.u64 x7]])]) (fun y0 y1 y2 y3 y4 => K .ret [EV.int IntKind.u8 y0] [some (EV.agg [EV.agg [EV.int IntKind.u64 y1, EV.int IntKind.u64 y2], EV.agg [EV.int IntKind.u64 y3, EV.int IntKind.u64 y4]])]) (fun y0 y1 y2 y3 => K (.exit 0) [] [some (EV.agg [EV.agg [EV.int IntKind.u64 y0, EV.int IntKind.u64 y1], EV.agg [EV.int IntKind.u64 y2, EV.int IntKind.u64 y3]])]) x0 x1 x2 x3 x4 x5 x6 x7 := by kernel_rfl
theorem order_loud.l2X.eq (K : Ex → List EV → Heap → Prop) : ∀ (n : Nat) (x0 : Int) (x1 : Bool) (x2 : Int) (x3 : Int) (x4 : Int) (x5 : Int) (x6 : Int) (x7 : Int), loopE E_order_loud (loopAt Tryd.f67 0) (LV.mk 0 [(0, 0)] 64 1 false) 1 33 K n [EV.int IntKind.u8 x0, EV.bool x1, EV.slice 0 0 2 (some 2) 2, EV.int IntKind.i64 x2, EV.int IntKind.i64 x3] [some (EV.agg [EV.agg [EV.int IntKind.u64 x4, EV.int IntKind.u64 x5], EV.agg [EV.int IntKind.u64 x6, EV.int IntKind.u64 x7]])] = order_loud.l2 (fun y0 y1 y2 y3 y4 => K .ret [EV.int IntKind.u8 y0] [some (EV.agg [EV.agg [EV.int IntKind.u64 y1, EV.int IntKind.u64 y2], EV.agg [EV.int IntKind.u64 y3, EV.int IntKind.u64 y4]])]) (fun y0 y1 y2 y3 => K (.exit 0) [] [some (EV.agg [EV.agg [EV.int IntKind.u64 y0, EV.int IntKind.u64 y1], EV.agg [EV.int IntKind.u64 y2, EV.int IntKind.u64 y3]])]) n x0 x1 x2 x3 x4 x5 x6 x7
  | 0, _, _, _, _, _, _, _, _ => rfl
  | n + 1, x0, x1, x2, x3, x4, x5, x6, x7 => by
    have ih : (fun (x0 : Int) (x1 : Bool) (x2 : Int) (x3 : Int) (x4 : Int) (x5 : Int) (x6 : Int) (x7 : Int) => loopE E_order_loud (loopAt Tryd.f67 0) (LV.mk 0 [(0, 0)] 64 1 false) 1 33 K n [EV.int IntKind.u8 x0, EV.bool x1, EV.slice 0 0 2 (some 2) 2, EV.int IntKind.i64 x2, EV.int IntKind.i64 x3] [some (EV.agg [EV.agg [EV.int IntKind.u64 x4, EV.int IntKind.u64 x5], EV.agg [EV.int IntKind.u64 x6, EV.int IntKind.u64 x7]])]) = order_loud.l2 (fun y0 y1 y2 y3 y4 => K .ret [EV.int IntKind.u8 y0] [some (EV.agg [EV.agg [EV.int IntKind.u64 y1, EV.int IntKind.u64 y2], EV.agg [EV.int IntKind.u64 y3, EV.int IntKind.u64 y4]])]) (fun y0 y1 y2 y3 => K (.exit 0) [] [some (EV.agg [EV.agg [EV.int IntKind.u64 y0, EV.int IntKind.u64 y1], EV.agg [EV.int IntKind.u64 y2, EV.int IntKind.u64 y3]])]) n := by funext x0 x1 x2 x3 x4 x5 x6 x7; exact order_loud.l2X.eq K n x0 x1 x2 x3 x4 x5 x6 x7
    show loopStep _ _ _ _ _ (loopE E_order_loud (loopAt Tryd.f67 0) (LV.mk 0 [(0, 0)] 64 1 false) 1 33 K n) [EV.int IntKind.u8 x0, EV.bool x1, EV.slice 0 0 2 (some 2) 2, EV.int IntKind.i64 x2, EV.int IntKind.i64 x3] [some (EV.agg [EV.agg [EV.int IntKind.u64 x4, EV.int IntKind.u64 x5], EV.agg [EV.int IntKind.u64 x6, EV.int IntKind.u64 x7]])] K = order_loud.l2.step (order_loud.l2 (fun y0 y1 y2 y3 y4 => K .ret [EV.int IntKind.u8 y0] [some (EV.agg [EV.agg [EV.int IntKind.u64 y1, EV.int IntKind.u64 y2], EV.agg [EV.int IntKind.u64 y3, EV.int IntKind.u64 y4]])]) (fun y0 y1 y2 y3 => K (.exit 0) [] [some (EV.agg [EV.agg [EV.int IntKind.u64 y0, EV.int IntKind.u64 y1], EV.agg [EV.int IntKind.u64 y2, EV.int IntKind.u64 y3]])]) n) (fun y0 y1 y2 y3 y4 => K .ret [EV.int IntKind.u8 y0] [some (EV.agg [EV.agg [EV.int IntKind.u64 y1, EV.int IntKind.u64 y2], EV.agg [EV.int IntKind.u64 y3, EV.int IntKind.u64 y4]])]) (fun y0 y1 y2 y3 => K (.exit 0) [] [some (EV.agg [EV.agg [EV.int IntKind.u64 y0, EV.int IntKind.u64 y1], EV.agg [EV.int IntKind.u64 y2, EV.int IntKind.u64 y3]])]) x0 x1 x2 x3 x4 x5 x6 x7
    rw [← ih]
    exact order_loud.l2X.stepEq _ K x0 x1 x2 x3 x4 x5 x6 x7
theorem order_loud.l2X.ok : LoopEq E_order_loud (loopAt Tryd.f67 0) := by
  intro L hL vs H
  have h1 : E_order_loud.lp (firstRegion (loopAt Tryd.f67 0)) = some order_loud.l2.entry := by kernel_rfl
  have h2 : L = order_loud.l2.entry := Option.some.inj (hL.symm.trans h1)
  subst h2
  by_cases hx : ∃ (x0 : Int) (x1 : Bool) (x2 : Int) (x3 : Int) (x4 : Int) (x5 : Int) (x6 : Int) (x7 : Int), vs = [EV.int IntKind.u8 x0, EV.bool x1, EV.slice 0 0 2 (some 2) 2, EV.int IntKind.i64 x2, EV.int IntKind.i64 x3] ∧ H = [some (EV.agg [EV.agg [EV.int IntKind.u64 x4, EV.int IntKind.u64 x5], EV.agg [EV.int IntKind.u64 x6, EV.int IntKind.u64 x7]])]
  · obtain ⟨x0, x1, x2, x3, x4, x5, x6, x7, rfl, rfl⟩ := hx
    right; intro K
    exact exists_congr fun n => iff_of_eq (order_loud.l2X.eq K n x0 x1 x2 x3 x4 x5 x6 x7).symm
  · left; intro K h
    simp only [order_loud.l2.entry] at h
    split at h
    · exact hx ⟨_, _, _, _, _, _, _, _, rfl, rfl⟩
    · exact h
theorem X_order_loud.eq (a0 : Int) (a1 : Bool) (a2_0_0 : Int) (a2_0_1 : Int) (a2_1_0 : Int) (a2_1_1 : Int) (K : EV → Heap → Prop) : evFn E_order_loud Tryd.f67 false [.int .u8 a0, .bool a1, .slice 0 0 2 (some 2) 2] [some (.agg [.agg [.int .u64 a2_0_0, .int .u64 a2_0_1], .agg [.int .u64 a2_1_0, .int .u64 a2_1_1]])] K = order_loud a0 a1 a2_0_0 a2_0_1 a2_1_0 a2_1_1 (fun y0 y1 y2 y3 y4 => K (EV.int IntKind.u8 y0) [some (EV.agg [EV.agg [EV.int IntKind.u64 y1, EV.int IntKind.u64 y2], EV.agg [EV.int IntKind.u64 y3, EV.int IntKind.u64 y4]])]) := by
  have h : evFn E_order_loud Tryd.f67 false [.int .u8 a0, .bool a1, .slice 0 0 2 (some 2) 2] [some (.agg [.agg [.int .u64 a2_0_0, .int .u64 a2_0_1], .agg [.int .u64 a2_1_0, .int .u64 a2_1_1]])] K = order_loud.d a0 a1 a2_0_0 a2_0_1 a2_1_0 a2_1_1 (fun y0 y1 y2 y3 y4 => K (EV.int IntKind.u8 y0) [some (EV.agg [EV.agg [EV.int IntKind.u64 y1, EV.int IntKind.u64 y2], EV.agg [EV.int IntKind.u64 y3, EV.int IntKind.u64 y4]])]) := by kernel_rfl
  rw [order_loud.is]; exact h
theorem X_order_loud.ok : SoundE Tryd.prog gl 67 e_order_loud := by
  refine fnOK (E := E_order_loud) (fn := Tryd.f67) rfl tys_ok rfl (show AllL _ [(38, e_kind_Class)] from ⟨X_kind_Class.ok, trivial⟩) mixed (by kernel_rfl) (by kernel_rfl) (by kernel_rfl) 1 (by kernel_rfl) false ⟨order_loud.l2X.ok, trivial⟩ ?_
  intro args H
  by_cases hx : ∃ (a0 : Int) (a1 : Bool) (a2_0_0 : Int) (a2_0_1 : Int) (a2_1_0 : Int) (a2_1_1 : Int), args = [.int .u8 a0, .bool a1, .slice 0 0 2 (some 2) 2] ∧ H = [some (.agg [.agg [.int .u64 a2_0_0, .int .u64 a2_0_1], .agg [.int .u64 a2_1_0, .int .u64 a2_1_1]])]
  · obtain ⟨a0, a1, a2_0_0, a2_0_1, a2_1_0, a2_1_1, rfl, rfl⟩ := hx
    right; intro K
    exact iff_of_eq (X_order_loud.eq a0 a1 a2_0_0 a2_0_1 a2_1_0 a2_1_1 K).symm
  · left; intro K h
    simp only [e_order_loud] at h
    split at h
    · exact hx ⟨_, _, _, _, _, _, rfl, rfl⟩
    · exact h
noncomputable def e_order_Lt : Entry := ⟨[none, none, none], false, fun args H K => match args, H with
  | [.int .u8 a0, .agg [.int .u64 a1_0, .int .u64 a1_1], .agg [.int .u64 a2_0, .int .u64 a2_1]], [] => order_Lt a0 a1_0 a1_1 a2_0 a2_1 (fun y0 y1 y2 => K (EV.tuple [EV.bool y0, EV.int IntKind.u8 y1, EV.int IntKind.i64 y2]) [])
  | _, _ => False⟩
noncomputable def E_order_Lt : Env := ⟨look tys, look [(27, e_order_Compare), (67, e_order_loud)], look [], gl, lookL [], false⟩
theorem X_order_Lt.eq (a0 : Int) (a1_0 : Int) (a1_1 : Int) (a2_0 : Int) (a2_1 : Int) (K : EV → Heap → Prop) : evFn E_order_Lt Tryd.f29 false [.int .u8 a0, .agg [.int .u64 a1_0, .int .u64 a1_1], .agg [.int .u64 a2_0, .int .u64 a2_1]] [] K = order_Lt a0 a1_0 a1_1 a2_0 a2_1 (fun y0 y1 y2 => K (EV.tuple [EV.bool y0, EV.int IntKind.u8 y1, EV.int IntKind.i64 y2]) []) := by
  have h : evFn E_order_Lt Tryd.f29 false [.int .u8 a0, .agg [.int .u64 a1_0, .int .u64 a1_1], .agg [.int .u64 a2_0, .int .u64 a2_1]] [] K = order_Lt.d a0 a1_0 a1_1 a2_0 a2_1 (fun y0 y1 y2 => K (EV.tuple [EV.bool y0, EV.int IntKind.u8 y1, EV.int IntKind.i64 y2]) []) := by kernel_rfl
  rw [order_Lt.is]; exact h
theorem X_order_Lt.ok : SoundE Tryd.prog gl 29 e_order_Lt := by
  refine fnOK (E := E_order_Lt) (fn := Tryd.f29) rfl tys_ok rfl (show AllL _ [(27, e_order_Compare), (67, e_order_loud)] from ⟨X_order_Compare.ok, X_order_loud.ok, trivial⟩) mixed (by kernel_rfl) (by kernel_rfl) (by kernel_rfl) 0 (by kernel_rfl) false trivial ?_
  intro args H
  by_cases hx : ∃ (a0 : Int) (a1_0 : Int) (a1_1 : Int) (a2_0 : Int) (a2_1 : Int), args = [.int .u8 a0, .agg [.int .u64 a1_0, .int .u64 a1_1], .agg [.int .u64 a2_0, .int .u64 a2_1]] ∧ H = []
  · obtain ⟨a0, a1_0, a1_1, a2_0, a2_1, rfl, rfl⟩ := hx
    right; intro K
    exact iff_of_eq (X_order_Lt.eq a0 a1_0 a1_1 a2_0 a2_1 K).symm
  · left; intro K h
    simp only [e_order_Lt] at h
    split at h
    · exact hx ⟨_, _, _, _, _, rfl, rfl⟩
    · exact h
noncomputable def e_law16_alive : Entry := ⟨[], false, fun args H K => match args, H with
  | [], [] => law16_alive  (fun y0 => K (EV.bool y0) [])
  | _, _ => False⟩
noncomputable def E_law16_alive : Env := ⟨look tys, look [(27, e_order_Compare), (29, e_order_Lt)], look [], gl, lookL [], false⟩
theorem X_law16_alive.eq (K : EV → Heap → Prop) : evFn E_law16_alive Tryd.f26 false [] [] K = law16_alive  (fun y0 => K (EV.bool y0) []) := by
  have h : evFn E_law16_alive Tryd.f26 false [] [] K = law16_alive.d  (fun y0 => K (EV.bool y0) []) := by kernel_rfl
  rw [law16_alive.is]; exact h
theorem X_law16_alive.ok : SoundE Tryd.prog gl 26 e_law16_alive := by
  refine fnOK (E := E_law16_alive) (fn := Tryd.f26) rfl tys_ok rfl (show AllL _ [(27, e_order_Compare), (29, e_order_Lt)] from ⟨X_order_Compare.ok, X_order_Lt.ok, trivial⟩) mixed (by kernel_rfl) (by kernel_rfl) (by kernel_rfl) 0 (by kernel_rfl) false trivial ?_
  intro args H
  by_cases hx : args = [] ∧ H = []
  · obtain ⟨rfl, rfl⟩ := hx
    right; intro K
    exact iff_of_eq (X_law16_alive.eq  K).symm
  · left; intro K h
    simp only [e_law16_alive] at h
    split at h
    · exact hx ⟨rfl, rfl⟩
    · exact h
noncomputable def e_r07_Right : Entry := ⟨[none], false, fun args H K => match args, H with
  | [.int .u8 a0], [] => r07_Right a0 (fun y0 => K (EV.bool y0) [])
  | _, _ => False⟩
noncomputable def E_r07_Right : Env := ⟨look tys, look [], look [], gl, lookL [], false⟩
theorem X_r07_Right.eq (a0 : Int) (K : EV → Heap → Prop) : evFn E_r07_Right Tryd.f46 false [.int .u8 a0] [] K = r07_Right a0 (fun y0 => K (EV.bool y0) []) := by
  have h : evFn E_r07_Right Tryd.f46 false [.int .u8 a0] [] K = r07_Right.d a0 (fun y0 => K (EV.bool y0) []) := by kernel_rfl
  rw [r07_Right.is]; exact h
theorem X_r07_Right.ok : SoundE Tryd.prog gl 46 e_r07_Right := by
  refine fnOK (E := E_r07_Right) (fn := Tryd.f46) rfl tys_ok rfl (show AllL _ [] from trivial) mixed (by kernel_rfl) (by kernel_rfl) (by kernel_rfl) 0 (by kernel_rfl) false trivial ?_
  intro args H
  by_cases hx : ∃ (a0 : Int), args = [.int .u8 a0] ∧ H = []
  · obtain ⟨a0, rfl, rfl⟩ := hx
    right; intro K
    exact iff_of_eq (X_r07_Right.eq a0 K).symm
  · left; intro K h
    simp only [e_r07_Right] at h
    split at h
    · exact hx ⟨_, rfl, rfl⟩
    · exact h
noncomputable def e_r01_Bit : Entry := ⟨[none, none], false, fun args H K => match args, H with
  | [.int .u64 a0, .int .i64 a1], [] => r01_Bit a0 a1 (fun y0 => K (EV.bool y0) [])
  | _, _ => False⟩
noncomputable def E_r01_Bit : Env := ⟨look tys, look [], look [], gl, lookL [], false⟩
theorem X_r01_Bit.eq (a0 : Int) (a1 : Int) (K : EV → Heap → Prop) : evFn E_r01_Bit Tryd.f91 false [.int .u64 a0, .int .i64 a1] [] K = r01_Bit a0 a1 (fun y0 => K (EV.bool y0) []) := by
  have h : evFn E_r01_Bit Tryd.f91 false [.int .u64 a0, .int .i64 a1] [] K = r01_Bit.d a0 a1 (fun y0 => K (EV.bool y0) []) := by kernel_rfl
  rw [r01_Bit.is]; exact h
theorem X_r01_Bit.ok : SoundE Tryd.prog gl 91 e_r01_Bit := by
  refine fnOK (E := E_r01_Bit) (fn := Tryd.f91) rfl tys_ok rfl (show AllL _ [] from trivial) mixed (by kernel_rfl) (by kernel_rfl) (by kernel_rfl) 0 (by kernel_rfl) false trivial ?_
  intro args H
  by_cases hx : ∃ (a0 : Int) (a1 : Int), args = [.int .u64 a0, .int .i64 a1] ∧ H = []
  · obtain ⟨a0, a1, rfl, rfl⟩ := hx
    right; intro K
    exact iff_of_eq (X_r01_Bit.eq a0 a1 K).symm
  · left; intro K h
    simp only [e_r01_Bit] at h
    split at h
    · exact hx ⟨_, _, rfl, rfl⟩
    · exact h
noncomputable def e_r01_Len : Entry := ⟨[none], false, fun args H K => match args, H with
  | [.int .u64 a0], [] => r01_Len a0 (fun y0 => K (EV.int IntKind.i64 y0) [])
  | _, _ => False⟩
noncomputable def E_r01_Len : Env := ⟨look tys, look [(91, e_r01_Bit)], look [(3, r01_Len.l3.entry)], gl, lookL [], false⟩
theorem r01_Len.l3X.stepEq (R : List EV → Heap → Prop) (K : Ex → List EV → Heap → Prop) (x0 : Int) (x1 : Int) (x2 : Int) : loopStep (evCode E_r01_Len (loopAt Tryd.f82 0) { (LV.mk 8 [(0, 8)] 4 0 false) with nx := live (.loop (loopAt Tryd.f82 0)) (LV.mk 8 [(0, 8)] 4 0 false) }) (live (.loop (loopAt Tryd.f82 0)) (LV.mk 8 [(0, 8)] 4 0 false)) (LV.mk 8 [(0, 8)] 4 0 false) 0 15 R [EV.int IntKind.u64 x0, EV.int IntKind.i64 x1, EV.int IntKind.i64 x2] [] K = r01_Len.l3.step (fun x0 x1 x2 => R [EV.int IntKind.u64 x0, EV.int IntKind.i64 x1, EV.int IntKind.i64 x2] []) (fun y0 => K (.exit 0) [EV.int IntKind.i64 y0] []) x0 x1 x2 := by kernel_rfl
theorem r01_Len.l3X.eq (K : Ex → List EV → Heap → Prop) : ∀ (n : Nat) (x0 : Int) (x1 : Int) (x2 : Int), loopE E_r01_Len (loopAt Tryd.f82 0) (LV.mk 8 [(0, 8)] 4 0 false) 0 15 K n [EV.int IntKind.u64 x0, EV.int IntKind.i64 x1, EV.int IntKind.i64 x2] [] = r01_Len.l3 (fun y0 => K (.exit 0) [EV.int IntKind.i64 y0] []) n x0 x1 x2
  | 0, _, _, _ => rfl
  | n + 1, x0, x1, x2 => by
    have ih : (fun (x0 : Int) (x1 : Int) (x2 : Int) => loopE E_r01_Len (loopAt Tryd.f82 0) (LV.mk 8 [(0, 8)] 4 0 false) 0 15 K n [EV.int IntKind.u64 x0, EV.int IntKind.i64 x1, EV.int IntKind.i64 x2] []) = r01_Len.l3 (fun y0 => K (.exit 0) [EV.int IntKind.i64 y0] []) n := by funext x0 x1 x2; exact r01_Len.l3X.eq K n x0 x1 x2
    show loopStep _ _ _ _ _ (loopE E_r01_Len (loopAt Tryd.f82 0) (LV.mk 8 [(0, 8)] 4 0 false) 0 15 K n) [EV.int IntKind.u64 x0, EV.int IntKind.i64 x1, EV.int IntKind.i64 x2] [] K = r01_Len.l3.step (r01_Len.l3 (fun y0 => K (.exit 0) [EV.int IntKind.i64 y0] []) n) (fun y0 => K (.exit 0) [EV.int IntKind.i64 y0] []) x0 x1 x2
    rw [← ih]
    exact r01_Len.l3X.stepEq _ K x0 x1 x2
theorem r01_Len.l3X.ok : LoopEq E_r01_Len (loopAt Tryd.f82 0) := by
  intro L hL vs H
  have h1 : E_r01_Len.lp (firstRegion (loopAt Tryd.f82 0)) = some r01_Len.l3.entry := by kernel_rfl
  have h2 : L = r01_Len.l3.entry := Option.some.inj (hL.symm.trans h1)
  subst h2
  by_cases hx : ∃ (x0 : Int) (x1 : Int) (x2 : Int), vs = [EV.int IntKind.u64 x0, EV.int IntKind.i64 x1, EV.int IntKind.i64 x2] ∧ H = []
  · obtain ⟨x0, x1, x2, rfl, rfl⟩ := hx
    right; intro K
    exact exists_congr fun n => iff_of_eq (r01_Len.l3X.eq K n x0 x1 x2).symm
  · left; intro K h
    simp only [r01_Len.l3.entry] at h
    split at h
    · exact hx ⟨_, _, _, rfl, rfl⟩
    · exact h
theorem X_r01_Len.eq (a0 : Int) (K : EV → Heap → Prop) : evFn E_r01_Len Tryd.f82 false [.int .u64 a0] [] K = r01_Len a0 (fun y0 => K (EV.int IntKind.i64 y0) []) := by
  have h : evFn E_r01_Len Tryd.f82 false [.int .u64 a0] [] K = r01_Len.d a0 (fun y0 => K (EV.int IntKind.i64 y0) []) := by kernel_rfl
  rw [r01_Len.is]; exact h
theorem X_r01_Len.ok : SoundE Tryd.prog gl 82 e_r01_Len := by
  refine fnOK (E := E_r01_Len) (fn := Tryd.f82) rfl tys_ok rfl (show AllL _ [(91, e_r01_Bit)] from ⟨X_r01_Bit.ok, trivial⟩) mixed (by kernel_rfl) (by kernel_rfl) (by kernel_rfl) 1 (by kernel_rfl) false ⟨r01_Len.l3X.ok, trivial⟩ ?_
  intro args H
  by_cases hx : ∃ (a0 : Int), args = [.int .u64 a0] ∧ H = []
  · obtain ⟨a0, rfl, rfl⟩ := hx
    right; intro K
    exact iff_of_eq (X_r01_Len.eq a0 K).symm
  · left; intro K h
    simp only [e_r01_Len] at h
    split at h
    · exact hx ⟨_, rfl, rfl⟩
    · exact h
noncomputable def e_r02_Len : Entry := ⟨[none], false, fun args H K => match args, H with
  | [.arr .u64 6 a0], [] => r02_Len a0 (fun y0 => K (EV.int IntKind.i64 y0) [])
  | _, _ => False⟩
noncomputable def E_r02_Len : Env := ⟨look tys, look [(82, e_r01_Len)], look [(2, r02_Len.l2.entry)], gl, lookL [], false⟩
theorem r02_Len.l2X.stepEq (R : List EV → Heap → Prop) (K : Ex → List EV → Heap → Prop) (x0 : Int) (x1 : Nat → Int) : loopStep (evCode E_r02_Len (loopAt Tryd.f47 0) { (LV.mk 0 [(0, 0)] 4 0 false) with nx := live (.loop (loopAt Tryd.f47 0)) (LV.mk 0 [(0, 0)] 4 0 false) }) (live (.loop (loopAt Tryd.f47 0)) (LV.mk 0 [(0, 0)] 4 0 false)) (LV.mk 0 [(0, 0)] 4 0 false) 0 19 R [EV.ptr 0 [], EV.int IntKind.i64 x0] [some (EV.arr IntKind.u64 6 x1)] K = r02_Len.l2.step (fun x0 x1 => R [EV.ptr 0 [], EV.int IntKind.i64 x0] [some (EV.arr IntKind.u64 6 x1)]) (fun y0 => K .ret [EV.int IntKind.i64 y0] []) (K (.exit 0) [] []) x0 x1 := by kernel_rfl
theorem r02_Len.l2X.eq (K : Ex → List EV → Heap → Prop) : ∀ (n : Nat) (x0 : Int) (x1 : Nat → Int), loopE E_r02_Len (loopAt Tryd.f47 0) (LV.mk 0 [(0, 0)] 4 0 false) 0 19 K n [EV.ptr 0 [], EV.int IntKind.i64 x0] [some (EV.arr IntKind.u64 6 x1)] = r02_Len.l2 (fun y0 => K .ret [EV.int IntKind.i64 y0] []) (K (.exit 0) [] []) n x0 x1
  | 0, _, _ => rfl
  | n + 1, x0, x1 => by
    have ih : (fun (x0 : Int) (x1 : Nat → Int) => loopE E_r02_Len (loopAt Tryd.f47 0) (LV.mk 0 [(0, 0)] 4 0 false) 0 19 K n [EV.ptr 0 [], EV.int IntKind.i64 x0] [some (EV.arr IntKind.u64 6 x1)]) = r02_Len.l2 (fun y0 => K .ret [EV.int IntKind.i64 y0] []) (K (.exit 0) [] []) n := by funext x0 x1; exact r02_Len.l2X.eq K n x0 x1
    show loopStep _ _ _ _ _ (loopE E_r02_Len (loopAt Tryd.f47 0) (LV.mk 0 [(0, 0)] 4 0 false) 0 19 K n) [EV.ptr 0 [], EV.int IntKind.i64 x0] [some (EV.arr IntKind.u64 6 x1)] K = r02_Len.l2.step (r02_Len.l2 (fun y0 => K .ret [EV.int IntKind.i64 y0] []) (K (.exit 0) [] []) n) (fun y0 => K .ret [EV.int IntKind.i64 y0] []) (K (.exit 0) [] []) x0 x1
    rw [← ih]
    exact r02_Len.l2X.stepEq _ K x0 x1
theorem r02_Len.l2X.ok : LoopEq E_r02_Len (loopAt Tryd.f47 0) := by
  intro L hL vs H
  have h1 : E_r02_Len.lp (firstRegion (loopAt Tryd.f47 0)) = some r02_Len.l2.entry := by kernel_rfl
  have h2 : L = r02_Len.l2.entry := Option.some.inj (hL.symm.trans h1)
  subst h2
  by_cases hx : ∃ (x0 : Int) (x1 : Nat → Int), vs = [EV.ptr 0 [], EV.int IntKind.i64 x0] ∧ H = [some (EV.arr IntKind.u64 6 x1)]
  · obtain ⟨x0, x1, rfl, rfl⟩ := hx
    right; intro K
    exact exists_congr fun n => iff_of_eq (r02_Len.l2X.eq K n x0 x1).symm
  · left; intro K h
    simp only [r02_Len.l2.entry] at h
    split at h
    · exact hx ⟨_, _, rfl, rfl⟩
    · exact h
theorem X_r02_Len.eq (a0 : Nat → Int) (K : EV → Heap → Prop) : evFn E_r02_Len Tryd.f47 false [.arr .u64 6 a0] [] K = r02_Len a0 (fun y0 => K (EV.int IntKind.i64 y0) []) := by
  have h : evFn E_r02_Len Tryd.f47 false [.arr .u64 6 a0] [] K = r02_Len.d a0 (fun y0 => K (EV.int IntKind.i64 y0) []) := by kernel_rfl
  rw [r02_Len.is]; exact h
theorem X_r02_Len.ok : SoundE Tryd.prog gl 47 e_r02_Len := by
  refine fnOK (E := E_r02_Len) (fn := Tryd.f47) rfl tys_ok rfl (show AllL _ [(82, e_r01_Len)] from ⟨X_r01_Len.ok, trivial⟩) mixed (by kernel_rfl) (by kernel_rfl) (by kernel_rfl) 1 (by kernel_rfl) false ⟨r02_Len.l2X.ok, trivial⟩ ?_
  intro args H
  by_cases hx : ∃ (a0 : Nat → Int), args = [.arr .u64 6 a0] ∧ H = []
  · obtain ⟨a0, rfl, rfl⟩ := hx
    right; intro K
    exact iff_of_eq (X_r02_Len.eq a0 K).symm
  · left; intro K h
    simp only [e_r02_Len] at h
    split at h
    · exact hx ⟨_, rfl, rfl⟩
    · exact h
noncomputable def e_r02_OfBits : Entry := ⟨[none], false, fun args H K => match args, H with
  | [.agg [.int .u64 a0_0, .int .u64 a0_1]], [] => r02_OfBits a0_0 a0_1 (fun y0 => K (EV.arr IntKind.u64 6 y0) [])
  | _, _ => False⟩
noncomputable def E_r02_OfBits : Env := ⟨look tys, look [], look [], gl, lookL [], false⟩
theorem X_r02_OfBits.eq (a0_0 : Int) (a0_1 : Int) (K : EV → Heap → Prop) : evFn E_r02_OfBits Tryd.f48 false [.agg [.int .u64 a0_0, .int .u64 a0_1]] [] K = r02_OfBits a0_0 a0_1 (fun y0 => K (EV.arr IntKind.u64 6 y0) []) := by
  have h : evFn E_r02_OfBits Tryd.f48 false [.agg [.int .u64 a0_0, .int .u64 a0_1]] [] K = r02_OfBits.d a0_0 a0_1 (fun y0 => K (EV.arr IntKind.u64 6 y0) []) := by kernel_rfl
  rw [r02_OfBits.is]; exact h
theorem X_r02_OfBits.ok : SoundE Tryd.prog gl 48 e_r02_OfBits := by
  refine fnOK (E := E_r02_OfBits) (fn := Tryd.f48) rfl tys_ok rfl (show AllL _ [] from trivial) mixed (by kernel_rfl) (by kernel_rfl) (by kernel_rfl) 0 (by kernel_rfl) false trivial ?_
  intro args H
  by_cases hx : ∃ (a0_0 : Int) (a0_1 : Int), args = [.agg [.int .u64 a0_0, .int .u64 a0_1]] ∧ H = []
  · obtain ⟨a0_0, a0_1, rfl, rfl⟩ := hx
    right; intro K
    exact iff_of_eq (X_r02_OfBits.eq a0_0 a0_1 K).symm
  · left; intro K h
    simp only [e_r02_OfBits] at h
    split at h
    · exact hx ⟨_, _, rfl, rfl⟩
    · exact h
noncomputable def e_r07_Width : Entry := ⟨[none], false, fun args H K => match args, H with
  | [.int .u8 a0], [] => r07_Width a0 (fun y0 => K (EV.int IntKind.i64 y0) [])
  | _, _ => False⟩
noncomputable def E_r07_Width : Env := ⟨look tys, look [], look [], gl, lookL [], false⟩
theorem X_r07_Width.eq (a0 : Int) (K : EV → Heap → Prop) : evFn E_r07_Width Tryd.f49 false [.int .u8 a0] [] K = r07_Width a0 (fun y0 => K (EV.int IntKind.i64 y0) []) := by
  have h : evFn E_r07_Width Tryd.f49 false [.int .u8 a0] [] K = r07_Width.d a0 (fun y0 => K (EV.int IntKind.i64 y0) []) := by kernel_rfl
  rw [r07_Width.is]; exact h
theorem X_r07_Width.ok : SoundE Tryd.prog gl 49 e_r07_Width := by
  refine fnOK (E := E_r07_Width) (fn := Tryd.f49) rfl tys_ok rfl (show AllL _ [] from trivial) mixed (by kernel_rfl) (by kernel_rfl) (by kernel_rfl) 0 (by kernel_rfl) false trivial ?_
  intro args H
  by_cases hx : ∃ (a0 : Int), args = [.int .u8 a0] ∧ H = []
  · obtain ⟨a0, rfl, rfl⟩ := hx
    right; intro K
    exact iff_of_eq (X_r07_Width.eq a0 K).symm
  · left; intro K h
    simp only [e_r07_Width] at h
    split at h
    · exact hx ⟨_, rfl, rfl⟩
    · exact h
noncomputable def e_r07_Fits : Entry := ⟨[none, none], false, fun args H K => match args, H with
  | [.int .u8 a0, .agg [.int .u64 a1_0, .int .u64 a1_1]], [] => r07_Fits a0 a1_0 a1_1 (fun y0 => K (EV.bool y0) [])
  | _, _ => False⟩
noncomputable def E_r07_Fits : Env := ⟨look tys, look [(46, e_r07_Right), (47, e_r02_Len), (48, e_r02_OfBits), (49, e_r07_Width)], look [], gl, lookL [], false⟩
theorem X_r07_Fits.eq (a0 : Int) (a1_0 : Int) (a1_1 : Int) (K : EV → Heap → Prop) : evFn E_r07_Fits Tryd.f14 false [.int .u8 a0, .agg [.int .u64 a1_0, .int .u64 a1_1]] [] K = r07_Fits a0 a1_0 a1_1 (fun y0 => K (EV.bool y0) []) := by
  have h : evFn E_r07_Fits Tryd.f14 false [.int .u8 a0, .agg [.int .u64 a1_0, .int .u64 a1_1]] [] K = r07_Fits.d a0 a1_0 a1_1 (fun y0 => K (EV.bool y0) []) := by kernel_rfl
  rw [r07_Fits.is]; exact h
theorem X_r07_Fits.ok : SoundE Tryd.prog gl 14 e_r07_Fits := by
  refine fnOK (E := E_r07_Fits) (fn := Tryd.f14) rfl tys_ok rfl (show AllL _ [(46, e_r07_Right), (47, e_r02_Len), (48, e_r02_OfBits), (49, e_r07_Width)] from ⟨X_r07_Right.ok, X_r02_Len.ok, X_r02_OfBits.ok, X_r07_Width.ok, trivial⟩) mixed (by kernel_rfl) (by kernel_rfl) (by kernel_rfl) 0 (by kernel_rfl) false trivial ?_
  intro args H
  by_cases hx : ∃ (a0 : Int) (a1_0 : Int) (a1_1 : Int), args = [.int .u8 a0, .agg [.int .u64 a1_0, .int .u64 a1_1]] ∧ H = []
  · obtain ⟨a0, a1_0, a1_1, rfl, rfl⟩ := hx
    right; intro K
    exact iff_of_eq (X_r07_Fits.eq a0 a1_0 a1_1 K).symm
  · left; intro K h
    simp only [e_r07_Fits] at h
    split at h
    · exact hx ⟨_, _, _, rfl, rfl⟩
    · exact h
noncomputable def e_r16_Fits : Entry := ⟨[none, none], true, fun args H K => match args, H with
  | [.int .u8 a0, .slice 0 0 2 (some 2) 2], [some (.agg [.agg [.int .u64 a1_0_0, .int .u64 a1_0_1], .agg [.int .u64 a1_1_0, .int .u64 a1_1_1]])] => r16_Fits a0 a1_0_0 a1_0_1 a1_1_0 a1_1_1 (fun y0 y1 y2 y3 y4 => K (EV.bool y0) [some (EV.agg [EV.agg [EV.int IntKind.u64 y1, EV.int IntKind.u64 y2], EV.agg [EV.int IntKind.u64 y3, EV.int IntKind.u64 y4]])])
  | _, _ => False⟩
noncomputable def E_r16_Fits : Env := ⟨look tys, look [(14, e_r07_Fits), (46, e_r07_Right)], look [(4, r16_Fits.l4.entry)], gl, lookL [], false⟩
theorem r16_Fits.l4X.stepEq (R : List EV → Heap → Prop) (K : Ex → List EV → Heap → Prop) (x0 : Int) (x1 : Int) (x2 : Int) (x3 : Int) (x4 : Int) (x5 : Int) : loopStep (evCode E_r16_Fits (loopAt Tryd.f31 0) { (LV.mk 0 [(0, 0)] 16 1 false) with nx := live (.loop (loopAt Tryd.f31 0)) (LV.mk 0 [(0, 0)] 16 1 false) }) (live (.loop (loopAt Tryd.f31 0)) (LV.mk 0 [(0, 0)] 16 1 false)) (LV.mk 0 [(0, 0)] 16 1 false) 1 22 R [EV.int IntKind.u8 x0, EV.slice 0 0 2 (some 2) 2, EV.int IntKind.i64 x1] [some (EV.agg [EV.agg [EV.int IntKind.u64 x2, EV.int IntKind.u64 x3], EV.agg [EV.int IntKind.u64 x4, EV.int IntKind.u64 x5]])] K = r16_Fits.l4.step (fun x0 x1 x2 x3 x4 x5 => R [EV.int IntKind.u8 x0, EV.slice 0 0 2 (some 2) 2, EV.int IntKind.i64 x1] [some (EV.agg [EV.agg [EV.int IntKind.u64 x2, EV.int IntKind.u64 x3], EV.agg [EV.int IntKind.u64 x4, EV.int IntKind.u64 x5]])]) (fun y0 y1 y2 y3 y4 => K .ret [EV.bool y0] [some (EV.agg [EV.agg [EV.int IntKind.u64 y1, EV.int IntKind.u64 y2], EV.agg [EV.int IntKind.u64 y3, EV.int IntKind.u64 y4]])]) (fun y0 y1 y2 y3 => K (.exit 0) [] [some (EV.agg [EV.agg [EV.int IntKind.u64 y0, EV.int IntKind.u64 y1], EV.agg [EV.int IntKind.u64 y2, EV.int IntKind.u64 y3]])]) x0 x1 x2 x3 x4 x5 := by kernel_rfl
theorem r16_Fits.l4X.eq (K : Ex → List EV → Heap → Prop) : ∀ (n : Nat) (x0 : Int) (x1 : Int) (x2 : Int) (x3 : Int) (x4 : Int) (x5 : Int), loopE E_r16_Fits (loopAt Tryd.f31 0) (LV.mk 0 [(0, 0)] 16 1 false) 1 22 K n [EV.int IntKind.u8 x0, EV.slice 0 0 2 (some 2) 2, EV.int IntKind.i64 x1] [some (EV.agg [EV.agg [EV.int IntKind.u64 x2, EV.int IntKind.u64 x3], EV.agg [EV.int IntKind.u64 x4, EV.int IntKind.u64 x5]])] = r16_Fits.l4 (fun y0 y1 y2 y3 y4 => K .ret [EV.bool y0] [some (EV.agg [EV.agg [EV.int IntKind.u64 y1, EV.int IntKind.u64 y2], EV.agg [EV.int IntKind.u64 y3, EV.int IntKind.u64 y4]])]) (fun y0 y1 y2 y3 => K (.exit 0) [] [some (EV.agg [EV.agg [EV.int IntKind.u64 y0, EV.int IntKind.u64 y1], EV.agg [EV.int IntKind.u64 y2, EV.int IntKind.u64 y3]])]) n x0 x1 x2 x3 x4 x5
  | 0, _, _, _, _, _, _ => rfl
  | n + 1, x0, x1, x2, x3, x4, x5 => by
    have ih : (fun (x0 : Int) (x1 : Int) (x2 : Int) (x3 : Int) (x4 : Int) (x5 : Int) => loopE E_r16_Fits (loopAt Tryd.f31 0) (LV.mk 0 [(0, 0)] 16 1 false) 1 22 K n [EV.int IntKind.u8 x0, EV.slice 0 0 2 (some 2) 2, EV.int IntKind.i64 x1] [some (EV.agg [EV.agg [EV.int IntKind.u64 x2, EV.int IntKind.u64 x3], EV.agg [EV.int IntKind.u64 x4, EV.int IntKind.u64 x5]])]) = r16_Fits.l4 (fun y0 y1 y2 y3 y4 => K .ret [EV.bool y0] [some (EV.agg [EV.agg [EV.int IntKind.u64 y1, EV.int IntKind.u64 y2], EV.agg [EV.int IntKind.u64 y3, EV.int IntKind.u64 y4]])]) (fun y0 y1 y2 y3 => K (.exit 0) [] [some (EV.agg [EV.agg [EV.int IntKind.u64 y0, EV.int IntKind.u64 y1], EV.agg [EV.int IntKind.u64 y2, EV.int IntKind.u64 y3]])]) n := by funext x0 x1 x2 x3 x4 x5; exact r16_Fits.l4X.eq K n x0 x1 x2 x3 x4 x5
    show loopStep _ _ _ _ _ (loopE E_r16_Fits (loopAt Tryd.f31 0) (LV.mk 0 [(0, 0)] 16 1 false) 1 22 K n) [EV.int IntKind.u8 x0, EV.slice 0 0 2 (some 2) 2, EV.int IntKind.i64 x1] [some (EV.agg [EV.agg [EV.int IntKind.u64 x2, EV.int IntKind.u64 x3], EV.agg [EV.int IntKind.u64 x4, EV.int IntKind.u64 x5]])] K = r16_Fits.l4.step (r16_Fits.l4 (fun y0 y1 y2 y3 y4 => K .ret [EV.bool y0] [some (EV.agg [EV.agg [EV.int IntKind.u64 y1, EV.int IntKind.u64 y2], EV.agg [EV.int IntKind.u64 y3, EV.int IntKind.u64 y4]])]) (fun y0 y1 y2 y3 => K (.exit 0) [] [some (EV.agg [EV.agg [EV.int IntKind.u64 y0, EV.int IntKind.u64 y1], EV.agg [EV.int IntKind.u64 y2, EV.int IntKind.u64 y3]])]) n) (fun y0 y1 y2 y3 y4 => K .ret [EV.bool y0] [some (EV.agg [EV.agg [EV.int IntKind.u64 y1, EV.int IntKind.u64 y2], EV.agg [EV.int IntKind.u64 y3, EV.int IntKind.u64 y4]])]) (fun y0 y1 y2 y3 => K (.exit 0) [] [some (EV.agg [EV.agg [EV.int IntKind.u64 y0, EV.int IntKind.u64 y1], EV.agg [EV.int IntKind.u64 y2, EV.int IntKind.u64 y3]])]) x0 x1 x2 x3 x4 x5
    rw [← ih]
    exact r16_Fits.l4X.stepEq _ K x0 x1 x2 x3 x4 x5
theorem r16_Fits.l4X.ok : LoopEq E_r16_Fits (loopAt Tryd.f31 0) := by
  intro L hL vs H
  have h1 : E_r16_Fits.lp (firstRegion (loopAt Tryd.f31 0)) = some r16_Fits.l4.entry := by kernel_rfl
  have h2 : L = r16_Fits.l4.entry := Option.some.inj (hL.symm.trans h1)
  subst h2
  by_cases hx : ∃ (x0 : Int) (x1 : Int) (x2 : Int) (x3 : Int) (x4 : Int) (x5 : Int), vs = [EV.int IntKind.u8 x0, EV.slice 0 0 2 (some 2) 2, EV.int IntKind.i64 x1] ∧ H = [some (EV.agg [EV.agg [EV.int IntKind.u64 x2, EV.int IntKind.u64 x3], EV.agg [EV.int IntKind.u64 x4, EV.int IntKind.u64 x5]])]
  · obtain ⟨x0, x1, x2, x3, x4, x5, rfl, rfl⟩ := hx
    right; intro K
    exact exists_congr fun n => iff_of_eq (r16_Fits.l4X.eq K n x0 x1 x2 x3 x4 x5).symm
  · left; intro K h
    simp only [r16_Fits.l4.entry] at h
    split at h
    · exact hx ⟨_, _, _, _, _, _, rfl, rfl⟩
    · exact h
theorem X_r16_Fits.eq (a0 : Int) (a1_0_0 : Int) (a1_0_1 : Int) (a1_1_0 : Int) (a1_1_1 : Int) (K : EV → Heap → Prop) : evFn E_r16_Fits Tryd.f31 false [.int .u8 a0, .slice 0 0 2 (some 2) 2] [some (.agg [.agg [.int .u64 a1_0_0, .int .u64 a1_0_1], .agg [.int .u64 a1_1_0, .int .u64 a1_1_1]])] K = r16_Fits a0 a1_0_0 a1_0_1 a1_1_0 a1_1_1 (fun y0 y1 y2 y3 y4 => K (EV.bool y0) [some (EV.agg [EV.agg [EV.int IntKind.u64 y1, EV.int IntKind.u64 y2], EV.agg [EV.int IntKind.u64 y3, EV.int IntKind.u64 y4]])]) := by
  have h : evFn E_r16_Fits Tryd.f31 false [.int .u8 a0, .slice 0 0 2 (some 2) 2] [some (.agg [.agg [.int .u64 a1_0_0, .int .u64 a1_0_1], .agg [.int .u64 a1_1_0, .int .u64 a1_1_1]])] K = r16_Fits.d a0 a1_0_0 a1_0_1 a1_1_0 a1_1_1 (fun y0 y1 y2 y3 y4 => K (EV.bool y0) [some (EV.agg [EV.agg [EV.int IntKind.u64 y1, EV.int IntKind.u64 y2], EV.agg [EV.int IntKind.u64 y3, EV.int IntKind.u64 y4]])]) := by kernel_rfl
  rw [r16_Fits.is]; exact h
theorem X_r16_Fits.ok : SoundE Tryd.prog gl 31 e_r16_Fits := by
  refine fnOK (E := E_r16_Fits) (fn := Tryd.f31) rfl tys_ok rfl (show AllL _ [(14, e_r07_Fits), (46, e_r07_Right)] from ⟨X_r07_Fits.ok, X_r07_Right.ok, trivial⟩) mixed (by kernel_rfl) (by kernel_rfl) (by kernel_rfl) 1 (by kernel_rfl) false ⟨r16_Fits.l4X.ok, trivial⟩ ?_
  intro args H
  by_cases hx : ∃ (a0 : Int) (a1_0_0 : Int) (a1_0_1 : Int) (a1_1_0 : Int) (a1_1_1 : Int), args = [.int .u8 a0, .slice 0 0 2 (some 2) 2] ∧ H = [some (.agg [.agg [.int .u64 a1_0_0, .int .u64 a1_0_1], .agg [.int .u64 a1_1_0, .int .u64 a1_1_1]])]
  · obtain ⟨a0, a1_0_0, a1_0_1, a1_1_0, a1_1_1, rfl, rfl⟩ := hx
    right; intro K
    exact iff_of_eq (X_r16_Fits.eq a0 a1_0_0 a1_0_1 a1_1_0 a1_1_1 K).symm
  · left; intro K h
    simp only [e_r16_Fits] at h
    split at h
    · exact hx ⟨_, _, _, _, _, rfl, rfl⟩
    · exact h
noncomputable def e_shape_NaN : Entry := ⟨[none], false, fun args H K => match args, H with
  | [.int .u8 a0], [] => shape_NaN a0 (fun y0 y1 => K (EV.agg [EV.int IntKind.u64 y0, EV.int IntKind.u64 y1]) [])
  | _, _ => False⟩
noncomputable def E_shape_NaN : Env := ⟨look tys, look [(57, e_shape_Check), (106, e_shape_Emax), (108, e_shape_Precision), (115, e_shape_at)], look [], gl, lookL [], false⟩
theorem X_shape_NaN.eq (a0 : Int) (K : EV → Heap → Prop) : evFn E_shape_NaN Tryd.f103 false [.int .u8 a0] [] K = shape_NaN a0 (fun y0 y1 => K (EV.agg [EV.int IntKind.u64 y0, EV.int IntKind.u64 y1]) []) := by
  have h : evFn E_shape_NaN Tryd.f103 false [.int .u8 a0] [] K = shape_NaN.d a0 (fun y0 y1 => K (EV.agg [EV.int IntKind.u64 y0, EV.int IntKind.u64 y1]) []) := by kernel_rfl
  rw [shape_NaN.is]; exact h
theorem X_shape_NaN.ok : SoundE Tryd.prog gl 103 e_shape_NaN := by
  refine fnOK (E := E_shape_NaN) (fn := Tryd.f103) rfl tys_ok rfl (show AllL _ [(57, e_shape_Check), (106, e_shape_Emax), (108, e_shape_Precision), (115, e_shape_at)] from ⟨X_shape_Check.ok, X_shape_Emax.ok, X_shape_Precision.ok, X_shape_at.ok, trivial⟩) mixed (by kernel_rfl) (by kernel_rfl) (by kernel_rfl) 0 (by kernel_rfl) false trivial ?_
  intro args H
  by_cases hx : ∃ (a0 : Int), args = [.int .u8 a0] ∧ H = []
  · obtain ⟨a0, rfl, rfl⟩ := hx
    right; intro K
    exact iff_of_eq (X_shape_NaN.eq a0 K).symm
  · left; intro K h
    simp only [e_shape_NaN] at h
    split at h
    · exact hx ⟨_, rfl, rfl⟩
    · exact h
noncomputable def e_order_extreme : Entry := ⟨[none, none, none, none], false, fun args H K => match args, H with
  | [.int .u8 a0, .agg [.int .u64 a1_0, .int .u64 a1_1], .agg [.int .u64 a2_0, .int .u64 a2_1], .int .i64 a3], [] => order_extreme a0 a1_0 a1_1 a2_0 a2_1 a3 (fun y0 y1 y2 y3 => K (EV.tuple [EV.agg [EV.int IntKind.u64 y0, EV.int IntKind.u64 y1], EV.int IntKind.u8 y2, EV.int IntKind.i64 y3]) [])
  | _, _ => False⟩
noncomputable def E_order_extreme : Env := ⟨look tys, look [(64, e_order_fits), (65, e_order_total), (66, e_order_nan), (67, e_order_loud), (103, e_shape_NaN)], look [], gl, lookL [], false⟩
theorem X_order_extreme.eq (a0 : Int) (a1_0 : Int) (a1_1 : Int) (a2_0 : Int) (a2_1 : Int) (a3 : Int) (K : EV → Heap → Prop) : evFn E_order_extreme Tryd.f73 false [.int .u8 a0, .agg [.int .u64 a1_0, .int .u64 a1_1], .agg [.int .u64 a2_0, .int .u64 a2_1], .int .i64 a3] [] K = order_extreme a0 a1_0 a1_1 a2_0 a2_1 a3 (fun y0 y1 y2 y3 => K (EV.tuple [EV.agg [EV.int IntKind.u64 y0, EV.int IntKind.u64 y1], EV.int IntKind.u8 y2, EV.int IntKind.i64 y3]) []) := by
  have h : evFn E_order_extreme Tryd.f73 false [.int .u8 a0, .agg [.int .u64 a1_0, .int .u64 a1_1], .agg [.int .u64 a2_0, .int .u64 a2_1], .int .i64 a3] [] K = order_extreme.d a0 a1_0 a1_1 a2_0 a2_1 a3 (fun y0 y1 y2 y3 => K (EV.tuple [EV.agg [EV.int IntKind.u64 y0, EV.int IntKind.u64 y1], EV.int IntKind.u8 y2, EV.int IntKind.i64 y3]) []) := by kernel_rfl
  rw [order_extreme.is]; exact h
theorem X_order_extreme.ok : SoundE Tryd.prog gl 73 e_order_extreme := by
  refine fnOK (E := E_order_extreme) (fn := Tryd.f73) rfl tys_ok rfl (show AllL _ [(64, e_order_fits), (65, e_order_total), (66, e_order_nan), (67, e_order_loud), (103, e_shape_NaN)] from ⟨X_order_fits.ok, X_order_total.ok, X_order_nan.ok, X_order_loud.ok, X_shape_NaN.ok, trivial⟩) mixed (by kernel_rfl) (by kernel_rfl) (by kernel_rfl) 0 (by kernel_rfl) false trivial ?_
  intro args H
  by_cases hx : ∃ (a0 : Int) (a1_0 : Int) (a1_1 : Int) (a2_0 : Int) (a2_1 : Int) (a3 : Int), args = [.int .u8 a0, .agg [.int .u64 a1_0, .int .u64 a1_1], .agg [.int .u64 a2_0, .int .u64 a2_1], .int .i64 a3] ∧ H = []
  · obtain ⟨a0, a1_0, a1_1, a2_0, a2_1, a3, rfl, rfl⟩ := hx
    right; intro K
    exact iff_of_eq (X_order_extreme.eq a0 a1_0 a1_1 a2_0 a2_1 a3 K).symm
  · left; intro K h
    simp only [e_order_extreme] at h
    split at h
    · exact hx ⟨_, _, _, _, _, _, rfl, rfl⟩
    · exact h
noncomputable def e_order_Min : Entry := ⟨[none, none, none], false, fun args H K => match args, H with
  | [.int .u8 a0, .agg [.int .u64 a1_0, .int .u64 a1_1], .agg [.int .u64 a2_0, .int .u64 a2_1]], [] => order_Min a0 a1_0 a1_1 a2_0 a2_1 (fun y0 y1 y2 y3 => K (EV.tuple [EV.agg [EV.int IntKind.u64 y0, EV.int IntKind.u64 y1], EV.int IntKind.u8 y2, EV.int IntKind.i64 y3]) [])
  | _, _ => False⟩
noncomputable def E_order_Min : Env := ⟨look tys, look [(73, e_order_extreme)], look [], gl, lookL [], false⟩
theorem X_order_Min.eq (a0 : Int) (a1_0 : Int) (a1_1 : Int) (a2_0 : Int) (a2_1 : Int) (K : EV → Heap → Prop) : evFn E_order_Min Tryd.f35 false [.int .u8 a0, .agg [.int .u64 a1_0, .int .u64 a1_1], .agg [.int .u64 a2_0, .int .u64 a2_1]] [] K = order_Min a0 a1_0 a1_1 a2_0 a2_1 (fun y0 y1 y2 y3 => K (EV.tuple [EV.agg [EV.int IntKind.u64 y0, EV.int IntKind.u64 y1], EV.int IntKind.u8 y2, EV.int IntKind.i64 y3]) []) := by
  have h : evFn E_order_Min Tryd.f35 false [.int .u8 a0, .agg [.int .u64 a1_0, .int .u64 a1_1], .agg [.int .u64 a2_0, .int .u64 a2_1]] [] K = order_Min.d a0 a1_0 a1_1 a2_0 a2_1 (fun y0 y1 y2 y3 => K (EV.tuple [EV.agg [EV.int IntKind.u64 y0, EV.int IntKind.u64 y1], EV.int IntKind.u8 y2, EV.int IntKind.i64 y3]) []) := by kernel_rfl
  rw [order_Min.is]; exact h
theorem X_order_Min.ok : SoundE Tryd.prog gl 35 e_order_Min := by
  refine fnOK (E := E_order_Min) (fn := Tryd.f35) rfl tys_ok rfl (show AllL _ [(73, e_order_extreme)] from ⟨X_order_extreme.ok, trivial⟩) mixed (by kernel_rfl) (by kernel_rfl) (by kernel_rfl) 0 (by kernel_rfl) false trivial ?_
  intro args H
  by_cases hx : ∃ (a0 : Int) (a1_0 : Int) (a1_1 : Int) (a2_0 : Int) (a2_1 : Int), args = [.int .u8 a0, .agg [.int .u64 a1_0, .int .u64 a1_1], .agg [.int .u64 a2_0, .int .u64 a2_1]] ∧ H = []
  · obtain ⟨a0, a1_0, a1_1, a2_0, a2_1, rfl, rfl⟩ := hx
    right; intro K
    exact iff_of_eq (X_order_Min.eq a0 a1_0 a1_1 a2_0 a2_1 K).symm
  · left; intro K h
    simp only [e_order_Min] at h
    split at h
    · exact hx ⟨_, _, _, _, _, rfl, rfl⟩
    · exact h
noncomputable def e_order_Max : Entry := ⟨[none, none, none], false, fun args H K => match args, H with
  | [.int .u8 a0, .agg [.int .u64 a1_0, .int .u64 a1_1], .agg [.int .u64 a2_0, .int .u64 a2_1]], [] => order_Max a0 a1_0 a1_1 a2_0 a2_1 (fun y0 y1 y2 y3 => K (EV.tuple [EV.agg [EV.int IntKind.u64 y0, EV.int IntKind.u64 y1], EV.int IntKind.u8 y2, EV.int IntKind.i64 y3]) [])
  | _, _ => False⟩
noncomputable def E_order_Max : Env := ⟨look tys, look [(73, e_order_extreme)], look [], gl, lookL [], false⟩
theorem X_order_Max.eq (a0 : Int) (a1_0 : Int) (a1_1 : Int) (a2_0 : Int) (a2_1 : Int) (K : EV → Heap → Prop) : evFn E_order_Max Tryd.f36 false [.int .u8 a0, .agg [.int .u64 a1_0, .int .u64 a1_1], .agg [.int .u64 a2_0, .int .u64 a2_1]] [] K = order_Max a0 a1_0 a1_1 a2_0 a2_1 (fun y0 y1 y2 y3 => K (EV.tuple [EV.agg [EV.int IntKind.u64 y0, EV.int IntKind.u64 y1], EV.int IntKind.u8 y2, EV.int IntKind.i64 y3]) []) := by
  have h : evFn E_order_Max Tryd.f36 false [.int .u8 a0, .agg [.int .u64 a1_0, .int .u64 a1_1], .agg [.int .u64 a2_0, .int .u64 a2_1]] [] K = order_Max.d a0 a1_0 a1_1 a2_0 a2_1 (fun y0 y1 y2 y3 => K (EV.tuple [EV.agg [EV.int IntKind.u64 y0, EV.int IntKind.u64 y1], EV.int IntKind.u8 y2, EV.int IntKind.i64 y3]) []) := by kernel_rfl
  rw [order_Max.is]; exact h
theorem X_order_Max.ok : SoundE Tryd.prog gl 36 e_order_Max := by
  refine fnOK (E := E_order_Max) (fn := Tryd.f36) rfl tys_ok rfl (show AllL _ [(73, e_order_extreme)] from ⟨X_order_extreme.ok, trivial⟩) mixed (by kernel_rfl) (by kernel_rfl) (by kernel_rfl) 0 (by kernel_rfl) false trivial ?_
  intro args H
  by_cases hx : ∃ (a0 : Int) (a1_0 : Int) (a1_1 : Int) (a2_0 : Int) (a2_1 : Int), args = [.int .u8 a0, .agg [.int .u64 a1_0, .int .u64 a1_1], .agg [.int .u64 a2_0, .int .u64 a2_1]] ∧ H = []
  · obtain ⟨a0, a1_0, a1_1, a2_0, a2_1, rfl, rfl⟩ := hx
    right; intro K
    exact iff_of_eq (X_order_Max.eq a0 a1_0 a1_1 a2_0 a2_1 K).symm
  · left; intro K h
    simp only [e_order_Max] at h
    split at h
    · exact hx ⟨_, _, _, _, _, rfl, rfl⟩
    · exact h
noncomputable def e_r02_And : Entry := ⟨[none, none], false, fun args H K => match args, H with
  | [.arr .u64 6 a0, .arr .u64 6 a1], [] => r02_And a0 a1 (fun y0 => K (EV.arr IntKind.u64 6 y0) [])
  | _, _ => False⟩
noncomputable def E_r02_And : Env := ⟨look tys, look [], look [(2, r02_And.l2.entry)], gl, lookL [], false⟩
theorem r02_And.l2X.stepEq (R : List EV → Heap → Prop) (K : Ex → List EV → Heap → Prop) (x0 : Int) (x1 : Nat → Int) (x2 : Nat → Int) (x3 : Nat → Int) : loopStep (evCode E_r02_And (loopAt Tryd.f60 0) { (LV.mk 20 [(0, 20)] 16 0 false) with nx := live (.loop (loopAt Tryd.f60 0)) (LV.mk 20 [(0, 20)] 16 0 false) }) (live (.loop (loopAt Tryd.f60 0)) (LV.mk 20 [(0, 20)] 16 0 false)) (LV.mk 20 [(0, 20)] 16 0 false) 0 20 R [EV.ptr 0 [], EV.ptr 1 [], EV.ptr 2 [], EV.int IntKind.i64 x0] [some (EV.arr IntKind.u64 6 x1), some (EV.arr IntKind.u64 6 x2), some (EV.arr IntKind.u64 6 x3)] K = r02_And.l2.step (fun x0 x1 x2 x3 => R [EV.ptr 0 [], EV.ptr 1 [], EV.ptr 2 [], EV.int IntKind.i64 x0] [some (EV.arr IntKind.u64 6 x1), some (EV.arr IntKind.u64 6 x2), some (EV.arr IntKind.u64 6 x3)]) (fun y0 y1 => K (.exit 0) [EV.ptr 0 [], EV.ptr 1 []] [some (EV.arr IntKind.u64 6 y0), some (EV.arr IntKind.u64 6 y1)]) x0 x1 x2 x3 := by kernel_rfl
theorem r02_And.l2X.eq (K : Ex → List EV → Heap → Prop) : ∀ (n : Nat) (x0 : Int) (x1 : Nat → Int) (x2 : Nat → Int) (x3 : Nat → Int), loopE E_r02_And (loopAt Tryd.f60 0) (LV.mk 20 [(0, 20)] 16 0 false) 0 20 K n [EV.ptr 0 [], EV.ptr 1 [], EV.ptr 2 [], EV.int IntKind.i64 x0] [some (EV.arr IntKind.u64 6 x1), some (EV.arr IntKind.u64 6 x2), some (EV.arr IntKind.u64 6 x3)] = r02_And.l2 (fun y0 y1 => K (.exit 0) [EV.ptr 0 [], EV.ptr 1 []] [some (EV.arr IntKind.u64 6 y0), some (EV.arr IntKind.u64 6 y1)]) n x0 x1 x2 x3
  | 0, _, _, _, _ => rfl
  | n + 1, x0, x1, x2, x3 => by
    have ih : (fun (x0 : Int) (x1 : Nat → Int) (x2 : Nat → Int) (x3 : Nat → Int) => loopE E_r02_And (loopAt Tryd.f60 0) (LV.mk 20 [(0, 20)] 16 0 false) 0 20 K n [EV.ptr 0 [], EV.ptr 1 [], EV.ptr 2 [], EV.int IntKind.i64 x0] [some (EV.arr IntKind.u64 6 x1), some (EV.arr IntKind.u64 6 x2), some (EV.arr IntKind.u64 6 x3)]) = r02_And.l2 (fun y0 y1 => K (.exit 0) [EV.ptr 0 [], EV.ptr 1 []] [some (EV.arr IntKind.u64 6 y0), some (EV.arr IntKind.u64 6 y1)]) n := by funext x0 x1 x2 x3; exact r02_And.l2X.eq K n x0 x1 x2 x3
    show loopStep _ _ _ _ _ (loopE E_r02_And (loopAt Tryd.f60 0) (LV.mk 20 [(0, 20)] 16 0 false) 0 20 K n) [EV.ptr 0 [], EV.ptr 1 [], EV.ptr 2 [], EV.int IntKind.i64 x0] [some (EV.arr IntKind.u64 6 x1), some (EV.arr IntKind.u64 6 x2), some (EV.arr IntKind.u64 6 x3)] K = r02_And.l2.step (r02_And.l2 (fun y0 y1 => K (.exit 0) [EV.ptr 0 [], EV.ptr 1 []] [some (EV.arr IntKind.u64 6 y0), some (EV.arr IntKind.u64 6 y1)]) n) (fun y0 y1 => K (.exit 0) [EV.ptr 0 [], EV.ptr 1 []] [some (EV.arr IntKind.u64 6 y0), some (EV.arr IntKind.u64 6 y1)]) x0 x1 x2 x3
    rw [← ih]
    exact r02_And.l2X.stepEq _ K x0 x1 x2 x3
theorem r02_And.l2X.ok : LoopEq E_r02_And (loopAt Tryd.f60 0) := by
  intro L hL vs H
  have h1 : E_r02_And.lp (firstRegion (loopAt Tryd.f60 0)) = some r02_And.l2.entry := by kernel_rfl
  have h2 : L = r02_And.l2.entry := Option.some.inj (hL.symm.trans h1)
  subst h2
  by_cases hx : ∃ (x0 : Int) (x1 : Nat → Int) (x2 : Nat → Int) (x3 : Nat → Int), vs = [EV.ptr 0 [], EV.ptr 1 [], EV.ptr 2 [], EV.int IntKind.i64 x0] ∧ H = [some (EV.arr IntKind.u64 6 x1), some (EV.arr IntKind.u64 6 x2), some (EV.arr IntKind.u64 6 x3)]
  · obtain ⟨x0, x1, x2, x3, rfl, rfl⟩ := hx
    right; intro K
    exact exists_congr fun n => iff_of_eq (r02_And.l2X.eq K n x0 x1 x2 x3).symm
  · left; intro K h
    simp only [r02_And.l2.entry] at h
    split at h
    · exact hx ⟨_, _, _, _, rfl, rfl⟩
    · exact h
theorem X_r02_And.eq (a0 : Nat → Int) (a1 : Nat → Int) (K : EV → Heap → Prop) : evFn E_r02_And Tryd.f60 false [.arr .u64 6 a0, .arr .u64 6 a1] [] K = r02_And a0 a1 (fun y0 => K (EV.arr IntKind.u64 6 y0) []) := by
  have h : evFn E_r02_And Tryd.f60 false [.arr .u64 6 a0, .arr .u64 6 a1] [] K = r02_And.d a0 a1 (fun y0 => K (EV.arr IntKind.u64 6 y0) []) := by kernel_rfl
  rw [r02_And.is]; exact h
theorem X_r02_And.ok : SoundE Tryd.prog gl 60 e_r02_And := by
  refine fnOK (E := E_r02_And) (fn := Tryd.f60) rfl tys_ok rfl (show AllL _ [] from trivial) mixed (by kernel_rfl) (by kernel_rfl) (by kernel_rfl) 1 (by kernel_rfl) false ⟨r02_And.l2X.ok, trivial⟩ ?_
  intro args H
  by_cases hx : ∃ (a0 : Nat → Int) (a1 : Nat → Int), args = [.arr .u64 6 a0, .arr .u64 6 a1] ∧ H = []
  · obtain ⟨a0, a1, rfl, rfl⟩ := hx
    right; intro K
    exact iff_of_eq (X_r02_And.eq a0 a1 K).symm
  · left; intro K h
    simp only [e_r02_And] at h
    split at h
    · exact hx ⟨_, _, rfl, rfl⟩
    · exact h
noncomputable def e_r02_Count : Entry := ⟨[none], false, fun args H K => match args, H with
  | [.int .i64 a0], [] => r02_Count a0 (fun y0 => K (EV.int IntKind.i64 y0) [])
  | _, _ => False⟩
noncomputable def E_r02_Count : Env := ⟨look tys, look [], look [], gl, lookL [], false⟩
theorem X_r02_Count.eq (a0 : Int) (K : EV → Heap → Prop) : evFn E_r02_Count Tryd.f93 false [.int .i64 a0] [] K = r02_Count a0 (fun y0 => K (EV.int IntKind.i64 y0) []) := by
  have h : evFn E_r02_Count Tryd.f93 false [.int .i64 a0] [] K = r02_Count.d a0 (fun y0 => K (EV.int IntKind.i64 y0) []) := by kernel_rfl
  rw [r02_Count.is]; exact h
theorem X_r02_Count.ok : SoundE Tryd.prog gl 93 e_r02_Count := by
  refine fnOK (E := E_r02_Count) (fn := Tryd.f93) rfl tys_ok rfl (show AllL _ [] from trivial) mixed (by kernel_rfl) (by kernel_rfl) (by kernel_rfl) 0 (by kernel_rfl) false trivial ?_
  intro args H
  by_cases hx : ∃ (a0 : Int), args = [.int .i64 a0] ∧ H = []
  · obtain ⟨a0, rfl, rfl⟩ := hx
    right; intro K
    exact iff_of_eq (X_r02_Count.eq a0 K).symm
  · left; intro K h
    simp only [e_r02_Count] at h
    split at h
    · exact hx ⟨_, rfl, rfl⟩
    · exact h
noncomputable def e_r02_Mask : Entry := ⟨[none], false, fun args H K => match args, H with
  | [.int .i64 a0], [] => r02_Mask a0 (fun y0 => K (EV.arr IntKind.u64 6 y0) [])
  | _, _ => False⟩
noncomputable def E_r02_Mask : Env := ⟨look tys, look [(93, e_r02_Count)], look [(4, r02_Mask.l4.entry)], gl, lookL [], false⟩
theorem r02_Mask.l4X.stepEq (R : List EV → Heap → Prop) (K : Ex → List EV → Heap → Prop) (x0 : Int) (x1 : Int) (x2 : Nat → Int) (x3 : Nat → Int) : loopStep (evCode E_r02_Mask (loopAt Tryd.f62 0) { (LV.mk 12 [(0, 12)] 4 0 false) with nx := live (.loop (loopAt Tryd.f62 0)) (LV.mk 12 [(0, 12)] 4 0 false) }) (live (.loop (loopAt Tryd.f62 0)) (LV.mk 12 [(0, 12)] 4 0 false)) (LV.mk 12 [(0, 12)] 4 0 false) 0 25 R [EV.int IntKind.i64 x0, EV.ptr 0 [], EV.ptr 1 [], EV.int IntKind.i64 x1] [some (EV.arr IntKind.u64 6 x2), some (EV.arr IntKind.u64 6 x3)] K = r02_Mask.l4.step (fun x0 x1 x2 x3 => R [EV.int IntKind.i64 x0, EV.ptr 0 [], EV.ptr 1 [], EV.int IntKind.i64 x1] [some (EV.arr IntKind.u64 6 x2), some (EV.arr IntKind.u64 6 x3)]) (fun y0 y1 => K (.exit 0) [EV.ptr 0 [], EV.ptr 1 []] [some (EV.arr IntKind.u64 6 y0), some (EV.arr IntKind.u64 6 y1)]) x0 x1 x2 x3 := by kernel_rfl
theorem r02_Mask.l4X.eq (K : Ex → List EV → Heap → Prop) : ∀ (n : Nat) (x0 : Int) (x1 : Int) (x2 : Nat → Int) (x3 : Nat → Int), loopE E_r02_Mask (loopAt Tryd.f62 0) (LV.mk 12 [(0, 12)] 4 0 false) 0 25 K n [EV.int IntKind.i64 x0, EV.ptr 0 [], EV.ptr 1 [], EV.int IntKind.i64 x1] [some (EV.arr IntKind.u64 6 x2), some (EV.arr IntKind.u64 6 x3)] = r02_Mask.l4 (fun y0 y1 => K (.exit 0) [EV.ptr 0 [], EV.ptr 1 []] [some (EV.arr IntKind.u64 6 y0), some (EV.arr IntKind.u64 6 y1)]) n x0 x1 x2 x3
  | 0, _, _, _, _ => rfl
  | n + 1, x0, x1, x2, x3 => by
    have ih : (fun (x0 : Int) (x1 : Int) (x2 : Nat → Int) (x3 : Nat → Int) => loopE E_r02_Mask (loopAt Tryd.f62 0) (LV.mk 12 [(0, 12)] 4 0 false) 0 25 K n [EV.int IntKind.i64 x0, EV.ptr 0 [], EV.ptr 1 [], EV.int IntKind.i64 x1] [some (EV.arr IntKind.u64 6 x2), some (EV.arr IntKind.u64 6 x3)]) = r02_Mask.l4 (fun y0 y1 => K (.exit 0) [EV.ptr 0 [], EV.ptr 1 []] [some (EV.arr IntKind.u64 6 y0), some (EV.arr IntKind.u64 6 y1)]) n := by funext x0 x1 x2 x3; exact r02_Mask.l4X.eq K n x0 x1 x2 x3
    show loopStep _ _ _ _ _ (loopE E_r02_Mask (loopAt Tryd.f62 0) (LV.mk 12 [(0, 12)] 4 0 false) 0 25 K n) [EV.int IntKind.i64 x0, EV.ptr 0 [], EV.ptr 1 [], EV.int IntKind.i64 x1] [some (EV.arr IntKind.u64 6 x2), some (EV.arr IntKind.u64 6 x3)] K = r02_Mask.l4.step (r02_Mask.l4 (fun y0 y1 => K (.exit 0) [EV.ptr 0 [], EV.ptr 1 []] [some (EV.arr IntKind.u64 6 y0), some (EV.arr IntKind.u64 6 y1)]) n) (fun y0 y1 => K (.exit 0) [EV.ptr 0 [], EV.ptr 1 []] [some (EV.arr IntKind.u64 6 y0), some (EV.arr IntKind.u64 6 y1)]) x0 x1 x2 x3
    rw [← ih]
    exact r02_Mask.l4X.stepEq _ K x0 x1 x2 x3
theorem r02_Mask.l4X.ok : LoopEq E_r02_Mask (loopAt Tryd.f62 0) := by
  intro L hL vs H
  have h1 : E_r02_Mask.lp (firstRegion (loopAt Tryd.f62 0)) = some r02_Mask.l4.entry := by kernel_rfl
  have h2 : L = r02_Mask.l4.entry := Option.some.inj (hL.symm.trans h1)
  subst h2
  by_cases hx : ∃ (x0 : Int) (x1 : Int) (x2 : Nat → Int) (x3 : Nat → Int), vs = [EV.int IntKind.i64 x0, EV.ptr 0 [], EV.ptr 1 [], EV.int IntKind.i64 x1] ∧ H = [some (EV.arr IntKind.u64 6 x2), some (EV.arr IntKind.u64 6 x3)]
  · obtain ⟨x0, x1, x2, x3, rfl, rfl⟩ := hx
    right; intro K
    exact exists_congr fun n => iff_of_eq (r02_Mask.l4X.eq K n x0 x1 x2 x3).symm
  · left; intro K h
    simp only [r02_Mask.l4.entry] at h
    split at h
    · exact hx ⟨_, _, _, _, rfl, rfl⟩
    · exact h
theorem X_r02_Mask.eq (a0 : Int) (K : EV → Heap → Prop) : evFn E_r02_Mask Tryd.f62 false [.int .i64 a0] [] K = r02_Mask a0 (fun y0 => K (EV.arr IntKind.u64 6 y0) []) := by
  have h : evFn E_r02_Mask Tryd.f62 false [.int .i64 a0] [] K = r02_Mask.d a0 (fun y0 => K (EV.arr IntKind.u64 6 y0) []) := by kernel_rfl
  rw [r02_Mask.is]; exact h
theorem X_r02_Mask.ok : SoundE Tryd.prog gl 62 e_r02_Mask := by
  refine fnOK (E := E_r02_Mask) (fn := Tryd.f62) rfl tys_ok rfl (show AllL _ [(93, e_r02_Count)] from ⟨X_r02_Count.ok, trivial⟩) mixed (by kernel_rfl) (by kernel_rfl) (by kernel_rfl) 1 (by kernel_rfl) false ⟨r02_Mask.l4X.ok, trivial⟩ ?_
  intro args H
  by_cases hx : ∃ (a0 : Int), args = [.int .i64 a0] ∧ H = []
  · obtain ⟨a0, rfl, rfl⟩ := hx
    right; intro K
    exact iff_of_eq (X_r02_Mask.eq a0 K).symm
  · left; intro K h
    simp only [e_r02_Mask] at h
    split at h
    · exact hx ⟨_, rfl, rfl⟩
    · exact h
noncomputable def e_r02_Bit : Entry := ⟨[none, none], false, fun args H K => match args, H with
  | [.arr .u64 6 a0, .int .i64 a1], [] => r02_Bit a0 a1 (fun y0 => K (EV.bool y0) [])
  | _, _ => False⟩
noncomputable def E_r02_Bit : Env := ⟨look tys, look [(91, e_r01_Bit)], look [], gl, lookL [], false⟩
theorem X_r02_Bit.eq (a0 : Nat → Int) (a1 : Int) (K : EV → Heap → Prop) : evFn E_r02_Bit Tryd.f83 false [.arr .u64 6 a0, .int .i64 a1] [] K = r02_Bit a0 a1 (fun y0 => K (EV.bool y0) []) := by
  have h : evFn E_r02_Bit Tryd.f83 false [.arr .u64 6 a0, .int .i64 a1] [] K = r02_Bit.d a0 a1 (fun y0 => K (EV.bool y0) []) := by kernel_rfl
  rw [r02_Bit.is]; exact h
theorem X_r02_Bit.ok : SoundE Tryd.prog gl 83 e_r02_Bit := by
  refine fnOK (E := E_r02_Bit) (fn := Tryd.f83) rfl tys_ok rfl (show AllL _ [(91, e_r01_Bit)] from ⟨X_r01_Bit.ok, trivial⟩) mixed (by kernel_rfl) (by kernel_rfl) (by kernel_rfl) 0 (by kernel_rfl) false trivial ?_
  intro args H
  by_cases hx : ∃ (a0 : Nat → Int) (a1 : Int), args = [.arr .u64 6 a0, .int .i64 a1] ∧ H = []
  · obtain ⟨a0, a1, rfl, rfl⟩ := hx
    right; intro K
    exact iff_of_eq (X_r02_Bit.eq a0 a1 K).symm
  · left; intro K h
    simp only [e_r02_Bit] at h
    split at h
    · exact hx ⟨_, _, rfl, rfl⟩
    · exact h
noncomputable def e_r07_Precision : Entry := ⟨[none], false, fun args H K => match args, H with
  | [.int .u8 a0], [] => r07_Precision a0 (fun y0 => K (EV.int IntKind.i64 y0) [])
  | _, _ => False⟩
noncomputable def E_r07_Precision : Env := ⟨look tys, look [], look [], gl, lookL [], false⟩
theorem X_r07_Precision.eq (a0 : Int) (K : EV → Heap → Prop) : evFn E_r07_Precision Tryd.f84 false [.int .u8 a0] [] K = r07_Precision a0 (fun y0 => K (EV.int IntKind.i64 y0) []) := by
  have h : evFn E_r07_Precision Tryd.f84 false [.int .u8 a0] [] K = r07_Precision.d a0 (fun y0 => K (EV.int IntKind.i64 y0) []) := by kernel_rfl
  rw [r07_Precision.is]; exact h
theorem X_r07_Precision.ok : SoundE Tryd.prog gl 84 e_r07_Precision := by
  refine fnOK (E := E_r07_Precision) (fn := Tryd.f84) rfl tys_ok rfl (show AllL _ [] from trivial) mixed (by kernel_rfl) (by kernel_rfl) (by kernel_rfl) 0 (by kernel_rfl) false trivial ?_
  intro args H
  by_cases hx : ∃ (a0 : Int), args = [.int .u8 a0] ∧ H = []
  · obtain ⟨a0, rfl, rfl⟩ := hx
    right; intro K
    exact iff_of_eq (X_r07_Precision.eq a0 K).symm
  · left; intro K h
    simp only [e_r07_Precision] at h
    split at h
    · exact hx ⟨_, rfl, rfl⟩
    · exact h
noncomputable def e_r02_Right : Entry := ⟨[none, none], false, fun args H K => match args, H with
  | [.arr .u64 6 a0, .int .i64 a1], [] => r02_Right a0 a1 (fun y0 y1 => K (EV.tuple [EV.arr IntKind.u64 6 y0, EV.bool y1]) [])
  | _, _ => False⟩
noncomputable def E_r02_Right : Env := ⟨look tys, look [(83, e_r02_Bit), (93, e_r02_Count)], look [(5, r02_Right.l5.entry)], gl, lookL [], false⟩
theorem r02_Right.l5X.stepEq (R : List EV → Heap → Prop) (K : Ex → List EV → Heap → Prop) (x0 : Int) (x1 : Bool) (x2 : Int) (x3 : Nat → Int) (x4 : Nat → Int) (x5 : Nat → Int) : loopStep (evCode E_r02_Right (loopAt Tryd.f85 0) { (LV.mk 208 [(0, 208)] 48 0 false) with nx := live (.loop (loopAt Tryd.f85 0)) (LV.mk 208 [(0, 208)] 48 0 false) }) (live (.loop (loopAt Tryd.f85 0)) (LV.mk 208 [(0, 208)] 48 0 false)) (LV.mk 208 [(0, 208)] 48 0 false) 0 41 R [EV.int IntKind.i64 x0, EV.ptr 0 [], EV.ptr 1 [], EV.ptr 2 [], EV.bool x1, EV.int IntKind.i64 x2] [some (EV.arr IntKind.u64 6 x3), some (EV.arr IntKind.u64 6 x4), some (EV.arr IntKind.u64 6 x5)] K = r02_Right.l5.step (fun x0 x1 x2 x3 x4 x5 => R [EV.int IntKind.i64 x0, EV.ptr 0 [], EV.ptr 1 [], EV.ptr 2 [], EV.bool x1, EV.int IntKind.i64 x2] [some (EV.arr IntKind.u64 6 x3), some (EV.arr IntKind.u64 6 x4), some (EV.arr IntKind.u64 6 x5)]) (fun y0 y1 y2 => K (.exit 0) [EV.ptr 0 [], EV.ptr 1 [], EV.bool y0] [some (EV.arr IntKind.u64 6 y1), some (EV.arr IntKind.u64 6 y2)]) x0 x1 x2 x3 x4 x5 := by kernel_rfl
theorem r02_Right.l5X.eq (K : Ex → List EV → Heap → Prop) : ∀ (n : Nat) (x0 : Int) (x1 : Bool) (x2 : Int) (x3 : Nat → Int) (x4 : Nat → Int) (x5 : Nat → Int), loopE E_r02_Right (loopAt Tryd.f85 0) (LV.mk 208 [(0, 208)] 48 0 false) 0 41 K n [EV.int IntKind.i64 x0, EV.ptr 0 [], EV.ptr 1 [], EV.ptr 2 [], EV.bool x1, EV.int IntKind.i64 x2] [some (EV.arr IntKind.u64 6 x3), some (EV.arr IntKind.u64 6 x4), some (EV.arr IntKind.u64 6 x5)] = r02_Right.l5 (fun y0 y1 y2 => K (.exit 0) [EV.ptr 0 [], EV.ptr 1 [], EV.bool y0] [some (EV.arr IntKind.u64 6 y1), some (EV.arr IntKind.u64 6 y2)]) n x0 x1 x2 x3 x4 x5
  | 0, _, _, _, _, _, _ => rfl
  | n + 1, x0, x1, x2, x3, x4, x5 => by
    have ih : (fun (x0 : Int) (x1 : Bool) (x2 : Int) (x3 : Nat → Int) (x4 : Nat → Int) (x5 : Nat → Int) => loopE E_r02_Right (loopAt Tryd.f85 0) (LV.mk 208 [(0, 208)] 48 0 false) 0 41 K n [EV.int IntKind.i64 x0, EV.ptr 0 [], EV.ptr 1 [], EV.ptr 2 [], EV.bool x1, EV.int IntKind.i64 x2] [some (EV.arr IntKind.u64 6 x3), some (EV.arr IntKind.u64 6 x4), some (EV.arr IntKind.u64 6 x5)]) = r02_Right.l5 (fun y0 y1 y2 => K (.exit 0) [EV.ptr 0 [], EV.ptr 1 [], EV.bool y0] [some (EV.arr IntKind.u64 6 y1), some (EV.arr IntKind.u64 6 y2)]) n := by funext x0 x1 x2 x3 x4 x5; exact r02_Right.l5X.eq K n x0 x1 x2 x3 x4 x5
    show loopStep _ _ _ _ _ (loopE E_r02_Right (loopAt Tryd.f85 0) (LV.mk 208 [(0, 208)] 48 0 false) 0 41 K n) [EV.int IntKind.i64 x0, EV.ptr 0 [], EV.ptr 1 [], EV.ptr 2 [], EV.bool x1, EV.int IntKind.i64 x2] [some (EV.arr IntKind.u64 6 x3), some (EV.arr IntKind.u64 6 x4), some (EV.arr IntKind.u64 6 x5)] K = r02_Right.l5.step (r02_Right.l5 (fun y0 y1 y2 => K (.exit 0) [EV.ptr 0 [], EV.ptr 1 [], EV.bool y0] [some (EV.arr IntKind.u64 6 y1), some (EV.arr IntKind.u64 6 y2)]) n) (fun y0 y1 y2 => K (.exit 0) [EV.ptr 0 [], EV.ptr 1 [], EV.bool y0] [some (EV.arr IntKind.u64 6 y1), some (EV.arr IntKind.u64 6 y2)]) x0 x1 x2 x3 x4 x5
    rw [← ih]
    exact r02_Right.l5X.stepEq _ K x0 x1 x2 x3 x4 x5
theorem r02_Right.l5X.ok : LoopEq E_r02_Right (loopAt Tryd.f85 0) := by
  intro L hL vs H
  have h1 : E_r02_Right.lp (firstRegion (loopAt Tryd.f85 0)) = some r02_Right.l5.entry := by kernel_rfl
  have h2 : L = r02_Right.l5.entry := Option.some.inj (hL.symm.trans h1)
  subst h2
  by_cases hx : ∃ (x0 : Int) (x1 : Bool) (x2 : Int) (x3 : Nat → Int) (x4 : Nat → Int) (x5 : Nat → Int), vs = [EV.int IntKind.i64 x0, EV.ptr 0 [], EV.ptr 1 [], EV.ptr 2 [], EV.bool x1, EV.int IntKind.i64 x2] ∧ H = [some (EV.arr IntKind.u64 6 x3), some (EV.arr IntKind.u64 6 x4), some (EV.arr IntKind.u64 6 x5)]
  · obtain ⟨x0, x1, x2, x3, x4, x5, rfl, rfl⟩ := hx
    right; intro K
    exact exists_congr fun n => iff_of_eq (r02_Right.l5X.eq K n x0 x1 x2 x3 x4 x5).symm
  · left; intro K h
    simp only [r02_Right.l5.entry] at h
    split at h
    · exact hx ⟨_, _, _, _, _, _, rfl, rfl⟩
    · exact h
theorem X_r02_Right.eq (a0 : Nat → Int) (a1 : Int) (K : EV → Heap → Prop) : evFn E_r02_Right Tryd.f85 false [.arr .u64 6 a0, .int .i64 a1] [] K = r02_Right a0 a1 (fun y0 y1 => K (EV.tuple [EV.arr IntKind.u64 6 y0, EV.bool y1]) []) := by
  have h : evFn E_r02_Right Tryd.f85 false [.arr .u64 6 a0, .int .i64 a1] [] K = r02_Right.d a0 a1 (fun y0 y1 => K (EV.tuple [EV.arr IntKind.u64 6 y0, EV.bool y1]) []) := by kernel_rfl
  rw [r02_Right.is]; exact h
theorem X_r02_Right.ok : SoundE Tryd.prog gl 85 e_r02_Right := by
  refine fnOK (E := E_r02_Right) (fn := Tryd.f85) rfl tys_ok rfl (show AllL _ [(83, e_r02_Bit), (93, e_r02_Count)] from ⟨X_r02_Bit.ok, X_r02_Count.ok, trivial⟩) mixed (by kernel_rfl) (by kernel_rfl) (by kernel_rfl) 1 (by kernel_rfl) false ⟨r02_Right.l5X.ok, trivial⟩ ?_
  intro args H
  by_cases hx : ∃ (a0 : Nat → Int) (a1 : Int), args = [.arr .u64 6 a0, .int .i64 a1] ∧ H = []
  · obtain ⟨a0, a1, rfl, rfl⟩ := hx
    right; intro K
    exact iff_of_eq (X_r02_Right.eq a0 a1 K).symm
  · left; intro K h
    simp only [e_r02_Right] at h
    split at h
    · exact hx ⟨_, _, rfl, rfl⟩
    · exact h
noncomputable def e_r07_Emax : Entry := ⟨[none], false, fun args H K => match args, H with
  | [.int .u8 a0], [] => r07_Emax a0 (fun y0 => K (EV.int IntKind.i64 y0) [])
  | _, _ => False⟩
noncomputable def E_r07_Emax : Env := ⟨look tys, look [], look [], gl, lookL [], false⟩
theorem X_r07_Emax.eq (a0 : Int) (K : EV → Heap → Prop) : evFn E_r07_Emax Tryd.f112 false [.int .u8 a0] [] K = r07_Emax a0 (fun y0 => K (EV.int IntKind.i64 y0) []) := by
  have h : evFn E_r07_Emax Tryd.f112 false [.int .u8 a0] [] K = r07_Emax.d a0 (fun y0 => K (EV.int IntKind.i64 y0) []) := by kernel_rfl
  rw [r07_Emax.is]; exact h
theorem X_r07_Emax.ok : SoundE Tryd.prog gl 112 e_r07_Emax := by
  refine fnOK (E := E_r07_Emax) (fn := Tryd.f112) rfl tys_ok rfl (show AllL _ [] from trivial) mixed (by kernel_rfl) (by kernel_rfl) (by kernel_rfl) 0 (by kernel_rfl) false trivial ?_
  intro args H
  by_cases hx : ∃ (a0 : Int), args = [.int .u8 a0] ∧ H = []
  · obtain ⟨a0, rfl, rfl⟩ := hx
    right; intro K
    exact iff_of_eq (X_r07_Emax.eq a0 K).symm
  · left; intro K h
    simp only [e_r07_Emax] at h
    split at h
    · exact hx ⟨_, rfl, rfl⟩
    · exact h
noncomputable def e_r07_Ones : Entry := ⟨[none], false, fun args H K => match args, H with
  | [.int .u8 a0], [] => r07_Ones a0 (fun y0 => K (EV.int IntKind.i64 y0) [])
  | _, _ => False⟩
noncomputable def E_r07_Ones : Env := ⟨look tys, look [(112, e_r07_Emax)], look [], gl, lookL [], false⟩
theorem X_r07_Ones.eq (a0 : Int) (K : EV → Heap → Prop) : evFn E_r07_Ones Tryd.f86 false [.int .u8 a0] [] K = r07_Ones a0 (fun y0 => K (EV.int IntKind.i64 y0) []) := by
  have h : evFn E_r07_Ones Tryd.f86 false [.int .u8 a0] [] K = r07_Ones.d a0 (fun y0 => K (EV.int IntKind.i64 y0) []) := by kernel_rfl
  rw [r07_Ones.is]; exact h
theorem X_r07_Ones.ok : SoundE Tryd.prog gl 86 e_r07_Ones := by
  refine fnOK (E := E_r07_Ones) (fn := Tryd.f86) rfl tys_ok rfl (show AllL _ [(112, e_r07_Emax)] from ⟨X_r07_Emax.ok, trivial⟩) mixed (by kernel_rfl) (by kernel_rfl) (by kernel_rfl) 0 (by kernel_rfl) false trivial ?_
  intro args H
  by_cases hx : ∃ (a0 : Int), args = [.int .u8 a0] ∧ H = []
  · obtain ⟨a0, rfl, rfl⟩ := hx
    right; intro K
    exact iff_of_eq (X_r07_Ones.eq a0 K).symm
  · left; intro K h
    simp only [e_r07_Ones] at h
    split at h
    · exact hx ⟨_, rfl, rfl⟩
    · exact h
noncomputable def e_r07_Fields : Entry := ⟨[none, none], false, fun args H K => match args, H with
  | [.int .u8 a0, .agg [.int .u64 a1_0, .int .u64 a1_1]], [] => r07_Fields a0 a1_0 a1_1 (fun y0 y1 y2 => K (EV.tuple [EV.bool y0, EV.int IntKind.i64 y1, EV.arr IntKind.u64 6 y2]) [])
  | _, _ => False⟩
noncomputable def E_r07_Fields : Env := ⟨look tys, look [(48, e_r02_OfBits), (49, e_r07_Width), (60, e_r02_And), (62, e_r02_Mask), (83, e_r02_Bit), (84, e_r07_Precision), (85, e_r02_Right), (86, e_r07_Ones)], look [], gl, lookL [], false⟩
theorem X_r07_Fields.eq (a0 : Int) (a1_0 : Int) (a1_1 : Int) (K : EV → Heap → Prop) : evFn E_r07_Fields Tryd.f50 false [.int .u8 a0, .agg [.int .u64 a1_0, .int .u64 a1_1]] [] K = r07_Fields a0 a1_0 a1_1 (fun y0 y1 y2 => K (EV.tuple [EV.bool y0, EV.int IntKind.i64 y1, EV.arr IntKind.u64 6 y2]) []) := by
  have h : evFn E_r07_Fields Tryd.f50 false [.int .u8 a0, .agg [.int .u64 a1_0, .int .u64 a1_1]] [] K = r07_Fields.d a0 a1_0 a1_1 (fun y0 y1 y2 => K (EV.tuple [EV.bool y0, EV.int IntKind.i64 y1, EV.arr IntKind.u64 6 y2]) []) := by kernel_rfl
  rw [r07_Fields.is]; exact h
theorem X_r07_Fields.ok : SoundE Tryd.prog gl 50 e_r07_Fields := by
  refine fnOK (E := E_r07_Fields) (fn := Tryd.f50) rfl tys_ok rfl (show AllL _ [(48, e_r02_OfBits), (49, e_r07_Width), (60, e_r02_And), (62, e_r02_Mask), (83, e_r02_Bit), (84, e_r07_Precision), (85, e_r02_Right), (86, e_r07_Ones)] from ⟨X_r02_OfBits.ok, X_r07_Width.ok, X_r02_And.ok, X_r02_Mask.ok, X_r02_Bit.ok, X_r07_Precision.ok, X_r02_Right.ok, X_r07_Ones.ok, trivial⟩) mixed (by kernel_rfl) (by kernel_rfl) (by kernel_rfl) 0 (by kernel_rfl) false trivial ?_
  intro args H
  by_cases hx : ∃ (a0 : Int) (a1_0 : Int) (a1_1 : Int), args = [.int .u8 a0, .agg [.int .u64 a1_0, .int .u64 a1_1]] ∧ H = []
  · obtain ⟨a0, a1_0, a1_1, rfl, rfl⟩ := hx
    right; intro K
    exact iff_of_eq (X_r07_Fields.eq a0 a1_0 a1_1 K).symm
  · left; intro K h
    simp only [e_r07_Fields] at h
    split at h
    · exact hx ⟨_, _, _, rfl, rfl⟩
    · exact h
noncomputable def e_r08_Class : Entry := ⟨[none, none], false, fun args H K => match args, H with
  | [.int .u8 a0, .agg [.int .u64 a1_0, .int .u64 a1_1]], [] => r08_Class a0 a1_0 a1_1 (fun y0 => K (EV.int IntKind.u8 y0) [])
  | _, _ => False⟩
noncomputable def E_r08_Class : Env := ⟨look tys, look [(50, e_r07_Fields), (83, e_r02_Bit), (84, e_r07_Precision), (86, e_r07_Ones)], look [], gl, lookL [], false⟩
theorem X_r08_Class.eq (a0 : Int) (a1_0 : Int) (a1_1 : Int) (K : EV → Heap → Prop) : evFn E_r08_Class Tryd.f52 false [.int .u8 a0, .agg [.int .u64 a1_0, .int .u64 a1_1]] [] K = r08_Class a0 a1_0 a1_1 (fun y0 => K (EV.int IntKind.u8 y0) []) := by
  have h : evFn E_r08_Class Tryd.f52 false [.int .u8 a0, .agg [.int .u64 a1_0, .int .u64 a1_1]] [] K = r08_Class.d a0 a1_0 a1_1 (fun y0 => K (EV.int IntKind.u8 y0) []) := by kernel_rfl
  rw [r08_Class.is]; exact h
theorem X_r08_Class.ok : SoundE Tryd.prog gl 52 e_r08_Class := by
  refine fnOK (E := E_r08_Class) (fn := Tryd.f52) rfl tys_ok rfl (show AllL _ [(50, e_r07_Fields), (83, e_r02_Bit), (84, e_r07_Precision), (86, e_r07_Ones)] from ⟨X_r07_Fields.ok, X_r02_Bit.ok, X_r07_Precision.ok, X_r07_Ones.ok, trivial⟩) mixed (by kernel_rfl) (by kernel_rfl) (by kernel_rfl) 0 (by kernel_rfl) false trivial ?_
  intro args H
  by_cases hx : ∃ (a0 : Int) (a1_0 : Int) (a1_1 : Int), args = [.int .u8 a0, .agg [.int .u64 a1_0, .int .u64 a1_1]] ∧ H = []
  · obtain ⟨a0, a1_0, a1_1, rfl, rfl⟩ := hx
    right; intro K
    exact iff_of_eq (X_r08_Class.eq a0 a1_0 a1_1 K).symm
  · left; intro K h
    simp only [e_r08_Class] at h
    split at h
    · exact hx ⟨_, _, _, rfl, rfl⟩
    · exact h
noncomputable def e_r08_IsSignaling : Entry := ⟨[none, none], false, fun args H K => match args, H with
  | [.int .u8 a0, .agg [.int .u64 a1_0, .int .u64 a1_1]], [] => r08_IsSignaling a0 a1_0 a1_1 (fun y0 => K (EV.bool y0) [])
  | _, _ => False⟩
noncomputable def E_r08_IsSignaling : Env := ⟨look tys, look [(52, e_r08_Class)], look [], gl, lookL [], false⟩
theorem X_r08_IsSignaling.eq (a0 : Int) (a1_0 : Int) (a1_1 : Int) (K : EV → Heap → Prop) : evFn E_r08_IsSignaling Tryd.f72 false [.int .u8 a0, .agg [.int .u64 a1_0, .int .u64 a1_1]] [] K = r08_IsSignaling a0 a1_0 a1_1 (fun y0 => K (EV.bool y0) []) := by
  have h : evFn E_r08_IsSignaling Tryd.f72 false [.int .u8 a0, .agg [.int .u64 a1_0, .int .u64 a1_1]] [] K = r08_IsSignaling.d a0 a1_0 a1_1 (fun y0 => K (EV.bool y0) []) := by kernel_rfl
  rw [r08_IsSignaling.is]; exact h
theorem X_r08_IsSignaling.ok : SoundE Tryd.prog gl 72 e_r08_IsSignaling := by
  refine fnOK (E := E_r08_IsSignaling) (fn := Tryd.f72) rfl tys_ok rfl (show AllL _ [(52, e_r08_Class)] from ⟨X_r08_Class.ok, trivial⟩) mixed (by kernel_rfl) (by kernel_rfl) (by kernel_rfl) 0 (by kernel_rfl) false trivial ?_
  intro args H
  by_cases hx : ∃ (a0 : Int) (a1_0 : Int) (a1_1 : Int), args = [.int .u8 a0, .agg [.int .u64 a1_0, .int .u64 a1_1]] ∧ H = []
  · obtain ⟨a0, a1_0, a1_1, rfl, rfl⟩ := hx
    right; intro K
    exact iff_of_eq (X_r08_IsSignaling.eq a0 a1_0 a1_1 K).symm
  · left; intro K h
    simp only [e_r08_IsSignaling] at h
    split at h
    · exact hx ⟨_, _, _, rfl, rfl⟩
    · exact h
noncomputable def e_r16_Loud : Entry := ⟨[none, none, none], false, fun args H K => match args, H with
  | [.int .u8 a0, .agg [.int .u64 a1_0, .int .u64 a1_1], .agg [.int .u64 a2_0, .int .u64 a2_1]], [] => r16_Loud a0 a1_0 a1_1 a2_0 a2_1 (fun y0 => K (EV.int IntKind.u8 y0) [])
  | _, _ => False⟩
noncomputable def E_r16_Loud : Env := ⟨look tys, look [(72, e_r08_IsSignaling)], look [], gl, lookL [], false⟩
theorem X_r16_Loud.eq (a0 : Int) (a1_0 : Int) (a1_1 : Int) (a2_0 : Int) (a2_1 : Int) (K : EV → Heap → Prop) : evFn E_r16_Loud Tryd.f34 false [.int .u8 a0, .agg [.int .u64 a1_0, .int .u64 a1_1], .agg [.int .u64 a2_0, .int .u64 a2_1]] [] K = r16_Loud a0 a1_0 a1_1 a2_0 a2_1 (fun y0 => K (EV.int IntKind.u8 y0) []) := by
  have h : evFn E_r16_Loud Tryd.f34 false [.int .u8 a0, .agg [.int .u64 a1_0, .int .u64 a1_1], .agg [.int .u64 a2_0, .int .u64 a2_1]] [] K = r16_Loud.d a0 a1_0 a1_1 a2_0 a2_1 (fun y0 => K (EV.int IntKind.u8 y0) []) := by kernel_rfl
  rw [r16_Loud.is]; exact h
theorem X_r16_Loud.ok : SoundE Tryd.prog gl 34 e_r16_Loud := by
  refine fnOK (E := E_r16_Loud) (fn := Tryd.f34) rfl tys_ok rfl (show AllL _ [(72, e_r08_IsSignaling)] from ⟨X_r08_IsSignaling.ok, trivial⟩) mixed (by kernel_rfl) (by kernel_rfl) (by kernel_rfl) 0 (by kernel_rfl) false trivial ?_
  intro args H
  by_cases hx : ∃ (a0 : Int) (a1_0 : Int) (a1_1 : Int) (a2_0 : Int) (a2_1 : Int), args = [.int .u8 a0, .agg [.int .u64 a1_0, .int .u64 a1_1], .agg [.int .u64 a2_0, .int .u64 a2_1]] ∧ H = []
  · obtain ⟨a0, a1_0, a1_1, a2_0, a2_1, rfl, rfl⟩ := hx
    right; intro K
    exact iff_of_eq (X_r16_Loud.eq a0 a1_0 a1_1 a2_0 a2_1 K).symm
  · left; intro K h
    simp only [e_r16_Loud] at h
    split at h
    · exact hx ⟨_, _, _, _, _, rfl, rfl⟩
    · exact h
noncomputable def e_r08_Sign : Entry := ⟨[none, none], false, fun args H K => match args, H with
  | [.int .u8 a0, .agg [.int .u64 a1_0, .int .u64 a1_1]], [] => r08_Sign a0 a1_0 a1_1 (fun y0 => K (EV.bool y0) [])
  | _, _ => False⟩
noncomputable def E_r08_Sign : Env := ⟨look tys, look [(14, e_r07_Fits), (50, e_r07_Fields)], look [], gl, lookL [], false⟩
theorem X_r08_Sign.eq (a0 : Int) (a1_0 : Int) (a1_1 : Int) (K : EV → Heap → Prop) : evFn E_r08_Sign Tryd.f16 false [.int .u8 a0, .agg [.int .u64 a1_0, .int .u64 a1_1]] [] K = r08_Sign a0 a1_0 a1_1 (fun y0 => K (EV.bool y0) []) := by
  have h : evFn E_r08_Sign Tryd.f16 false [.int .u8 a0, .agg [.int .u64 a1_0, .int .u64 a1_1]] [] K = r08_Sign.d a0 a1_0 a1_1 (fun y0 => K (EV.bool y0) []) := by kernel_rfl
  rw [r08_Sign.is]; exact h
theorem X_r08_Sign.ok : SoundE Tryd.prog gl 16 e_r08_Sign := by
  refine fnOK (E := E_r08_Sign) (fn := Tryd.f16) rfl tys_ok rfl (show AllL _ [(14, e_r07_Fits), (50, e_r07_Fields)] from ⟨X_r07_Fits.ok, X_r07_Fields.ok, trivial⟩) mixed (by kernel_rfl) (by kernel_rfl) (by kernel_rfl) 0 (by kernel_rfl) false trivial ?_
  intro args H
  by_cases hx : ∃ (a0 : Int) (a1_0 : Int) (a1_1 : Int), args = [.int .u8 a0, .agg [.int .u64 a1_0, .int .u64 a1_1]] ∧ H = []
  · obtain ⟨a0, a1_0, a1_1, rfl, rfl⟩ := hx
    right; intro K
    exact iff_of_eq (X_r08_Sign.eq a0 a1_0 a1_1 K).symm
  · left; intro K h
    simp only [e_r08_Sign] at h
    split at h
    · exact hx ⟨_, _, _, rfl, rfl⟩
    · exact h
noncomputable def e_r02_Cmp : Entry := ⟨[none, none], false, fun args H K => match args, H with
  | [.arr .u64 6 a0, .arr .u64 6 a1], [] => r02_Cmp a0 a1 (fun y0 => K (EV.int IntKind.i64 y0) [])
  | _, _ => False⟩
noncomputable def E_r02_Cmp : Env := ⟨look tys, look [], look [(2, r02_Cmp.l2.entry)], gl, lookL [], false⟩
theorem r02_Cmp.l2X.stepEq (R : List EV → Heap → Prop) (K : Ex → List EV → Heap → Prop) (x0 : Int) (x1 : Nat → Int) (x2 : Nat → Int) : loopStep (evCode E_r02_Cmp (loopAt Tryd.f80 0) { (LV.mk 0 [(0, 0)] 16 0 false) with nx := live (.loop (loopAt Tryd.f80 0)) (LV.mk 0 [(0, 0)] 16 0 false) }) (live (.loop (loopAt Tryd.f80 0)) (LV.mk 0 [(0, 0)] 16 0 false)) (LV.mk 0 [(0, 0)] 16 0 false) 0 24 R [EV.ptr 0 [], EV.ptr 1 [], EV.int IntKind.i64 x0] [some (EV.arr IntKind.u64 6 x1), some (EV.arr IntKind.u64 6 x2)] K = r02_Cmp.l2.step (fun x0 x1 x2 => R [EV.ptr 0 [], EV.ptr 1 [], EV.int IntKind.i64 x0] [some (EV.arr IntKind.u64 6 x1), some (EV.arr IntKind.u64 6 x2)]) (fun y0 => K .ret [EV.int IntKind.i64 y0] []) (K (.exit 0) [] []) x0 x1 x2 := by kernel_rfl
theorem r02_Cmp.l2X.eq (K : Ex → List EV → Heap → Prop) : ∀ (n : Nat) (x0 : Int) (x1 : Nat → Int) (x2 : Nat → Int), loopE E_r02_Cmp (loopAt Tryd.f80 0) (LV.mk 0 [(0, 0)] 16 0 false) 0 24 K n [EV.ptr 0 [], EV.ptr 1 [], EV.int IntKind.i64 x0] [some (EV.arr IntKind.u64 6 x1), some (EV.arr IntKind.u64 6 x2)] = r02_Cmp.l2 (fun y0 => K .ret [EV.int IntKind.i64 y0] []) (K (.exit 0) [] []) n x0 x1 x2
  | 0, _, _, _ => rfl
  | n + 1, x0, x1, x2 => by
    have ih : (fun (x0 : Int) (x1 : Nat → Int) (x2 : Nat → Int) => loopE E_r02_Cmp (loopAt Tryd.f80 0) (LV.mk 0 [(0, 0)] 16 0 false) 0 24 K n [EV.ptr 0 [], EV.ptr 1 [], EV.int IntKind.i64 x0] [some (EV.arr IntKind.u64 6 x1), some (EV.arr IntKind.u64 6 x2)]) = r02_Cmp.l2 (fun y0 => K .ret [EV.int IntKind.i64 y0] []) (K (.exit 0) [] []) n := by funext x0 x1 x2; exact r02_Cmp.l2X.eq K n x0 x1 x2
    show loopStep _ _ _ _ _ (loopE E_r02_Cmp (loopAt Tryd.f80 0) (LV.mk 0 [(0, 0)] 16 0 false) 0 24 K n) [EV.ptr 0 [], EV.ptr 1 [], EV.int IntKind.i64 x0] [some (EV.arr IntKind.u64 6 x1), some (EV.arr IntKind.u64 6 x2)] K = r02_Cmp.l2.step (r02_Cmp.l2 (fun y0 => K .ret [EV.int IntKind.i64 y0] []) (K (.exit 0) [] []) n) (fun y0 => K .ret [EV.int IntKind.i64 y0] []) (K (.exit 0) [] []) x0 x1 x2
    rw [← ih]
    exact r02_Cmp.l2X.stepEq _ K x0 x1 x2
theorem r02_Cmp.l2X.ok : LoopEq E_r02_Cmp (loopAt Tryd.f80 0) := by
  intro L hL vs H
  have h1 : E_r02_Cmp.lp (firstRegion (loopAt Tryd.f80 0)) = some r02_Cmp.l2.entry := by kernel_rfl
  have h2 : L = r02_Cmp.l2.entry := Option.some.inj (hL.symm.trans h1)
  subst h2
  by_cases hx : ∃ (x0 : Int) (x1 : Nat → Int) (x2 : Nat → Int), vs = [EV.ptr 0 [], EV.ptr 1 [], EV.int IntKind.i64 x0] ∧ H = [some (EV.arr IntKind.u64 6 x1), some (EV.arr IntKind.u64 6 x2)]
  · obtain ⟨x0, x1, x2, rfl, rfl⟩ := hx
    right; intro K
    exact exists_congr fun n => iff_of_eq (r02_Cmp.l2X.eq K n x0 x1 x2).symm
  · left; intro K h
    simp only [r02_Cmp.l2.entry] at h
    split at h
    · exact hx ⟨_, _, _, rfl, rfl⟩
    · exact h
theorem X_r02_Cmp.eq (a0 : Nat → Int) (a1 : Nat → Int) (K : EV → Heap → Prop) : evFn E_r02_Cmp Tryd.f80 false [.arr .u64 6 a0, .arr .u64 6 a1] [] K = r02_Cmp a0 a1 (fun y0 => K (EV.int IntKind.i64 y0) []) := by
  have h : evFn E_r02_Cmp Tryd.f80 false [.arr .u64 6 a0, .arr .u64 6 a1] [] K = r02_Cmp.d a0 a1 (fun y0 => K (EV.int IntKind.i64 y0) []) := by kernel_rfl
  rw [r02_Cmp.is]; exact h
theorem X_r02_Cmp.ok : SoundE Tryd.prog gl 80 e_r02_Cmp := by
  refine fnOK (E := E_r02_Cmp) (fn := Tryd.f80) rfl tys_ok rfl (show AllL _ [] from trivial) mixed (by kernel_rfl) (by kernel_rfl) (by kernel_rfl) 1 (by kernel_rfl) false ⟨r02_Cmp.l2X.ok, trivial⟩ ?_
  intro args H
  by_cases hx : ∃ (a0 : Nat → Int) (a1 : Nat → Int), args = [.arr .u64 6 a0, .arr .u64 6 a1] ∧ H = []
  · obtain ⟨a0, a1, rfl, rfl⟩ := hx
    right; intro K
    exact iff_of_eq (X_r02_Cmp.eq a0 a1 K).symm
  · left; intro K h
    simp only [e_r02_Cmp] at h
    split at h
    · exact hx ⟨_, _, rfl, rfl⟩
    · exact h
noncomputable def e_r16_Total : Entry := ⟨[none, none, none], false, fun args H K => match args, H with
  | [.int .u8 a0, .agg [.int .u64 a1_0, .int .u64 a1_1], .agg [.int .u64 a2_0, .int .u64 a2_1]], [] => r16_Total a0 a1_0 a1_1 a2_0 a2_1 (fun y0 => K (EV.int IntKind.i64 y0) [])
  | _, _ => False⟩
noncomputable def E_r16_Total : Env := ⟨look tys, look [(16, e_r08_Sign), (48, e_r02_OfBits), (80, e_r02_Cmp)], look [], gl, lookL [], false⟩
theorem X_r16_Total.eq (a0 : Int) (a1_0 : Int) (a1_1 : Int) (a2_0 : Int) (a2_1 : Int) (K : EV → Heap → Prop) : evFn E_r16_Total Tryd.f41 false [.int .u8 a0, .agg [.int .u64 a1_0, .int .u64 a1_1], .agg [.int .u64 a2_0, .int .u64 a2_1]] [] K = r16_Total a0 a1_0 a1_1 a2_0 a2_1 (fun y0 => K (EV.int IntKind.i64 y0) []) := by
  have h : evFn E_r16_Total Tryd.f41 false [.int .u8 a0, .agg [.int .u64 a1_0, .int .u64 a1_1], .agg [.int .u64 a2_0, .int .u64 a2_1]] [] K = r16_Total.d a0 a1_0 a1_1 a2_0 a2_1 (fun y0 => K (EV.int IntKind.i64 y0) []) := by kernel_rfl
  rw [r16_Total.is]; exact h
theorem X_r16_Total.ok : SoundE Tryd.prog gl 41 e_r16_Total := by
  refine fnOK (E := E_r16_Total) (fn := Tryd.f41) rfl tys_ok rfl (show AllL _ [(16, e_r08_Sign), (48, e_r02_OfBits), (80, e_r02_Cmp)] from ⟨X_r08_Sign.ok, X_r02_OfBits.ok, X_r02_Cmp.ok, trivial⟩) mixed (by kernel_rfl) (by kernel_rfl) (by kernel_rfl) 0 (by kernel_rfl) false trivial ?_
  intro args H
  by_cases hx : ∃ (a0 : Int) (a1_0 : Int) (a1_1 : Int) (a2_0 : Int) (a2_1 : Int), args = [.int .u8 a0, .agg [.int .u64 a1_0, .int .u64 a1_1], .agg [.int .u64 a2_0, .int .u64 a2_1]] ∧ H = []
  · obtain ⟨a0, a1_0, a1_1, a2_0, a2_1, rfl, rfl⟩ := hx
    right; intro K
    exact iff_of_eq (X_r16_Total.eq a0 a1_0 a1_1 a2_0 a2_1 K).symm
  · left; intro K h
    simp only [e_r16_Total] at h
    split at h
    · exact hx ⟨_, _, _, _, _, rfl, rfl⟩
    · exact h
noncomputable def e_r08_IsNaN : Entry := ⟨[none, none], false, fun args H K => match args, H with
  | [.int .u8 a0, .agg [.int .u64 a1_0, .int .u64 a1_1]], [] => r08_IsNaN a0 a1_0 a1_1 (fun y0 => K (EV.bool y0) [])
  | _, _ => False⟩
noncomputable def E_r08_IsNaN : Env := ⟨look tys, look [(52, e_r08_Class)], look [], gl, lookL [], false⟩
theorem X_r08_IsNaN.eq (a0 : Int) (a1_0 : Int) (a1_1 : Int) (K : EV → Heap → Prop) : evFn E_r08_IsNaN Tryd.f68 false [.int .u8 a0, .agg [.int .u64 a1_0, .int .u64 a1_1]] [] K = r08_IsNaN a0 a1_0 a1_1 (fun y0 => K (EV.bool y0) []) := by
  have h : evFn E_r08_IsNaN Tryd.f68 false [.int .u8 a0, .agg [.int .u64 a1_0, .int .u64 a1_1]] [] K = r08_IsNaN.d a0 a1_0 a1_1 (fun y0 => K (EV.bool y0) []) := by kernel_rfl
  rw [r08_IsNaN.is]; exact h
theorem X_r08_IsNaN.ok : SoundE Tryd.prog gl 68 e_r08_IsNaN := by
  refine fnOK (E := E_r08_IsNaN) (fn := Tryd.f68) rfl tys_ok rfl (show AllL _ [(52, e_r08_Class)] from ⟨X_r08_Class.ok, trivial⟩) mixed (by kernel_rfl) (by kernel_rfl) (by kernel_rfl) 0 (by kernel_rfl) false trivial ?_
  intro args H
  by_cases hx : ∃ (a0 : Int) (a1_0 : Int) (a1_1 : Int), args = [.int .u8 a0, .agg [.int .u64 a1_0, .int .u64 a1_1]] ∧ H = []
  · obtain ⟨a0, a1_0, a1_1, rfl, rfl⟩ := hx
    right; intro K
    exact iff_of_eq (X_r08_IsNaN.eq a0 a1_0 a1_1 K).symm
  · left; intro K h
    simp only [e_r08_IsNaN] at h
    split at h
    · exact hx ⟨_, _, _, rfl, rfl⟩
    · exact h
noncomputable def e_r02_Of : Entry := ⟨[none], false, fun args H K => match args, H with
  | [.int .u64 a0], [] => r02_Of a0 (fun y0 => K (EV.arr IntKind.u64 6 y0) [])
  | _, _ => False⟩
noncomputable def E_r02_Of : Env := ⟨look tys, look [], look [], gl, lookL [], false⟩
theorem X_r02_Of.eq (a0 : Int) (K : EV → Heap → Prop) : evFn E_r02_Of Tryd.f61 false [.int .u64 a0] [] K = r02_Of a0 (fun y0 => K (EV.arr IntKind.u64 6 y0) []) := by
  have h : evFn E_r02_Of Tryd.f61 false [.int .u64 a0] [] K = r02_Of.d a0 (fun y0 => K (EV.arr IntKind.u64 6 y0) []) := by kernel_rfl
  rw [r02_Of.is]; exact h
theorem X_r02_Of.ok : SoundE Tryd.prog gl 61 e_r02_Of := by
  refine fnOK (E := E_r02_Of) (fn := Tryd.f61) rfl tys_ok rfl (show AllL _ [] from trivial) mixed (by kernel_rfl) (by kernel_rfl) (by kernel_rfl) 0 (by kernel_rfl) false trivial ?_
  intro args H
  by_cases hx : ∃ (a0 : Int), args = [.int .u64 a0] ∧ H = []
  · obtain ⟨a0, rfl, rfl⟩ := hx
    right; intro K
    exact iff_of_eq (X_r02_Of.eq a0 K).symm
  · left; intro K h
    simp only [e_r02_Of] at h
    split at h
    · exact hx ⟨_, rfl, rfl⟩
    · exact h
noncomputable def e_r02_ToBits : Entry := ⟨[none], false, fun args H K => match args, H with
  | [.arr .u64 6 a0], [] => r02_ToBits a0 (fun y0 y1 y2 => K (EV.tuple [EV.agg [EV.int IntKind.u64 y0, EV.int IntKind.u64 y1], EV.bool y2]) [])
  | _, _ => False⟩
noncomputable def E_r02_ToBits : Env := ⟨look tys, look [], look [], gl, lookL [], false⟩
theorem X_r02_ToBits.eq (a0 : Nat → Int) (K : EV → Heap → Prop) : evFn E_r02_ToBits Tryd.f59 false [.arr .u64 6 a0] [] K = r02_ToBits a0 (fun y0 y1 y2 => K (EV.tuple [EV.agg [EV.int IntKind.u64 y0, EV.int IntKind.u64 y1], EV.bool y2]) []) := by
  have h : evFn E_r02_ToBits Tryd.f59 false [.arr .u64 6 a0] [] K = r02_ToBits.d a0 (fun y0 y1 y2 => K (EV.tuple [EV.agg [EV.int IntKind.u64 y0, EV.int IntKind.u64 y1], EV.bool y2]) []) := by kernel_rfl
  rw [r02_ToBits.is]; exact h
theorem X_r02_ToBits.ok : SoundE Tryd.prog gl 59 e_r02_ToBits := by
  refine fnOK (E := E_r02_ToBits) (fn := Tryd.f59) rfl tys_ok rfl (show AllL _ [] from trivial) mixed (by kernel_rfl) (by kernel_rfl) (by kernel_rfl) 0 (by kernel_rfl) false trivial ?_
  intro args H
  by_cases hx : ∃ (a0 : Nat → Int), args = [.arr .u64 6 a0] ∧ H = []
  · obtain ⟨a0, rfl, rfl⟩ := hx
    right; intro K
    exact iff_of_eq (X_r02_ToBits.eq a0 K).symm
  · left; intro K h
    simp only [e_r02_ToBits] at h
    split at h
    · exact hx ⟨_, rfl, rfl⟩
    · exact h
noncomputable def e_r02_Left : Entry := ⟨[none, none], false, fun args H K => match args, H with
  | [.arr .u64 6 a0, .int .i64 a1], [] => r02_Left a0 a1 (fun y0 y1 => K (EV.tuple [EV.arr IntKind.u64 6 y0, EV.bool y1]) [])
  | _, _ => False⟩
noncomputable def E_r02_Left : Env := ⟨look tys, look [(83, e_r02_Bit), (93, e_r02_Count)], look [(5, r02_Left.l5.entry)], gl, lookL [], false⟩
theorem r02_Left.l5X.stepEq (R : List EV → Heap → Prop) (K : Ex → List EV → Heap → Prop) (x0 : Int) (x1 : Bool) (x2 : Int) (x3 : Nat → Int) (x4 : Nat → Int) (x5 : Nat → Int) : loopStep (evCode E_r02_Left (loopAt Tryd.f104 0) { (LV.mk 208 [(0, 208)] 48 0 false) with nx := live (.loop (loopAt Tryd.f104 0)) (LV.mk 208 [(0, 208)] 48 0 false) }) (live (.loop (loopAt Tryd.f104 0)) (LV.mk 208 [(0, 208)] 48 0 false)) (LV.mk 208 [(0, 208)] 48 0 false) 0 42 R [EV.int IntKind.i64 x0, EV.ptr 0 [], EV.ptr 1 [], EV.ptr 2 [], EV.bool x1, EV.int IntKind.i64 x2] [some (EV.arr IntKind.u64 6 x3), some (EV.arr IntKind.u64 6 x4), some (EV.arr IntKind.u64 6 x5)] K = r02_Left.l5.step (fun x0 x1 x2 x3 x4 x5 => R [EV.int IntKind.i64 x0, EV.ptr 0 [], EV.ptr 1 [], EV.ptr 2 [], EV.bool x1, EV.int IntKind.i64 x2] [some (EV.arr IntKind.u64 6 x3), some (EV.arr IntKind.u64 6 x4), some (EV.arr IntKind.u64 6 x5)]) (fun y0 y1 y2 => K (.exit 0) [EV.ptr 0 [], EV.ptr 1 [], EV.bool y0] [some (EV.arr IntKind.u64 6 y1), some (EV.arr IntKind.u64 6 y2)]) x0 x1 x2 x3 x4 x5 := by kernel_rfl
theorem r02_Left.l5X.eq (K : Ex → List EV → Heap → Prop) : ∀ (n : Nat) (x0 : Int) (x1 : Bool) (x2 : Int) (x3 : Nat → Int) (x4 : Nat → Int) (x5 : Nat → Int), loopE E_r02_Left (loopAt Tryd.f104 0) (LV.mk 208 [(0, 208)] 48 0 false) 0 42 K n [EV.int IntKind.i64 x0, EV.ptr 0 [], EV.ptr 1 [], EV.ptr 2 [], EV.bool x1, EV.int IntKind.i64 x2] [some (EV.arr IntKind.u64 6 x3), some (EV.arr IntKind.u64 6 x4), some (EV.arr IntKind.u64 6 x5)] = r02_Left.l5 (fun y0 y1 y2 => K (.exit 0) [EV.ptr 0 [], EV.ptr 1 [], EV.bool y0] [some (EV.arr IntKind.u64 6 y1), some (EV.arr IntKind.u64 6 y2)]) n x0 x1 x2 x3 x4 x5
  | 0, _, _, _, _, _, _ => rfl
  | n + 1, x0, x1, x2, x3, x4, x5 => by
    have ih : (fun (x0 : Int) (x1 : Bool) (x2 : Int) (x3 : Nat → Int) (x4 : Nat → Int) (x5 : Nat → Int) => loopE E_r02_Left (loopAt Tryd.f104 0) (LV.mk 208 [(0, 208)] 48 0 false) 0 42 K n [EV.int IntKind.i64 x0, EV.ptr 0 [], EV.ptr 1 [], EV.ptr 2 [], EV.bool x1, EV.int IntKind.i64 x2] [some (EV.arr IntKind.u64 6 x3), some (EV.arr IntKind.u64 6 x4), some (EV.arr IntKind.u64 6 x5)]) = r02_Left.l5 (fun y0 y1 y2 => K (.exit 0) [EV.ptr 0 [], EV.ptr 1 [], EV.bool y0] [some (EV.arr IntKind.u64 6 y1), some (EV.arr IntKind.u64 6 y2)]) n := by funext x0 x1 x2 x3 x4 x5; exact r02_Left.l5X.eq K n x0 x1 x2 x3 x4 x5
    show loopStep _ _ _ _ _ (loopE E_r02_Left (loopAt Tryd.f104 0) (LV.mk 208 [(0, 208)] 48 0 false) 0 42 K n) [EV.int IntKind.i64 x0, EV.ptr 0 [], EV.ptr 1 [], EV.ptr 2 [], EV.bool x1, EV.int IntKind.i64 x2] [some (EV.arr IntKind.u64 6 x3), some (EV.arr IntKind.u64 6 x4), some (EV.arr IntKind.u64 6 x5)] K = r02_Left.l5.step (r02_Left.l5 (fun y0 y1 y2 => K (.exit 0) [EV.ptr 0 [], EV.ptr 1 [], EV.bool y0] [some (EV.arr IntKind.u64 6 y1), some (EV.arr IntKind.u64 6 y2)]) n) (fun y0 y1 y2 => K (.exit 0) [EV.ptr 0 [], EV.ptr 1 [], EV.bool y0] [some (EV.arr IntKind.u64 6 y1), some (EV.arr IntKind.u64 6 y2)]) x0 x1 x2 x3 x4 x5
    rw [← ih]
    exact r02_Left.l5X.stepEq _ K x0 x1 x2 x3 x4 x5
theorem r02_Left.l5X.ok : LoopEq E_r02_Left (loopAt Tryd.f104 0) := by
  intro L hL vs H
  have h1 : E_r02_Left.lp (firstRegion (loopAt Tryd.f104 0)) = some r02_Left.l5.entry := by kernel_rfl
  have h2 : L = r02_Left.l5.entry := Option.some.inj (hL.symm.trans h1)
  subst h2
  by_cases hx : ∃ (x0 : Int) (x1 : Bool) (x2 : Int) (x3 : Nat → Int) (x4 : Nat → Int) (x5 : Nat → Int), vs = [EV.int IntKind.i64 x0, EV.ptr 0 [], EV.ptr 1 [], EV.ptr 2 [], EV.bool x1, EV.int IntKind.i64 x2] ∧ H = [some (EV.arr IntKind.u64 6 x3), some (EV.arr IntKind.u64 6 x4), some (EV.arr IntKind.u64 6 x5)]
  · obtain ⟨x0, x1, x2, x3, x4, x5, rfl, rfl⟩ := hx
    right; intro K
    exact exists_congr fun n => iff_of_eq (r02_Left.l5X.eq K n x0 x1 x2 x3 x4 x5).symm
  · left; intro K h
    simp only [r02_Left.l5.entry] at h
    split at h
    · exact hx ⟨_, _, _, _, _, _, rfl, rfl⟩
    · exact h
theorem X_r02_Left.eq (a0 : Nat → Int) (a1 : Int) (K : EV → Heap → Prop) : evFn E_r02_Left Tryd.f104 false [.arr .u64 6 a0, .int .i64 a1] [] K = r02_Left a0 a1 (fun y0 y1 => K (EV.tuple [EV.arr IntKind.u64 6 y0, EV.bool y1]) []) := by
  have h : evFn E_r02_Left Tryd.f104 false [.arr .u64 6 a0, .int .i64 a1] [] K = r02_Left.d a0 a1 (fun y0 y1 => K (EV.tuple [EV.arr IntKind.u64 6 y0, EV.bool y1]) []) := by kernel_rfl
  rw [r02_Left.is]; exact h
theorem X_r02_Left.ok : SoundE Tryd.prog gl 104 e_r02_Left := by
  refine fnOK (E := E_r02_Left) (fn := Tryd.f104) rfl tys_ok rfl (show AllL _ [(83, e_r02_Bit), (93, e_r02_Count)] from ⟨X_r02_Bit.ok, X_r02_Count.ok, trivial⟩) mixed (by kernel_rfl) (by kernel_rfl) (by kernel_rfl) 1 (by kernel_rfl) false ⟨r02_Left.l5X.ok, trivial⟩ ?_
  intro args H
  by_cases hx : ∃ (a0 : Nat → Int) (a1 : Int), args = [.arr .u64 6 a0, .int .i64 a1] ∧ H = []
  · obtain ⟨a0, a1, rfl, rfl⟩ := hx
    right; intro K
    exact iff_of_eq (X_r02_Left.eq a0 a1 K).symm
  · left; intro K h
    simp only [e_r02_Left] at h
    split at h
    · exact hx ⟨_, _, rfl, rfl⟩
    · exact h
noncomputable def e_r01_Add : Entry := ⟨[none, none, none], false, fun args H K => match args, H with
  | [.int .u64 a0, .int .u64 a1, .bool a2], [] => r01_Add a0 a1 a2 (fun y0 y1 => K (EV.tuple [EV.int IntKind.u64 y0, EV.bool y1]) [])
  | _, _ => False⟩
noncomputable def E_r01_Add : Env := ⟨look tys, look [(91, e_r01_Bit)], look [(3, r01_Add.l3.entry)], gl, lookL [], false⟩
theorem r01_Add.l3X.stepEq (R : List EV → Heap → Prop) (K : Ex → List EV → Heap → Prop) (x0 : Int) (x1 : Int) (x2 : Bool) (x3 : Int) (x4 : Int) : loopStep (evCode E_r01_Add (loopAt Tryd.f139 0) { (LV.mk 260 [(0, 260)] 192 0 false) with nx := live (.loop (loopAt Tryd.f139 0)) (LV.mk 260 [(0, 260)] 192 0 false) }) (live (.loop (loopAt Tryd.f139 0)) (LV.mk 260 [(0, 260)] 192 0 false)) (LV.mk 260 [(0, 260)] 192 0 false) 0 50 R [EV.int IntKind.u64 x0, EV.int IntKind.u64 x1, EV.bool x2, EV.int IntKind.u64 x3, EV.int IntKind.i64 x4] [] K = r01_Add.l3.step (fun x0 x1 x2 x3 x4 => R [EV.int IntKind.u64 x0, EV.int IntKind.u64 x1, EV.bool x2, EV.int IntKind.u64 x3, EV.int IntKind.i64 x4] []) (fun y0 y1 => K (.exit 0) [EV.bool y0, EV.int IntKind.u64 y1] []) x0 x1 x2 x3 x4 := by kernel_rfl
theorem r01_Add.l3X.eq (K : Ex → List EV → Heap → Prop) : ∀ (n : Nat) (x0 : Int) (x1 : Int) (x2 : Bool) (x3 : Int) (x4 : Int), loopE E_r01_Add (loopAt Tryd.f139 0) (LV.mk 260 [(0, 260)] 192 0 false) 0 50 K n [EV.int IntKind.u64 x0, EV.int IntKind.u64 x1, EV.bool x2, EV.int IntKind.u64 x3, EV.int IntKind.i64 x4] [] = r01_Add.l3 (fun y0 y1 => K (.exit 0) [EV.bool y0, EV.int IntKind.u64 y1] []) n x0 x1 x2 x3 x4
  | 0, _, _, _, _, _ => rfl
  | n + 1, x0, x1, x2, x3, x4 => by
    have ih : (fun (x0 : Int) (x1 : Int) (x2 : Bool) (x3 : Int) (x4 : Int) => loopE E_r01_Add (loopAt Tryd.f139 0) (LV.mk 260 [(0, 260)] 192 0 false) 0 50 K n [EV.int IntKind.u64 x0, EV.int IntKind.u64 x1, EV.bool x2, EV.int IntKind.u64 x3, EV.int IntKind.i64 x4] []) = r01_Add.l3 (fun y0 y1 => K (.exit 0) [EV.bool y0, EV.int IntKind.u64 y1] []) n := by funext x0 x1 x2 x3 x4; exact r01_Add.l3X.eq K n x0 x1 x2 x3 x4
    show loopStep _ _ _ _ _ (loopE E_r01_Add (loopAt Tryd.f139 0) (LV.mk 260 [(0, 260)] 192 0 false) 0 50 K n) [EV.int IntKind.u64 x0, EV.int IntKind.u64 x1, EV.bool x2, EV.int IntKind.u64 x3, EV.int IntKind.i64 x4] [] K = r01_Add.l3.step (r01_Add.l3 (fun y0 y1 => K (.exit 0) [EV.bool y0, EV.int IntKind.u64 y1] []) n) (fun y0 y1 => K (.exit 0) [EV.bool y0, EV.int IntKind.u64 y1] []) x0 x1 x2 x3 x4
    rw [← ih]
    exact r01_Add.l3X.stepEq _ K x0 x1 x2 x3 x4
theorem r01_Add.l3X.ok : LoopEq E_r01_Add (loopAt Tryd.f139 0) := by
  intro L hL vs H
  have h1 : E_r01_Add.lp (firstRegion (loopAt Tryd.f139 0)) = some r01_Add.l3.entry := by kernel_rfl
  have h2 : L = r01_Add.l3.entry := Option.some.inj (hL.symm.trans h1)
  subst h2
  by_cases hx : ∃ (x0 : Int) (x1 : Int) (x2 : Bool) (x3 : Int) (x4 : Int), vs = [EV.int IntKind.u64 x0, EV.int IntKind.u64 x1, EV.bool x2, EV.int IntKind.u64 x3, EV.int IntKind.i64 x4] ∧ H = []
  · obtain ⟨x0, x1, x2, x3, x4, rfl, rfl⟩ := hx
    right; intro K
    exact exists_congr fun n => iff_of_eq (r01_Add.l3X.eq K n x0 x1 x2 x3 x4).symm
  · left; intro K h
    simp only [r01_Add.l3.entry] at h
    split at h
    · exact hx ⟨_, _, _, _, _, rfl, rfl⟩
    · exact h
theorem X_r01_Add.eq (a0 : Int) (a1 : Int) (a2 : Bool) (K : EV → Heap → Prop) : evFn E_r01_Add Tryd.f139 false [.int .u64 a0, .int .u64 a1, .bool a2] [] K = r01_Add a0 a1 a2 (fun y0 y1 => K (EV.tuple [EV.int IntKind.u64 y0, EV.bool y1]) []) := by
  have h : evFn E_r01_Add Tryd.f139 false [.int .u64 a0, .int .u64 a1, .bool a2] [] K = r01_Add.d a0 a1 a2 (fun y0 y1 => K (EV.tuple [EV.int IntKind.u64 y0, EV.bool y1]) []) := by kernel_rfl
  rw [r01_Add.is]; exact h
theorem X_r01_Add.ok : SoundE Tryd.prog gl 139 e_r01_Add := by
  refine fnOK (E := E_r01_Add) (fn := Tryd.f139) rfl tys_ok rfl (show AllL _ [(91, e_r01_Bit)] from ⟨X_r01_Bit.ok, trivial⟩) mixed (by kernel_rfl) (by kernel_rfl) (by kernel_rfl) 1 (by kernel_rfl) false ⟨r01_Add.l3X.ok, trivial⟩ ?_
  intro args H
  by_cases hx : ∃ (a0 : Int) (a1 : Int) (a2 : Bool), args = [.int .u64 a0, .int .u64 a1, .bool a2] ∧ H = []
  · obtain ⟨a0, a1, a2, rfl, rfl⟩ := hx
    right; intro K
    exact iff_of_eq (X_r01_Add.eq a0 a1 a2 K).symm
  · left; intro K h
    simp only [e_r01_Add] at h
    split at h
    · exact hx ⟨_, _, _, rfl, rfl⟩
    · exact h
noncomputable def e_r02_Add : Entry := ⟨[none, none], false, fun args H K => match args, H with
  | [.arr .u64 6 a0, .arr .u64 6 a1], [] => r02_Add a0 a1 (fun y0 y1 => K (EV.tuple [EV.arr IntKind.u64 6 y0, EV.bool y1]) [])
  | _, _ => False⟩
noncomputable def E_r02_Add : Env := ⟨look tys, look [(139, e_r01_Add)], look [(4, r02_Add.l4.entry)], gl, lookL [], false⟩
theorem r02_Add.l4X.stepEq (R : List EV → Heap → Prop) (K : Ex → List EV → Heap → Prop) (x0 : Bool) (x1 : Int) (x2 : Nat → Int) (x3 : Nat → Int) (x4 : Nat → Int) (x5 : Nat → Int) : loopStep (evCode E_r02_Add (loopAt Tryd.f113 0) { (LV.mk 208 [(0, 208)] 48 0 false) with nx := live (.loop (loopAt Tryd.f113 0)) (LV.mk 208 [(0, 208)] 48 0 false) }) (live (.loop (loopAt Tryd.f113 0)) (LV.mk 208 [(0, 208)] 48 0 false)) (LV.mk 208 [(0, 208)] 48 0 false) 0 32 R [EV.ptr 0 [], EV.ptr 1 [], EV.ptr 2 [], EV.ptr 3 [], EV.bool x0, EV.int IntKind.i64 x1] [some (EV.arr IntKind.u64 6 x2), some (EV.arr IntKind.u64 6 x3), some (EV.arr IntKind.u64 6 x4), some (EV.arr IntKind.u64 6 x5)] K = r02_Add.l4.step (fun x0 x1 x2 x3 x4 x5 => R [EV.ptr 0 [], EV.ptr 1 [], EV.ptr 2 [], EV.ptr 3 [], EV.bool x0, EV.int IntKind.i64 x1] [some (EV.arr IntKind.u64 6 x2), some (EV.arr IntKind.u64 6 x3), some (EV.arr IntKind.u64 6 x4), some (EV.arr IntKind.u64 6 x5)]) (fun y0 y1 y2 => K (.exit 0) [EV.ptr 0 [], EV.ptr 1 [], EV.bool y0] [some (EV.arr IntKind.u64 6 y1), some (EV.arr IntKind.u64 6 y2)]) x0 x1 x2 x3 x4 x5 := by kernel_rfl
theorem r02_Add.l4X.eq (K : Ex → List EV → Heap → Prop) : ∀ (n : Nat) (x0 : Bool) (x1 : Int) (x2 : Nat → Int) (x3 : Nat → Int) (x4 : Nat → Int) (x5 : Nat → Int), loopE E_r02_Add (loopAt Tryd.f113 0) (LV.mk 208 [(0, 208)] 48 0 false) 0 32 K n [EV.ptr 0 [], EV.ptr 1 [], EV.ptr 2 [], EV.ptr 3 [], EV.bool x0, EV.int IntKind.i64 x1] [some (EV.arr IntKind.u64 6 x2), some (EV.arr IntKind.u64 6 x3), some (EV.arr IntKind.u64 6 x4), some (EV.arr IntKind.u64 6 x5)] = r02_Add.l4 (fun y0 y1 y2 => K (.exit 0) [EV.ptr 0 [], EV.ptr 1 [], EV.bool y0] [some (EV.arr IntKind.u64 6 y1), some (EV.arr IntKind.u64 6 y2)]) n x0 x1 x2 x3 x4 x5
  | 0, _, _, _, _, _, _ => rfl
  | n + 1, x0, x1, x2, x3, x4, x5 => by
    have ih : (fun (x0 : Bool) (x1 : Int) (x2 : Nat → Int) (x3 : Nat → Int) (x4 : Nat → Int) (x5 : Nat → Int) => loopE E_r02_Add (loopAt Tryd.f113 0) (LV.mk 208 [(0, 208)] 48 0 false) 0 32 K n [EV.ptr 0 [], EV.ptr 1 [], EV.ptr 2 [], EV.ptr 3 [], EV.bool x0, EV.int IntKind.i64 x1] [some (EV.arr IntKind.u64 6 x2), some (EV.arr IntKind.u64 6 x3), some (EV.arr IntKind.u64 6 x4), some (EV.arr IntKind.u64 6 x5)]) = r02_Add.l4 (fun y0 y1 y2 => K (.exit 0) [EV.ptr 0 [], EV.ptr 1 [], EV.bool y0] [some (EV.arr IntKind.u64 6 y1), some (EV.arr IntKind.u64 6 y2)]) n := by funext x0 x1 x2 x3 x4 x5; exact r02_Add.l4X.eq K n x0 x1 x2 x3 x4 x5
    show loopStep _ _ _ _ _ (loopE E_r02_Add (loopAt Tryd.f113 0) (LV.mk 208 [(0, 208)] 48 0 false) 0 32 K n) [EV.ptr 0 [], EV.ptr 1 [], EV.ptr 2 [], EV.ptr 3 [], EV.bool x0, EV.int IntKind.i64 x1] [some (EV.arr IntKind.u64 6 x2), some (EV.arr IntKind.u64 6 x3), some (EV.arr IntKind.u64 6 x4), some (EV.arr IntKind.u64 6 x5)] K = r02_Add.l4.step (r02_Add.l4 (fun y0 y1 y2 => K (.exit 0) [EV.ptr 0 [], EV.ptr 1 [], EV.bool y0] [some (EV.arr IntKind.u64 6 y1), some (EV.arr IntKind.u64 6 y2)]) n) (fun y0 y1 y2 => K (.exit 0) [EV.ptr 0 [], EV.ptr 1 [], EV.bool y0] [some (EV.arr IntKind.u64 6 y1), some (EV.arr IntKind.u64 6 y2)]) x0 x1 x2 x3 x4 x5
    rw [← ih]
    exact r02_Add.l4X.stepEq _ K x0 x1 x2 x3 x4 x5
theorem r02_Add.l4X.ok : LoopEq E_r02_Add (loopAt Tryd.f113 0) := by
  intro L hL vs H
  have h1 : E_r02_Add.lp (firstRegion (loopAt Tryd.f113 0)) = some r02_Add.l4.entry := by kernel_rfl
  have h2 : L = r02_Add.l4.entry := Option.some.inj (hL.symm.trans h1)
  subst h2
  by_cases hx : ∃ (x0 : Bool) (x1 : Int) (x2 : Nat → Int) (x3 : Nat → Int) (x4 : Nat → Int) (x5 : Nat → Int), vs = [EV.ptr 0 [], EV.ptr 1 [], EV.ptr 2 [], EV.ptr 3 [], EV.bool x0, EV.int IntKind.i64 x1] ∧ H = [some (EV.arr IntKind.u64 6 x2), some (EV.arr IntKind.u64 6 x3), some (EV.arr IntKind.u64 6 x4), some (EV.arr IntKind.u64 6 x5)]
  · obtain ⟨x0, x1, x2, x3, x4, x5, rfl, rfl⟩ := hx
    right; intro K
    exact exists_congr fun n => iff_of_eq (r02_Add.l4X.eq K n x0 x1 x2 x3 x4 x5).symm
  · left; intro K h
    simp only [r02_Add.l4.entry] at h
    split at h
    · exact hx ⟨_, _, _, _, _, _, rfl, rfl⟩
    · exact h
theorem X_r02_Add.eq (a0 : Nat → Int) (a1 : Nat → Int) (K : EV → Heap → Prop) : evFn E_r02_Add Tryd.f113 false [.arr .u64 6 a0, .arr .u64 6 a1] [] K = r02_Add a0 a1 (fun y0 y1 => K (EV.tuple [EV.arr IntKind.u64 6 y0, EV.bool y1]) []) := by
  have h : evFn E_r02_Add Tryd.f113 false [.arr .u64 6 a0, .arr .u64 6 a1] [] K = r02_Add.d a0 a1 (fun y0 y1 => K (EV.tuple [EV.arr IntKind.u64 6 y0, EV.bool y1]) []) := by kernel_rfl
  rw [r02_Add.is]; exact h
theorem X_r02_Add.ok : SoundE Tryd.prog gl 113 e_r02_Add := by
  refine fnOK (E := E_r02_Add) (fn := Tryd.f113) rfl tys_ok rfl (show AllL _ [(139, e_r01_Add)] from ⟨X_r01_Add.ok, trivial⟩) mixed (by kernel_rfl) (by kernel_rfl) (by kernel_rfl) 1 (by kernel_rfl) false ⟨r02_Add.l4X.ok, trivial⟩ ?_
  intro args H
  by_cases hx : ∃ (a0 : Nat → Int) (a1 : Nat → Int), args = [.arr .u64 6 a0, .arr .u64 6 a1] ∧ H = []
  · obtain ⟨a0, a1, rfl, rfl⟩ := hx
    right; intro K
    exact iff_of_eq (X_r02_Add.eq a0 a1 K).symm
  · left; intro K h
    simp only [e_r02_Add] at h
    split at h
    · exact hx ⟨_, _, rfl, rfl⟩
    · exact h
noncomputable def e_r07_Build : Entry := ⟨[none, none, none, none], false, fun args H K => match args, H with
  | [.int .u8 a0, .bool a1, .int .i64 a2, .arr .u64 6 a3], [] => r07_Build a0 a1 a2 a3 (fun y0 y1 => K (EV.agg [EV.int IntKind.u64 y0, EV.int IntKind.u64 y1]) [])
  | _, _ => False⟩
noncomputable def E_r07_Build : Env := ⟨look tys, look [(46, e_r07_Right), (49, e_r07_Width), (59, e_r02_ToBits), (61, e_r02_Of), (84, e_r07_Precision), (104, e_r02_Left), (113, e_r02_Add)], look [], gl, lookL [], false⟩
theorem X_r07_Build.eq (a0 : Int) (a1 : Bool) (a2 : Int) (a3 : Nat → Int) (K : EV → Heap → Prop) : evFn E_r07_Build Tryd.f87 false [.int .u8 a0, .bool a1, .int .i64 a2, .arr .u64 6 a3] [] K = r07_Build a0 a1 a2 a3 (fun y0 y1 => K (EV.agg [EV.int IntKind.u64 y0, EV.int IntKind.u64 y1]) []) := by
  have h : evFn E_r07_Build Tryd.f87 false [.int .u8 a0, .bool a1, .int .i64 a2, .arr .u64 6 a3] [] K = r07_Build.d a0 a1 a2 a3 (fun y0 y1 => K (EV.agg [EV.int IntKind.u64 y0, EV.int IntKind.u64 y1]) []) := by kernel_rfl
  rw [r07_Build.is]; exact h
theorem X_r07_Build.ok : SoundE Tryd.prog gl 87 e_r07_Build := by
  refine fnOK (E := E_r07_Build) (fn := Tryd.f87) rfl tys_ok rfl (show AllL _ [(46, e_r07_Right), (49, e_r07_Width), (59, e_r02_ToBits), (61, e_r02_Of), (84, e_r07_Precision), (104, e_r02_Left), (113, e_r02_Add)] from ⟨X_r07_Right.ok, X_r07_Width.ok, X_r02_ToBits.ok, X_r02_Of.ok, X_r07_Precision.ok, X_r02_Left.ok, X_r02_Add.ok, trivial⟩) mixed (by kernel_rfl) (by kernel_rfl) (by kernel_rfl) 0 (by kernel_rfl) false trivial ?_
  intro args H
  by_cases hx : ∃ (a0 : Int) (a1 : Bool) (a2 : Int) (a3 : Nat → Int), args = [.int .u8 a0, .bool a1, .int .i64 a2, .arr .u64 6 a3] ∧ H = []
  · obtain ⟨a0, a1, a2, a3, rfl, rfl⟩ := hx
    right; intro K
    exact iff_of_eq (X_r07_Build.eq a0 a1 a2 a3 K).symm
  · left; intro K h
    simp only [e_r07_Build] at h
    split at h
    · exact hx ⟨_, _, _, _, rfl, rfl⟩
    · exact h
noncomputable def e_r07_NaN : Entry := ⟨[none], false, fun args H K => match args, H with
  | [.int .u8 a0], [] => r07_NaN a0 (fun y0 y1 => K (EV.agg [EV.int IntKind.u64 y0, EV.int IntKind.u64 y1]) [])
  | _, _ => False⟩
noncomputable def E_r07_NaN : Env := ⟨look tys, look [(61, e_r02_Of), (84, e_r07_Precision), (86, e_r07_Ones), (87, e_r07_Build), (104, e_r02_Left)], look [], gl, lookL [], false⟩
theorem X_r07_NaN.eq (a0 : Int) (K : EV → Heap → Prop) : evFn E_r07_NaN Tryd.f74 false [.int .u8 a0] [] K = r07_NaN a0 (fun y0 y1 => K (EV.agg [EV.int IntKind.u64 y0, EV.int IntKind.u64 y1]) []) := by
  have h : evFn E_r07_NaN Tryd.f74 false [.int .u8 a0] [] K = r07_NaN.d a0 (fun y0 y1 => K (EV.agg [EV.int IntKind.u64 y0, EV.int IntKind.u64 y1]) []) := by kernel_rfl
  rw [r07_NaN.is]; exact h
theorem X_r07_NaN.ok : SoundE Tryd.prog gl 74 e_r07_NaN := by
  refine fnOK (E := E_r07_NaN) (fn := Tryd.f74) rfl tys_ok rfl (show AllL _ [(61, e_r02_Of), (84, e_r07_Precision), (86, e_r07_Ones), (87, e_r07_Build), (104, e_r02_Left)] from ⟨X_r02_Of.ok, X_r07_Precision.ok, X_r07_Ones.ok, X_r07_Build.ok, X_r02_Left.ok, trivial⟩) mixed (by kernel_rfl) (by kernel_rfl) (by kernel_rfl) 0 (by kernel_rfl) false trivial ?_
  intro args H
  by_cases hx : ∃ (a0 : Int), args = [.int .u8 a0] ∧ H = []
  · obtain ⟨a0, rfl, rfl⟩ := hx
    right; intro K
    exact iff_of_eq (X_r07_NaN.eq a0 K).symm
  · left; intro K h
    simp only [e_r07_NaN] at h
    split at h
    · exact hx ⟨_, rfl, rfl⟩
    · exact h
noncomputable def e_r16_Extreme : Entry := ⟨[none, none, none, none], false, fun args H K => match args, H with
  | [.int .u8 a0, .agg [.int .u64 a1_0, .int .u64 a1_1], .agg [.int .u64 a2_0, .int .u64 a2_1], .bool a3], [] => r16_Extreme a0 a1_0 a1_1 a2_0 a2_1 a3 (fun y0 y1 y2 => K (EV.tuple [EV.agg [EV.int IntKind.u64 y0, EV.int IntKind.u64 y1], EV.int IntKind.u8 y2]) [])
  | _, _ => False⟩
noncomputable def E_r16_Extreme : Env := ⟨look tys, look [(34, e_r16_Loud), (41, e_r16_Total), (68, e_r08_IsNaN), (74, e_r07_NaN)], look [], gl, lookL [], false⟩
theorem X_r16_Extreme.eq (a0 : Int) (a1_0 : Int) (a1_1 : Int) (a2_0 : Int) (a2_1 : Int) (a3 : Bool) (K : EV → Heap → Prop) : evFn E_r16_Extreme Tryd.f37 false [.int .u8 a0, .agg [.int .u64 a1_0, .int .u64 a1_1], .agg [.int .u64 a2_0, .int .u64 a2_1], .bool a3] [] K = r16_Extreme a0 a1_0 a1_1 a2_0 a2_1 a3 (fun y0 y1 y2 => K (EV.tuple [EV.agg [EV.int IntKind.u64 y0, EV.int IntKind.u64 y1], EV.int IntKind.u8 y2]) []) := by
  have h : evFn E_r16_Extreme Tryd.f37 false [.int .u8 a0, .agg [.int .u64 a1_0, .int .u64 a1_1], .agg [.int .u64 a2_0, .int .u64 a2_1], .bool a3] [] K = r16_Extreme.d a0 a1_0 a1_1 a2_0 a2_1 a3 (fun y0 y1 y2 => K (EV.tuple [EV.agg [EV.int IntKind.u64 y0, EV.int IntKind.u64 y1], EV.int IntKind.u8 y2]) []) := by kernel_rfl
  rw [r16_Extreme.is]; exact h
theorem X_r16_Extreme.ok : SoundE Tryd.prog gl 37 e_r16_Extreme := by
  refine fnOK (E := E_r16_Extreme) (fn := Tryd.f37) rfl tys_ok rfl (show AllL _ [(34, e_r16_Loud), (41, e_r16_Total), (68, e_r08_IsNaN), (74, e_r07_NaN)] from ⟨X_r16_Loud.ok, X_r16_Total.ok, X_r08_IsNaN.ok, X_r07_NaN.ok, trivial⟩) mixed (by kernel_rfl) (by kernel_rfl) (by kernel_rfl) 0 (by kernel_rfl) false trivial ?_
  intro args H
  by_cases hx : ∃ (a0 : Int) (a1_0 : Int) (a1_1 : Int) (a2_0 : Int) (a2_1 : Int) (a3 : Bool), args = [.int .u8 a0, .agg [.int .u64 a1_0, .int .u64 a1_1], .agg [.int .u64 a2_0, .int .u64 a2_1], .bool a3] ∧ H = []
  · obtain ⟨a0, a1_0, a1_1, a2_0, a2_1, a3, rfl, rfl⟩ := hx
    right; intro K
    exact iff_of_eq (X_r16_Extreme.eq a0 a1_0 a1_1 a2_0 a2_1 a3 K).symm
  · left; intro K h
    simp only [e_r16_Extreme] at h
    split at h
    · exact hx ⟨_, _, _, _, _, _, rfl, rfl⟩
    · exact h
noncomputable def e_law16_OrderExtremes : Entry := ⟨[none, none, none], false, fun args H K => match args, H with
  | [.int .u8 a0, .agg [.int .u64 a1_0, .int .u64 a1_1], .agg [.int .u64 a2_0, .int .u64 a2_1]], [] => law16_OrderExtremes a0 a1_0 a1_1 a2_0 a2_1 (fun y0 => K (EV.bool y0) [])
  | _, _ => False⟩
noncomputable def E_law16_OrderExtremes : Env := ⟨look tys, look [(26, e_law16_alive), (31, e_r16_Fits), (35, e_order_Min), (36, e_order_Max), (37, e_r16_Extreme)], look [], gl, lookL [], false⟩
theorem X_law16_OrderExtremes.eq (a0 : Int) (a1_0 : Int) (a1_1 : Int) (a2_0 : Int) (a2_1 : Int) (K : EV → Heap → Prop) : evFn E_law16_OrderExtremes Tryd.f8 false [.int .u8 a0, .agg [.int .u64 a1_0, .int .u64 a1_1], .agg [.int .u64 a2_0, .int .u64 a2_1]] [] K = law16_OrderExtremes a0 a1_0 a1_1 a2_0 a2_1 (fun y0 => K (EV.bool y0) []) := by
  have h : evFn E_law16_OrderExtremes Tryd.f8 false [.int .u8 a0, .agg [.int .u64 a1_0, .int .u64 a1_1], .agg [.int .u64 a2_0, .int .u64 a2_1]] [] K = law16_OrderExtremes.d a0 a1_0 a1_1 a2_0 a2_1 (fun y0 => K (EV.bool y0) []) := by kernel_rfl
  rw [law16_OrderExtremes.is]; exact h
theorem X_law16_OrderExtremes.ok : SoundE Tryd.prog gl 8 e_law16_OrderExtremes := by
  refine fnOK (E := E_law16_OrderExtremes) (fn := Tryd.f8) rfl tys_ok rfl (show AllL _ [(26, e_law16_alive), (31, e_r16_Fits), (35, e_order_Min), (36, e_order_Max), (37, e_r16_Extreme)] from ⟨X_law16_alive.ok, X_r16_Fits.ok, X_order_Min.ok, X_order_Max.ok, X_r16_Extreme.ok, trivial⟩) mixed (by kernel_rfl) (by kernel_rfl) (by kernel_rfl) 0 (by kernel_rfl) false trivial ?_
  intro args H
  by_cases hx : ∃ (a0 : Int) (a1_0 : Int) (a1_1 : Int) (a2_0 : Int) (a2_1 : Int), args = [.int .u8 a0, .agg [.int .u64 a1_0, .int .u64 a1_1], .agg [.int .u64 a2_0, .int .u64 a2_1]] ∧ H = []
  · obtain ⟨a0, a1_0, a1_1, a2_0, a2_1, rfl, rfl⟩ := hx
    right; intro K
    exact iff_of_eq (X_law16_OrderExtremes.eq a0 a1_0 a1_1 a2_0 a2_1 K).symm
  · left; intro K h
    simp only [e_law16_OrderExtremes] at h
    split at h
    · exact hx ⟨_, _, _, _, _, rfl, rfl⟩
    · exact h
end Go.Ev.S
