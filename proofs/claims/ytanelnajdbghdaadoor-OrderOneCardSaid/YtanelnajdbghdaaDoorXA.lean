/- The functions of the seat: that the evaluator has them as they are. -/
import Derived.Test.YtanelnajdbghdaaDoorProg
import Derived.Test.YtanelnajdbghdaaDoorEvC
import Derived.Test.YtanelnajdbghdaaDoorDA
import Derived.KernelRfl
set_option maxRecDepth 100000
set_option linter.unusedVariables false
set_option linter.unusedSimpArgs false
namespace Go.Ev.S
open Go Go.Proofs Go.Ev
def tys : List (Nat × TI) := [
  (1, ⟨.func, 1, 8, .nilFunc⟩),
  (2, ⟨.int .i64, 1, 8, .int .i64 0⟩),
  (3, ⟨.int .i64, 1, 8, .int .i64 0⟩),
  (4, ⟨.bool, 1, 1, .bool false⟩),
  (5, ⟨.int .u8, 1, 1, .int .u8 0⟩),
  (6, ⟨.int .u8, 1, 1, .int .u8 0⟩),
  (7, ⟨.struct [(0, 2), (1, 3), (2, 4), (3, 6)], 4, 24, .agg [.int .i64 0, .int .i64 0, .bool false, .int .u8 0]⟩),
  (8, ⟨.struct [(0, 2), (1, 3), (2, 4), (3, 6)], 4, 24, .agg [.int .i64 0, .int .i64 0, .bool false, .int .u8 0]⟩),
  (9, ⟨.str, 1, 16, .str []⟩),
  (10, ⟨.str, 1, 16, .str []⟩),
  (11, ⟨.str, 1, 16, .str []⟩),
  (12, ⟨.int .u64, 1, 8, .int .u64 0⟩),
  (15, ⟨.ptr, 1, 8, .nilPtr⟩),
  (16, ⟨.ptr, 1, 8, .nilPtr⟩),
  (17, ⟨.ptr, 1, 8, .nilPtr⟩),
  (21, ⟨.int .i32, 1, 4, .int .i32 0⟩),
  (22, ⟨.int .u8, 1, 1, .int .u8 0⟩),
  (23, ⟨.int .u64, 1, 8, .int .u64 0⟩),
  (24, ⟨.struct [(0, 23), (1, 23)], 2, 16, .agg [.int .u64 0, .int .u64 0]⟩),
  (25, ⟨.struct [(0, 23), (1, 23)], 2, 16, .agg [.int .u64 0, .int .u64 0]⟩),
  (26, ⟨.int .i64, 1, 8, .int .i64 0⟩),
  (28, ⟨.func, 1, 8, .nilFunc⟩),
  (29, ⟨.func, 1, 8, .nilFunc⟩),
  (30, ⟨.func, 1, 8, .nilFunc⟩),
  (31, ⟨.func, 1, 8, .nilFunc⟩),
  (32, ⟨.func, 1, 8, .nilFunc⟩),
  (34, ⟨.func, 1, 8, .nilFunc⟩),
  (35, ⟨.func, 1, 8, .nilFunc⟩),
  (37, ⟨.func, 1, 8, .nilFunc⟩),
  (38, ⟨.func, 1, 8, .nilFunc⟩),
  (40, ⟨.func, 1, 8, .nilFunc⟩),
  (41, ⟨.func, 1, 8, .nilFunc⟩),
  (42, ⟨.func, 1, 8, .nilFunc⟩),
  (44, ⟨.func, 1, 8, .nilFunc⟩),
  (45, ⟨.int .u8, 1, 1, .int .u8 0⟩),
  (47, ⟨.func, 1, 8, .nilFunc⟩),
  (48, ⟨.func, 1, 8, .nilFunc⟩),
  (49, ⟨.int .u8, 1, 1, .int .u8 0⟩),
  (51, ⟨.func, 1, 8, .nilFunc⟩),
  (52, ⟨.func, 1, 8, .nilFunc⟩),
  (53, ⟨.slice 25, 1, 24, .nilSlice⟩),
  (54, ⟨.func, 1, 8, .nilFunc⟩),
  (55, ⟨.func, 1, 8, .nilFunc⟩),
  (57, ⟨.func, 1, 8, .nilFunc⟩),
  (59, ⟨.func, 1, 8, .nilFunc⟩),
  (60, ⟨.int .u8, 1, 1, .int .u8 0⟩),
  (62, ⟨.func, 1, 8, .nilFunc⟩),
  (64, ⟨.func, 1, 8, .nilFunc⟩),
  (65, ⟨.func, 1, 8, .nilFunc⟩),
  (66, ⟨.func, 1, 8, .nilFunc⟩),
  (67, ⟨.func, 1, 8, .nilFunc⟩),
  (68, ⟨.func, 1, 8, .nilFunc⟩),
  (69, ⟨.func, 1, 8, .nilFunc⟩),
  (70, ⟨.func, 1, 8, .nilFunc⟩),
  (71, ⟨.array 6 23, 6, 48, .arr .u64 6 (fun _ => 0)⟩),
  (72, ⟨.array 6 23, 6, 48, .arr .u64 6 (fun _ => 0)⟩),
  (73, ⟨.func, 1, 8, .nilFunc⟩),
  (74, ⟨.func, 1, 8, .nilFunc⟩),
  (76, ⟨.func, 1, 8, .nilFunc⟩),
  (77, ⟨.int .u64, 1, 8, .int .u64 0⟩),
  (78, ⟨.func, 1, 8, .nilFunc⟩),
  (79, ⟨.func, 1, 8, .nilFunc⟩),
  (80, ⟨.func, 1, 8, .nilFunc⟩),
  (81, ⟨.func, 1, 8, .nilFunc⟩),
  (83, ⟨.func, 1, 8, .nilFunc⟩),
  (84, ⟨.func, 1, 8, .nilFunc⟩),
  (85, ⟨.func, 1, 8, .nilFunc⟩),
  (86, ⟨.func, 1, 8, .nilFunc⟩),
  (87, ⟨.func, 1, 8, .nilFunc⟩),
  (88, ⟨.func, 1, 8, .nilFunc⟩),
  (89, ⟨.func, 1, 8, .nilFunc⟩),
  (90, ⟨.func, 1, 8, .nilFunc⟩),
  (91, ⟨.str, 1, 16, .str []⟩),
  (92, ⟨.struct [(0, 4), (1, 91), (2, 91), (3, 3)], 4, 48, .agg [.bool false, .str [], .str [], .int .i64 0]⟩),
  (93, ⟨.struct [(0, 4), (1, 91), (2, 91), (3, 3)], 4, 48, .agg [.bool false, .str [], .str [], .int .i64 0]⟩),
  (95, ⟨.func, 1, 8, .nilFunc⟩),
  (97, ⟨.func, 1, 8, .nilFunc⟩),
  (98, ⟨.func, 1, 8, .nilFunc⟩),
  (99, ⟨.func, 1, 8, .nilFunc⟩),
  (100, ⟨.func, 1, 8, .nilFunc⟩),
  (101, ⟨.func, 1, 8, .nilFunc⟩),
  (102, ⟨.func, 1, 8, .nilFunc⟩),
  (103, ⟨.func, 1, 8, .nilFunc⟩),
  (104, ⟨.func, 1, 8, .nilFunc⟩),
  (105, ⟨.func, 1, 8, .nilFunc⟩),
  (107, ⟨.func, 1, 8, .nilFunc⟩),
  (108, ⟨.func, 1, 8, .nilFunc⟩),
  (110, ⟨.func, 1, 8, .nilFunc⟩),
  (111, ⟨.func, 1, 8, .nilFunc⟩),
  (112, ⟨.func, 1, 8, .nilFunc⟩),
  (113, ⟨.func, 1, 8, .nilFunc⟩),
  (114, ⟨.struct [(0, 60), (1, 72), (7, 3), (8, 72)], 14, 112, .agg [.int .u8 0, .arr .u64 6 (fun _ => 0), .int .i64 0, .arr .u64 6 (fun _ => 0)]⟩),
  (115, ⟨.struct [(0, 60), (1, 72), (7, 3), (8, 72)], 14, 112, .agg [.int .u8 0, .arr .u64 6 (fun _ => 0), .int .i64 0, .arr .u64 6 (fun _ => 0)]⟩),
  (116, ⟨.func, 1, 8, .nilFunc⟩),
  (117, ⟨.func, 1, 8, .nilFunc⟩),
  (118, ⟨.func, 1, 8, .nilFunc⟩),
  (119, ⟨.func, 1, 8, .nilFunc⟩),
  (121, ⟨.func, 1, 8, .nilFunc⟩),
  (122, ⟨.func, 1, 8, .nilFunc⟩),
  (123, ⟨.func, 1, 8, .nilFunc⟩),
  (124, ⟨.func, 1, 8, .nilFunc⟩),
  (125, ⟨.func, 1, 8, .nilFunc⟩),
  (126, ⟨.struct [(0, 3), (1, 3), (2, 3), (3, 9)], 4, 40, .agg [.int .i64 0, .int .i64 0, .int .i64 0, .str []]⟩),
  (127, ⟨.array 4 126, 16, 160, .agg [.agg [.int .i64 0, .int .i64 0, .int .i64 0, .str []], .agg [.int .i64 0, .int .i64 0, .int .i64 0, .str []], .agg [.int .i64 0, .int .i64 0, .int .i64 0, .str []], .agg [.int .i64 0, .int .i64 0, .int .i64 0, .str []]]⟩),
  (128, ⟨.func, 1, 8, .nilFunc⟩),
  (129, ⟨.func, 1, 8, .nilFunc⟩),
  (130, ⟨.func, 1, 8, .nilFunc⟩),
  (131, ⟨.func, 1, 8, .nilFunc⟩),
  (133, ⟨.func, 1, 8, .nilFunc⟩),
  (134, ⟨.func, 1, 8, .nilFunc⟩),
  (136, ⟨.func, 1, 8, .nilFunc⟩),
  (137, ⟨.slice 5, 1, 24, .nilSlice⟩),
  (138, ⟨.func, 1, 8, .nilFunc⟩),
  (140, ⟨.func, 1, 8, .nilFunc⟩),
  (141, ⟨.func, 1, 8, .nilFunc⟩),
  (142, ⟨.func, 1, 8, .nilFunc⟩),
  (143, ⟨.int .i64, 1, 8, .int .i64 0⟩),
  (145, ⟨.func, 1, 8, .nilFunc⟩),
  (146, ⟨.func, 1, 8, .nilFunc⟩),
  (147, ⟨.func, 1, 8, .nilFunc⟩),
  (149, ⟨.func, 1, 8, .nilFunc⟩),
  (150, ⟨.func, 1, 8, .nilFunc⟩),
  (151, ⟨.int .u32, 1, 4, .int .u32 0⟩),
  (153, ⟨.func, 1, 8, .nilFunc⟩),
  (154, ⟨.func, 1, 8, .nilFunc⟩),
  (155, ⟨.func, 1, 8, .nilFunc⟩),
  (156, ⟨.func, 1, 8, .nilFunc⟩),
  (157, ⟨.int .u64, 1, 8, .int .u64 0⟩),
  (158, ⟨.func, 1, 8, .nilFunc⟩),
  (159, ⟨.func, 1, 8, .nilFunc⟩),
  (160, ⟨.ptr, 1, 8, .nilPtr⟩),
  (161, ⟨.func, 1, 8, .nilFunc⟩),
  (162, ⟨.ptr, 1, 8, .nilPtr⟩),
  (163, ⟨.func, 1, 8, .nilFunc⟩),
  (164, ⟨.array 64 5, 64, 64, .arr .u8 64 (fun _ => 0)⟩),
  (165, ⟨.func, 1, 8, .nilFunc⟩),
  (168, ⟨.array 0 16, 0, 0, .agg []⟩),
  (171, ⟨.func, 1, 8, .nilFunc⟩),
  (172, ⟨.int .u8, 1, 1, .int .u8 0⟩),
  (173, ⟨.int .u8, 1, 1, .int .u8 0⟩),
  (174, ⟨.func, 1, 8, .nilFunc⟩),
  (175, ⟨.ptr, 1, 8, .nilPtr⟩),
  (176, ⟨.int .i32, 1, 4, .int .i32 0⟩),
  (177, ⟨.int .i32, 1, 4, .int .i32 0⟩)]
theorem tys_ok : AllL (OkTI Tryd.prog) tys :=
  ⟨.of (by kernel_rfl) (by kernel_rfl), .of (by kernel_rfl) (by kernel_rfl), .of (by kernel_rfl) (by kernel_rfl), .of (by kernel_rfl) (by kernel_rfl), .of (by kernel_rfl) (by kernel_rfl), .of (by kernel_rfl) (by kernel_rfl), .of (by kernel_rfl) (by kernel_rfl), .of (by kernel_rfl) (by kernel_rfl), .of (by kernel_rfl) (by kernel_rfl), .of (by kernel_rfl) (by kernel_rfl), .of (by kernel_rfl) (by kernel_rfl), .of (by kernel_rfl) (by kernel_rfl), .of (by kernel_rfl) (by kernel_rfl), .of (by kernel_rfl) (by kernel_rfl), .of (by kernel_rfl) (by kernel_rfl), .of (by kernel_rfl) (by kernel_rfl), .of (by kernel_rfl) (by kernel_rfl), .of (by kernel_rfl) (by kernel_rfl), .of (by kernel_rfl) (by kernel_rfl), .of (by kernel_rfl) (by kernel_rfl), .of (by kernel_rfl) (by kernel_rfl), .of (by kernel_rfl) (by kernel_rfl), .of (by kernel_rfl) (by kernel_rfl), .of (by kernel_rfl) (by kernel_rfl), .of (by kernel_rfl) (by kernel_rfl), .of (by kernel_rfl) (by kernel_rfl), .of (by kernel_rfl) (by kernel_rfl), .of (by kernel_rfl) (by kernel_rfl), .of (by kernel_rfl) (by kernel_rfl), .of (by kernel_rfl) (by kernel_rfl), .of (by kernel_rfl) (by kernel_rfl), .of (by kernel_rfl) (by kernel_rfl), .of (by kernel_rfl) (by kernel_rfl), .of (by kernel_rfl) (by kernel_rfl), .of (by kernel_rfl) (by kernel_rfl), .of (by kernel_rfl) (by kernel_rfl), .of (by kernel_rfl) (by kernel_rfl), .of (by kernel_rfl) (by kernel_rfl), .of (by kernel_rfl) (by kernel_rfl), .of (by kernel_rfl) (by kernel_rfl), .of (by kernel_rfl) (by kernel_rfl), .of (by kernel_rfl) (by kernel_rfl), .of (by kernel_rfl) (by kernel_rfl), .of (by kernel_rfl) (by kernel_rfl), .of (by kernel_rfl) (by kernel_rfl), .of (by kernel_rfl) (by kernel_rfl), .of (by kernel_rfl) (by kernel_rfl), .of (by kernel_rfl) (by kernel_rfl), .of (by kernel_rfl) (by kernel_rfl), .of (by kernel_rfl) (by kernel_rfl), .of (by kernel_rfl) (by kernel_rfl), .of (by kernel_rfl) (by kernel_rfl), .of (by kernel_rfl) (by kernel_rfl), .of (by kernel_rfl) (by kernel_rfl), .of (by kernel_rfl) (by kernel_rfl), .of (by kernel_rfl) (by kernel_rfl), .of (by kernel_rfl) (by kernel_rfl), .of (by kernel_rfl) (by kernel_rfl), .of (by kernel_rfl) (by kernel_rfl), .of (by kernel_rfl) (by kernel_rfl), .of (by kernel_rfl) (by kernel_rfl), .of (by kernel_rfl) (by kernel_rfl), .of (by kernel_rfl) (by kernel_rfl), .of (by kernel_rfl) (by kernel_rfl), .of (by kernel_rfl) (by kernel_rfl), .of (by kernel_rfl) (by kernel_rfl), .of (by kernel_rfl) (by kernel_rfl), .of (by kernel_rfl) (by kernel_rfl), .of (by kernel_rfl) (by kernel_rfl), .of (by kernel_rfl) (by kernel_rfl), .of (by kernel_rfl) (by kernel_rfl), .of (by kernel_rfl) (by kernel_rfl), .of (by kernel_rfl) (by kernel_rfl), .of (by kernel_rfl) (by kernel_rfl), .of (by kernel_rfl) (by kernel_rfl), .of (by kernel_rfl) (by kernel_rfl), .of (by kernel_rfl) (by kernel_rfl), .of (by kernel_rfl) (by kernel_rfl), .of (by kernel_rfl) (by kernel_rfl), .of (by kernel_rfl) (by kernel_rfl), .of (by kernel_rfl) (by kernel_rfl), .of (by kernel_rfl) (by kernel_rfl), .of (by kernel_rfl) (by kernel_rfl), .of (by kernel_rfl) (by kernel_rfl), .of (by kernel_rfl) (by kernel_rfl), .of (by kernel_rfl) (by kernel_rfl), .of (by kernel_rfl) (by kernel_rfl), .of (by kernel_rfl) (by kernel_rfl), .of (by kernel_rfl) (by kernel_rfl), .of (by kernel_rfl) (by kernel_rfl), .of (by kernel_rfl) (by kernel_rfl), .of (by kernel_rfl) (by kernel_rfl), .of (by kernel_rfl) (by kernel_rfl), .of (by kernel_rfl) (by kernel_rfl), .of (by kernel_rfl) (by kernel_rfl), .of (by kernel_rfl) (by kernel_rfl), .of (by kernel_rfl) (by kernel_rfl), .of (by kernel_rfl) (by kernel_rfl), .of (by kernel_rfl) (by kernel_rfl), .of (by kernel_rfl) (by kernel_rfl), .of (by kernel_rfl) (by kernel_rfl), .of (by kernel_rfl) (by kernel_rfl), .of (by kernel_rfl) (by kernel_rfl), .of (by kernel_rfl) (by kernel_rfl), .of (by kernel_rfl) (by kernel_rfl), .of (by kernel_rfl) (by kernel_rfl), .of (by kernel_rfl) (by kernel_rfl), .of (by kernel_rfl) (by kernel_rfl), .of (by kernel_rfl) (by kernel_rfl), .of (by kernel_rfl) (by kernel_rfl), .of (by kernel_rfl) (by kernel_rfl), .of (by kernel_rfl) (by kernel_rfl), .of (by kernel_rfl) (by kernel_rfl), .of (by kernel_rfl) (by kernel_rfl), .of (by kernel_rfl) (by kernel_rfl), .of (by kernel_rfl) (by kernel_rfl), .of (by kernel_rfl) (by kernel_rfl), .of (by kernel_rfl) (by kernel_rfl), .of (by kernel_rfl) (by kernel_rfl), .of (by kernel_rfl) (by kernel_rfl), .of (by kernel_rfl) (by kernel_rfl), .of (by kernel_rfl) (by kernel_rfl), .of (by kernel_rfl) (by kernel_rfl), .of (by kernel_rfl) (by kernel_rfl), .of (by kernel_rfl) (by kernel_rfl), .of (by kernel_rfl) (by kernel_rfl), .of (by kernel_rfl) (by kernel_rfl), .of (by kernel_rfl) (by kernel_rfl), .of (by kernel_rfl) (by kernel_rfl), .of (by kernel_rfl) (by kernel_rfl), .of (by kernel_rfl) (by kernel_rfl), .of (by kernel_rfl) (by kernel_rfl), .of (by kernel_rfl) (by kernel_rfl), .of (by kernel_rfl) (by kernel_rfl), .of (by kernel_rfl) (by kernel_rfl), .of (by kernel_rfl) (by kernel_rfl), .of (by kernel_rfl) (by kernel_rfl), .of (by kernel_rfl) (by kernel_rfl), .of (by kernel_rfl) (by kernel_rfl), .of (by kernel_rfl) (by kernel_rfl), .of (by kernel_rfl) (by kernel_rfl), .of (by kernel_rfl) (by kernel_rfl), .of (by kernel_rfl) (by kernel_rfl), .of (by kernel_rfl) (by kernel_rfl), trivial⟩
theorem mixed : Tryd.prog.follows .mixedOrders = true := by kernel_rfl
noncomputable def gl : Nat → Option EV := look [(0, .arr .u8 64 tab_deBruijn64tab)]
noncomputable def e_shape_numbers : Entry := ⟨[none], false, fun args H K => match args, H with
  | [.int .u8 a0], [] => shape_numbers a0 (fun y0 y1 y2 y3 => K (EV.tuple [EV.int IntKind.i64 y0, EV.int IntKind.i64 y1, EV.int IntKind.i64 y2, EV.str y3]) [])
  | _, _ => False⟩
noncomputable def E_shape_numbers : Env := ⟨look tys, look [], look [], gl, lookL [], false⟩
theorem X_shape_numbers.eq (a0 : Int) (K : EV → Heap → Prop) : evFn E_shape_numbers Tryd.f88 false [.int .u8 a0] [] K = shape_numbers a0 (fun y0 y1 y2 y3 => K (EV.tuple [EV.int IntKind.i64 y0, EV.int IntKind.i64 y1, EV.int IntKind.i64 y2, EV.str y3]) []) := by
  have h : evFnQ E_shape_numbers Tryd.f88 false [.int .u8 a0] [] K = shape_numbers.d a0 (fun y0 y1 y2 y3 => K (EV.tuple [EV.int IntKind.i64 y0, EV.int IntKind.i64 y1, EV.int IntKind.i64 y2, EV.str y3]) []) := by kernel_rfl
  rw [shape_numbers.is]; exact (evFnQ_eq _ _ _ _ _ _).symm.trans h
theorem X_shape_numbers.ok : SoundE Tryd.prog gl 88 e_shape_numbers := by
  refine fnOK (E := E_shape_numbers) (fn := Tryd.f88) rfl tys_ok rfl (show AllL _ [] from trivial) mixed (by kernel_rfl) (by kernel_rfl) (by kernel_rfl) 0 (by kernel_rfl) false trivial ?_
  intro args H
  by_cases hx : ∃ (a0 : Int), args = [.int .u8 a0] ∧ H = []
  · obtain ⟨a0, rfl, rfl⟩ := hx
    right; intro K
    exact iff_of_eq (X_shape_numbers.eq a0 K).symm
  · left; intro K h
    simp only [e_shape_numbers] at h
    split at h
    · exact hx ⟨_, rfl, rfl⟩
    · exact h
noncomputable def e_shape_Width : Entry := ⟨[none], false, fun args H K => match args, H with
  | [.int .u8 a0], [] => shape_Width a0 (fun y0 => K (EV.int IntKind.i64 y0) [])
  | _, _ => False⟩
noncomputable def E_shape_Width : Env := ⟨look tys, look [(88, e_shape_numbers)], look [], gl, lookL [], false⟩
theorem X_shape_Width.eq (a0 : Int) (K : EV → Heap → Prop) : evFn E_shape_Width Tryd.f55 false [.int .u8 a0] [] K = shape_Width a0 (fun y0 => K (EV.int IntKind.i64 y0) []) := by
  have h : evFnQ E_shape_Width Tryd.f55 false [.int .u8 a0] [] K = shape_Width.d a0 (fun y0 => K (EV.int IntKind.i64 y0) []) := by kernel_rfl
  rw [shape_Width.is]; exact (evFnQ_eq _ _ _ _ _ _).symm.trans h
theorem X_shape_Width.ok : SoundE Tryd.prog gl 55 e_shape_Width := by
  refine fnOK (E := E_shape_Width) (fn := Tryd.f55) rfl tys_ok rfl (show AllL _ [(88, e_shape_numbers)] from ⟨X_shape_numbers.ok, trivial⟩) mixed (by kernel_rfl) (by kernel_rfl) (by kernel_rfl) 0 (by kernel_rfl) false trivial ?_
  intro args H
  by_cases hx : ∃ (a0 : Int), args = [.int .u8 a0] ∧ H = []
  · obtain ⟨a0, rfl, rfl⟩ := hx
    right; intro K
    exact iff_of_eq (X_shape_Width.eq a0 K).symm
  · left; intro K h
    simp only [e_shape_Width] at h
    split at h
    · exact hx ⟨_, rfl, rfl⟩
    · exact h
noncomputable def e_shape_Check : Entry := ⟨[none], false, fun args H K => match args, H with
  | [.int .u8 a0], [] => shape_Check a0 (fun y0 => K (EV.int IntKind.i64 y0) [])
  | _, _ => False⟩
noncomputable def E_shape_Check : Env := ⟨look tys, look [], look [], gl, lookL [], false⟩
theorem X_shape_Check.eq (a0 : Int) (K : EV → Heap → Prop) : evFn E_shape_Check Tryd.f57 false [.int .u8 a0] [] K = shape_Check a0 (fun y0 => K (EV.int IntKind.i64 y0) []) := by
  have h : evFnQ E_shape_Check Tryd.f57 false [.int .u8 a0] [] K = shape_Check.d a0 (fun y0 => K (EV.int IntKind.i64 y0) []) := by kernel_rfl
  rw [shape_Check.is]; exact (evFnQ_eq _ _ _ _ _ _).symm.trans h
theorem X_shape_Check.ok : SoundE Tryd.prog gl 57 e_shape_Check := by
  refine fnOK (E := E_shape_Check) (fn := Tryd.f57) rfl tys_ok rfl (show AllL _ [] from trivial) mixed (by kernel_rfl) (by kernel_rfl) (by kernel_rfl) 0 (by kernel_rfl) false trivial ?_
  intro args H
  by_cases hx : ∃ (a0 : Int), args = [.int .u8 a0] ∧ H = []
  · obtain ⟨a0, rfl, rfl⟩ := hx
    right; intro K
    exact iff_of_eq (X_shape_Check.eq a0 K).symm
  · left; intro K h
    simp only [e_shape_Check] at h
    split at h
    · exact hx ⟨_, rfl, rfl⟩
    · exact h
noncomputable def e_shape_at : Entry := ⟨[none, none], false, fun args H K => match args, H with
  | [.int .u64 a0, .int .i64 a1], [] => shape_at a0 a1 (fun y0 y1 => K (EV.agg [EV.int IntKind.u64 y0, EV.int IntKind.u64 y1]) [])
  | _, _ => False⟩
noncomputable def E_shape_at : Env := ⟨look tys, look [], look [], gl, lookL [], false⟩
theorem X_shape_at.eq (a0 : Int) (a1 : Int) (K : EV → Heap → Prop) : evFn E_shape_at Tryd.f115 false [.int .u64 a0, .int .i64 a1] [] K = shape_at a0 a1 (fun y0 y1 => K (EV.agg [EV.int IntKind.u64 y0, EV.int IntKind.u64 y1]) []) := by
  have h : evFnQ E_shape_at Tryd.f115 false [.int .u64 a0, .int .i64 a1] [] K = shape_at.d a0 a1 (fun y0 y1 => K (EV.agg [EV.int IntKind.u64 y0, EV.int IntKind.u64 y1]) []) := by kernel_rfl
  rw [shape_at.is]; exact (evFnQ_eq _ _ _ _ _ _).symm.trans h
theorem X_shape_at.ok : SoundE Tryd.prog gl 115 e_shape_at := by
  refine fnOK (E := E_shape_at) (fn := Tryd.f115) rfl tys_ok rfl (show AllL _ [] from trivial) mixed (by kernel_rfl) (by kernel_rfl) (by kernel_rfl) 0 (by kernel_rfl) false trivial ?_
  intro args H
  by_cases hx : ∃ (a0 : Int) (a1 : Int), args = [.int .u64 a0, .int .i64 a1] ∧ H = []
  · obtain ⟨a0, a1, rfl, rfl⟩ := hx
    right; intro K
    exact iff_of_eq (X_shape_at.eq a0 a1 K).symm
  · left; intro K h
    simp only [e_shape_at] at h
    split at h
    · exact hx ⟨_, _, rfl, rfl⟩
    · exact h
noncomputable def e_shape_with : Entry := ⟨[none, none, none], false, fun args H K => match args, H with
  | [.int .u8 a0, .agg [.int .u64 a1_0, .int .u64 a1_1], .bool a2], [] => shape_with a0 a1_0 a1_1 a2 (fun y0 y1 => K (EV.agg [EV.int IntKind.u64 y0, EV.int IntKind.u64 y1]) [])
  | _, _ => False⟩
noncomputable def E_shape_with : Env := ⟨look tys, look [(55, e_shape_Width), (57, e_shape_Check), (115, e_shape_at)], look [], gl, lookL [], false⟩
theorem X_shape_with.eq (a0 : Int) (a1_0 : Int) (a1_1 : Int) (a2 : Bool) (K : EV → Heap → Prop) : evFn E_shape_with Tryd.f94 false [.int .u8 a0, .agg [.int .u64 a1_0, .int .u64 a1_1], .bool a2] [] K = shape_with a0 a1_0 a1_1 a2 (fun y0 y1 => K (EV.agg [EV.int IntKind.u64 y0, EV.int IntKind.u64 y1]) []) := by
  have h : evFnQ E_shape_with Tryd.f94 false [.int .u8 a0, .agg [.int .u64 a1_0, .int .u64 a1_1], .bool a2] [] K = shape_with.d a0 a1_0 a1_1 a2 (fun y0 y1 => K (EV.agg [EV.int IntKind.u64 y0, EV.int IntKind.u64 y1]) []) := by kernel_rfl
  rw [shape_with.is]; exact (evFnQ_eq _ _ _ _ _ _).symm.trans h
theorem X_shape_with.ok : SoundE Tryd.prog gl 94 e_shape_with := by
  refine fnOK (E := E_shape_with) (fn := Tryd.f94) rfl tys_ok rfl (show AllL _ [(55, e_shape_Width), (57, e_shape_Check), (115, e_shape_at)] from ⟨X_shape_Width.ok, X_shape_Check.ok, X_shape_at.ok, trivial⟩) mixed (by kernel_rfl) (by kernel_rfl) (by kernel_rfl) 0 (by kernel_rfl) false trivial ?_
  intro args H
  by_cases hx : ∃ (a0 : Int) (a1_0 : Int) (a1_1 : Int) (a2 : Bool), args = [.int .u8 a0, .agg [.int .u64 a1_0, .int .u64 a1_1], .bool a2] ∧ H = []
  · obtain ⟨a0, a1_0, a1_1, a2, rfl, rfl⟩ := hx
    right; intro K
    exact iff_of_eq (X_shape_with.eq a0 a1_0 a1_1 a2 K).symm
  · left; intro K h
    simp only [e_shape_with] at h
    split at h
    · exact hx ⟨_, _, _, _, rfl, rfl⟩
    · exact h
noncomputable def e_shape_Zero : Entry := ⟨[none, none], false, fun args H K => match args, H with
  | [.int .u8 a0, .bool a1], [] => shape_Zero a0 a1 (fun y0 y1 => K (EV.agg [EV.int IntKind.u64 y0, EV.int IntKind.u64 y1]) [])
  | _, _ => False⟩
noncomputable def E_shape_Zero : Env := ⟨look tys, look [(94, e_shape_with)], look [], gl, lookL [], false⟩
theorem X_shape_Zero.eq (a0 : Int) (a1 : Bool) (K : EV → Heap → Prop) : evFn E_shape_Zero Tryd.f63 false [.int .u8 a0, .bool a1] [] K = shape_Zero a0 a1 (fun y0 y1 => K (EV.agg [EV.int IntKind.u64 y0, EV.int IntKind.u64 y1]) []) := by
  have h : evFnQ E_shape_Zero Tryd.f63 false [.int .u8 a0, .bool a1] [] K = shape_Zero.d a0 a1 (fun y0 y1 => K (EV.agg [EV.int IntKind.u64 y0, EV.int IntKind.u64 y1]) []) := by kernel_rfl
  rw [shape_Zero.is]; exact (evFnQ_eq _ _ _ _ _ _).symm.trans h
theorem X_shape_Zero.ok : SoundE Tryd.prog gl 63 e_shape_Zero := by
  refine fnOK (E := E_shape_Zero) (fn := Tryd.f63) rfl tys_ok rfl (show AllL _ [(94, e_shape_with)] from ⟨X_shape_with.ok, trivial⟩) mixed (by kernel_rfl) (by kernel_rfl) (by kernel_rfl) 0 (by kernel_rfl) false trivial ?_
  intro args H
  by_cases hx : ∃ (a0 : Int) (a1 : Bool), args = [.int .u8 a0, .bool a1] ∧ H = []
  · obtain ⟨a0, a1, rfl, rfl⟩ := hx
    right; intro K
    exact iff_of_eq (X_shape_Zero.eq a0 a1 K).symm
  · left; intro K h
    simp only [e_shape_Zero] at h
    split at h
    · exact hx ⟨_, _, rfl, rfl⟩
    · exact h
noncomputable def e_shape_Fits : Entry := ⟨[none, none], false, fun args H K => match args, H with
  | [.int .u8 a0, .agg [.int .u64 a1_0, .int .u64 a1_1]], [] => shape_Fits a0 a1_0 a1_1 (fun y0 => K (EV.bool y0) [])
  | _, _ => False⟩
noncomputable def E_shape_Fits : Env := ⟨look tys, look [(55, e_shape_Width)], look [], gl, lookL [], false⟩
theorem X_shape_Fits.eq (a0 : Int) (a1_0 : Int) (a1_1 : Int) (K : EV → Heap → Prop) : evFn E_shape_Fits Tryd.f53 false [.int .u8 a0, .agg [.int .u64 a1_0, .int .u64 a1_1]] [] K = shape_Fits a0 a1_0 a1_1 (fun y0 => K (EV.bool y0) []) := by
  have h : evFnQ E_shape_Fits Tryd.f53 false [.int .u8 a0, .agg [.int .u64 a1_0, .int .u64 a1_1]] [] K = shape_Fits.d a0 a1_0 a1_1 (fun y0 => K (EV.bool y0) []) := by kernel_rfl
  rw [shape_Fits.is]; exact (evFnQ_eq _ _ _ _ _ _).symm.trans h
theorem X_shape_Fits.ok : SoundE Tryd.prog gl 53 e_shape_Fits := by
  refine fnOK (E := E_shape_Fits) (fn := Tryd.f53) rfl tys_ok rfl (show AllL _ [(55, e_shape_Width)] from ⟨X_shape_Width.ok, trivial⟩) mixed (by kernel_rfl) (by kernel_rfl) (by kernel_rfl) 0 (by kernel_rfl) false trivial ?_
  intro args H
  by_cases hx : ∃ (a0 : Int) (a1_0 : Int) (a1_1 : Int), args = [.int .u8 a0, .agg [.int .u64 a1_0, .int .u64 a1_1]] ∧ H = []
  · obtain ⟨a0, a1_0, a1_1, rfl, rfl⟩ := hx
    right; intro K
    exact iff_of_eq (X_shape_Fits.eq a0 a1_0 a1_1 K).symm
  · left; intro K h
    simp only [e_shape_Fits] at h
    split at h
    · exact hx ⟨_, _, _, rfl, rfl⟩
    · exact h
noncomputable def e_order_fits : Entry := ⟨[none, none], true, fun args H K => match args, H with
  | [.int .u8 a0, .slice 0 0 2 (some 2) 2], [some (.agg [.agg [.int .u64 a1_0_0, .int .u64 a1_0_1], .agg [.int .u64 a1_1_0, .int .u64 a1_1_1]])] => order_fits a0 a1_0_0 a1_0_1 a1_1_0 a1_1_1 (fun y0 y1 y2 y3 y4 => K (EV.bool y0) [some (EV.agg [EV.agg [EV.int IntKind.u64 y1, EV.int IntKind.u64 y2], EV.agg [EV.int IntKind.u64 y3, EV.int IntKind.u64 y4]])])
  | _, _ => False⟩
noncomputable def E_order_fits : Env := ⟨look tys, look [(53, e_shape_Fits), (57, e_shape_Check)], look [(2, order_fits.l2.entry)], gl, lookL [], false⟩
theorem order_fits.l2X.stepEq (R : List EV → Heap → Prop) (K : Ex → List EV → Heap → Prop) (x0 : Int) (x1 : Int) (x2 : Int) (x3 : Int) (x4 : Int) (x5 : Int) (x6 : Int) : loopStep (evCode E_order_fits (loopAt Tryd.f64 0) { (LV.mk 1 [(0, 1)] 16 1 false) with nx := live (.loop (loopAt Tryd.f64 0)) (LV.mk 1 [(0, 1)] 16 1 false) }) (live (.loop (loopAt Tryd.f64 0)) (LV.mk 1 [(0, 1)] 16 1 false)) (LV.mk 1 [(0, 1)] 16 1 false) 1 21 R [EV.int IntKind.u8 x0, EV.slice 0 0 2 (some 2) 2, EV.int IntKind.i64 x1, EV.int IntKind.i64 x2] [some (EV.agg [EV.agg [EV.int IntKind.u64 x3, EV.int IntKind.u64 x4], EV.agg [EV.int IntKind.u64 x5, EV.int IntKind.u64 x6]])] K = order_fits.l2.step (fun x0 x1 x2 x3 x4 x5 x6 => R [EV.int IntKind.u8 x0, EV.slice 0 0 2 (some 2) 2, EV.int IntKind.i64 x1, EV.int IntKind.i64 x2] [some (EV.agg [EV.agg [EV.int IntKind.u64 x3, EV.int IntKind.u64 x4], EV.agg [EV.int IntKind.u64 x5, EV.int IntKind.u64 x6]])]) (fun y0 y1 y2 y3 y4 => K .ret [EV.bool y0] [some (EV.agg [EV.agg [EV.int IntKind.u64 y1, EV.int IntKind.u64 y2], EV.agg [EV.int IntKind.u64 y3, EV.int IntKind.u64 y4]])]) (fun y0 y1 y2 y3 y4 => K (.exit 0) [EV.int IntKind.u8 y0] [some (EV.agg [EV.agg [EV.int IntKind.u64 y1, EV.int IntKind.u64 y2], EV.agg [EV.int IntKind.u64 y3, EV.int IntKind.u64 y4]])]) x0 x1 x2 x3 x4 x5 x6 := (stepQ_eq _ _ _ _ _ _ _ _ _ _ _).symm.trans (by kernel_rfl)
theorem order_fits.l2X.eq (K : Ex → List EV → Heap → Prop) : ∀ (n : Nat) (x0 : Int) (x1 : Int) (x2 : Int) (x3 : Int) (x4 : Int) (x5 : Int) (x6 : Int), loopE E_order_fits (loopAt Tryd.f64 0) (LV.mk 1 [(0, 1)] 16 1 false) 1 21 K n [EV.int IntKind.u8 x0, EV.slice 0 0 2 (some 2) 2, EV.int IntKind.i64 x1, EV.int IntKind.i64 x2] [some (EV.agg [EV.agg [EV.int IntKind.u64 x3, EV.int IntKind.u64 x4], EV.agg [EV.int IntKind.u64 x5, EV.int IntKind.u64 x6]])] = order_fits.l2 (fun y0 y1 y2 y3 y4 => K .ret [EV.bool y0] [some (EV.agg [EV.agg [EV.int IntKind.u64 y1, EV.int IntKind.u64 y2], EV.agg [EV.int IntKind.u64 y3, EV.int IntKind.u64 y4]])]) (fun y0 y1 y2 y3 y4 => K (.exit 0) [EV.int IntKind.u8 y0] [some (EV.agg [EV.agg [EV.int IntKind.u64 y1, EV.int IntKind.u64 y2], EV.agg [EV.int IntKind.u64 y3, EV.int IntKind.u64 y4]])]) n x0 x1 x2 x3 x4 x5 x6
  | 0, _, _, _, _, _, _, _ => rfl
  | n + 1, x0, x1, x2, x3, x4, x5, x6 => by
    have ih : (fun (x0 : Int) (x1 : Int) (x2 : Int) (x3 : Int) (x4 : Int) (x5 : Int) (x6 : Int) => loopE E_order_fits (loopAt Tryd.f64 0) (LV.mk 1 [(0, 1)] 16 1 false) 1 21 K n [EV.int IntKind.u8 x0, EV.slice 0 0 2 (some 2) 2, EV.int IntKind.i64 x1, EV.int IntKind.i64 x2] [some (EV.agg [EV.agg [EV.int IntKind.u64 x3, EV.int IntKind.u64 x4], EV.agg [EV.int IntKind.u64 x5, EV.int IntKind.u64 x6]])]) = order_fits.l2 (fun y0 y1 y2 y3 y4 => K .ret [EV.bool y0] [some (EV.agg [EV.agg [EV.int IntKind.u64 y1, EV.int IntKind.u64 y2], EV.agg [EV.int IntKind.u64 y3, EV.int IntKind.u64 y4]])]) (fun y0 y1 y2 y3 y4 => K (.exit 0) [EV.int IntKind.u8 y0] [some (EV.agg [EV.agg [EV.int IntKind.u64 y1, EV.int IntKind.u64 y2], EV.agg [EV.int IntKind.u64 y3, EV.int IntKind.u64 y4]])]) n := by funext x0 x1 x2 x3 x4 x5 x6; exact order_fits.l2X.eq K n x0 x1 x2 x3 x4 x5 x6
    show loopStep _ _ _ _ _ (loopE E_order_fits (loopAt Tryd.f64 0) (LV.mk 1 [(0, 1)] 16 1 false) 1 21 K n) [EV.int IntKind.u8 x0, EV.slice 0 0 2 (some 2) 2, EV.int IntKind.i64 x1, EV.int IntKind.i64 x2] [some (EV.agg [EV.agg [EV.int IntKind.u64 x3, EV.int IntKind.u64 x4], EV.agg [EV.int IntKind.u64 x5, EV.int IntKind.u64 x6]])] K = order_fits.l2.step (order_fits.l2 (fun y0 y1 y2 y3 y4 => K .ret [EV.bool y0] [some (EV.agg [EV.agg [EV.int IntKind.u64 y1, EV.int IntKind.u64 y2], EV.agg [EV.int IntKind.u64 y3, EV.int IntKind.u64 y4]])]) (fun y0 y1 y2 y3 y4 => K (.exit 0) [EV.int IntKind.u8 y0] [some (EV.agg [EV.agg [EV.int IntKind.u64 y1, EV.int IntKind.u64 y2], EV.agg [EV.int IntKind.u64 y3, EV.int IntKind.u64 y4]])]) n) (fun y0 y1 y2 y3 y4 => K .ret [EV.bool y0] [some (EV.agg [EV.agg [EV.int IntKind.u64 y1, EV.int IntKind.u64 y2], EV.agg [EV.int IntKind.u64 y3, EV.int IntKind.u64 y4]])]) (fun y0 y1 y2 y3 y4 => K (.exit 0) [EV.int IntKind.u8 y0] [some (EV.agg [EV.agg [EV.int IntKind.u64 y1, EV.int IntKind.u64 y2], EV.agg [EV.int IntKind.u64 y3, EV.int IntKind.u64 y4]])]) x0 x1 x2 x3 x4 x5 x6
    rw [← ih]
    exact order_fits.l2X.stepEq _ K x0 x1 x2 x3 x4 x5 x6
theorem order_fits.l2X.ok : LoopEq E_order_fits (loopAt Tryd.f64 0) := by
  intro L hL vs H
  have h1 : E_order_fits.lp (firstRegion (loopAt Tryd.f64 0)) = some order_fits.l2.entry := by kernel_rfl
  have h2 : L = order_fits.l2.entry := Option.some.inj (hL.symm.trans h1)
  subst h2
  by_cases hx : ∃ (x0 : Int) (x1 : Int) (x2 : Int) (x3 : Int) (x4 : Int) (x5 : Int) (x6 : Int), vs = [EV.int IntKind.u8 x0, EV.slice 0 0 2 (some 2) 2, EV.int IntKind.i64 x1, EV.int IntKind.i64 x2] ∧ H = [some (EV.agg [EV.agg [EV.int IntKind.u64 x3, EV.int IntKind.u64 x4], EV.agg [EV.int IntKind.u64 x5, EV.int IntKind.u64 x6]])]
  · obtain ⟨x0, x1, x2, x3, x4, x5, x6, rfl, rfl⟩ := hx
    right; intro K
    exact exists_congr fun n => iff_of_eq (order_fits.l2X.eq K n x0 x1 x2 x3 x4 x5 x6).symm
  · left; intro K h
    simp only [order_fits.l2.entry] at h
    split at h
    · exact hx ⟨_, _, _, _, _, _, _, rfl, rfl⟩
    · exact h
theorem X_order_fits.eq (a0 : Int) (a1_0_0 : Int) (a1_0_1 : Int) (a1_1_0 : Int) (a1_1_1 : Int) (K : EV → Heap → Prop) : evFn E_order_fits Tryd.f64 false [.int .u8 a0, .slice 0 0 2 (some 2) 2] [some (.agg [.agg [.int .u64 a1_0_0, .int .u64 a1_0_1], .agg [.int .u64 a1_1_0, .int .u64 a1_1_1]])] K = order_fits a0 a1_0_0 a1_0_1 a1_1_0 a1_1_1 (fun y0 y1 y2 y3 y4 => K (EV.bool y0) [some (EV.agg [EV.agg [EV.int IntKind.u64 y1, EV.int IntKind.u64 y2], EV.agg [EV.int IntKind.u64 y3, EV.int IntKind.u64 y4]])]) := by
  have h : evFnQ E_order_fits Tryd.f64 false [.int .u8 a0, .slice 0 0 2 (some 2) 2] [some (.agg [.agg [.int .u64 a1_0_0, .int .u64 a1_0_1], .agg [.int .u64 a1_1_0, .int .u64 a1_1_1]])] K = order_fits.d a0 a1_0_0 a1_0_1 a1_1_0 a1_1_1 (fun y0 y1 y2 y3 y4 => K (EV.bool y0) [some (EV.agg [EV.agg [EV.int IntKind.u64 y1, EV.int IntKind.u64 y2], EV.agg [EV.int IntKind.u64 y3, EV.int IntKind.u64 y4]])]) := by kernel_rfl
  rw [order_fits.is]; exact (evFnQ_eq _ _ _ _ _ _).symm.trans h
theorem X_order_fits.ok : SoundE Tryd.prog gl 64 e_order_fits := by
  refine fnOK (E := E_order_fits) (fn := Tryd.f64) rfl tys_ok rfl (show AllL _ [(53, e_shape_Fits), (57, e_shape_Check)] from ⟨X_shape_Fits.ok, X_shape_Check.ok, trivial⟩) mixed (by kernel_rfl) (by kernel_rfl) (by kernel_rfl) 1 (by kernel_rfl) false ⟨order_fits.l2X.ok, trivial⟩ ?_
  intro args H
  by_cases hx : ∃ (a0 : Int) (a1_0_0 : Int) (a1_0_1 : Int) (a1_1_0 : Int) (a1_1_1 : Int), args = [.int .u8 a0, .slice 0 0 2 (some 2) 2] ∧ H = [some (.agg [.agg [.int .u64 a1_0_0, .int .u64 a1_0_1], .agg [.int .u64 a1_1_0, .int .u64 a1_1_1]])]
  · obtain ⟨a0, a1_0_0, a1_0_1, a1_1_0, a1_1_1, rfl, rfl⟩ := hx
    right; intro K
    exact iff_of_eq (X_order_fits.eq a0 a1_0_0 a1_0_1 a1_1_0 a1_1_1 K).symm
  · left; intro K h
    simp only [e_order_fits] at h
    split at h
    · exact hx ⟨_, _, _, _, _, rfl, rfl⟩
    · exact h
noncomputable def e_wide_Bit : Entry := ⟨[none, none], false, fun args H K => match args, H with
  | [.arr .u64 6 a0, .int .i64 a1], [] => wide_Bit a0 a1 (fun y0 => K (EV.bool y0) [])
  | _, _ => False⟩
noncomputable def E_wide_Bit : Env := ⟨look tys, look [], look [], gl, lookL [], false⟩
theorem X_wide_Bit.eq (a0 : Nat → Int) (a1 : Int) (K : EV → Heap → Prop) : evFn E_wide_Bit Tryd.f107 false [.arr .u64 6 a0, .int .i64 a1] [] K = wide_Bit a0 a1 (fun y0 => K (EV.bool y0) []) := by
  have h : evFnQ E_wide_Bit Tryd.f107 false [.arr .u64 6 a0, .int .i64 a1] [] K = wide_Bit.d a0 a1 (fun y0 => K (EV.bool y0) []) := by kernel_rfl
  rw [wide_Bit.is]; exact (evFnQ_eq _ _ _ _ _ _).symm.trans h
theorem X_wide_Bit.ok : SoundE Tryd.prog gl 107 e_wide_Bit := by
  refine fnOK (E := E_wide_Bit) (fn := Tryd.f107) rfl tys_ok rfl (show AllL _ [] from trivial) mixed (by kernel_rfl) (by kernel_rfl) (by kernel_rfl) 0 (by kernel_rfl) false trivial ?_
  intro args H
  by_cases hx : ∃ (a0 : Nat → Int) (a1 : Int), args = [.arr .u64 6 a0, .int .i64 a1] ∧ H = []
  · obtain ⟨a0, a1, rfl, rfl⟩ := hx
    right; intro K
    exact iff_of_eq (X_wide_Bit.eq a0 a1 K).symm
  · left; intro K h
    simp only [e_wide_Bit] at h
    split at h
    · exact hx ⟨_, _, rfl, rfl⟩
    · exact h
noncomputable def e_wide_OfBits : Entry := ⟨[none], false, fun args H K => match args, H with
  | [.agg [.int .u64 a0_0, .int .u64 a0_1]], [] => wide_OfBits a0_0 a0_1 (fun y0 => K (EV.arr IntKind.u64 6 y0) [])
  | _, _ => False⟩
noncomputable def E_wide_OfBits : Env := ⟨look tys, look [], look [], gl, lookL [], false⟩
theorem X_wide_OfBits.eq (a0_0 : Int) (a0_1 : Int) (K : EV → Heap → Prop) : evFn E_wide_OfBits Tryd.f111 false [.agg [.int .u64 a0_0, .int .u64 a0_1]] [] K = wide_OfBits a0_0 a0_1 (fun y0 => K (EV.arr IntKind.u64 6 y0) []) := by
  have h : evFnQ E_wide_OfBits Tryd.f111 false [.agg [.int .u64 a0_0, .int .u64 a0_1]] [] K = wide_OfBits.d a0_0 a0_1 (fun y0 => K (EV.arr IntKind.u64 6 y0) []) := by kernel_rfl
  rw [wide_OfBits.is]; exact (evFnQ_eq _ _ _ _ _ _).symm.trans h
theorem X_wide_OfBits.ok : SoundE Tryd.prog gl 111 e_wide_OfBits := by
  refine fnOK (E := E_wide_OfBits) (fn := Tryd.f111) rfl tys_ok rfl (show AllL _ [] from trivial) mixed (by kernel_rfl) (by kernel_rfl) (by kernel_rfl) 0 (by kernel_rfl) false trivial ?_
  intro args H
  by_cases hx : ∃ (a0_0 : Int) (a0_1 : Int), args = [.agg [.int .u64 a0_0, .int .u64 a0_1]] ∧ H = []
  · obtain ⟨a0_0, a0_1, rfl, rfl⟩ := hx
    right; intro K
    exact iff_of_eq (X_wide_OfBits.eq a0_0 a0_1 K).symm
  · left; intro K h
    simp only [e_wide_OfBits] at h
    split at h
    · exact hx ⟨_, _, rfl, rfl⟩
    · exact h
noncomputable def e_kind_Sign : Entry := ⟨[none, none], false, fun args H K => match args, H with
  | [.int .u8 a0, .agg [.int .u64 a1_0, .int .u64 a1_1]], [] => kind_Sign a0 a1_0 a1_1 (fun y0 => K (EV.bool y0) [])
  | _, _ => False⟩
noncomputable def E_kind_Sign : Env := ⟨look tys, look [(53, e_shape_Fits), (55, e_shape_Width), (107, e_wide_Bit), (111, e_wide_OfBits)], look [], gl, lookL [], false⟩
theorem X_kind_Sign.eq (a0 : Int) (a1_0 : Int) (a1_1 : Int) (K : EV → Heap → Prop) : evFn E_kind_Sign Tryd.f81 false [.int .u8 a0, .agg [.int .u64 a1_0, .int .u64 a1_1]] [] K = kind_Sign a0 a1_0 a1_1 (fun y0 => K (EV.bool y0) []) := by
  have h : evFnQ E_kind_Sign Tryd.f81 false [.int .u8 a0, .agg [.int .u64 a1_0, .int .u64 a1_1]] [] K = kind_Sign.d a0 a1_0 a1_1 (fun y0 => K (EV.bool y0) []) := by kernel_rfl
  rw [kind_Sign.is]; exact (evFnQ_eq _ _ _ _ _ _).symm.trans h
theorem X_kind_Sign.ok : SoundE Tryd.prog gl 81 e_kind_Sign := by
  refine fnOK (E := E_kind_Sign) (fn := Tryd.f81) rfl tys_ok rfl (show AllL _ [(53, e_shape_Fits), (55, e_shape_Width), (107, e_wide_Bit), (111, e_wide_OfBits)] from ⟨X_shape_Fits.ok, X_shape_Width.ok, X_wide_Bit.ok, X_wide_OfBits.ok, trivial⟩) mixed (by kernel_rfl) (by kernel_rfl) (by kernel_rfl) 0 (by kernel_rfl) false trivial ?_
  intro args H
  by_cases hx : ∃ (a0 : Int) (a1_0 : Int) (a1_1 : Int), args = [.int .u8 a0, .agg [.int .u64 a1_0, .int .u64 a1_1]] ∧ H = []
  · obtain ⟨a0, a1_0, a1_1, rfl, rfl⟩ := hx
    right; intro K
    exact iff_of_eq (X_kind_Sign.eq a0 a1_0 a1_1 K).symm
  · left; intro K h
    simp only [e_kind_Sign] at h
    split at h
    · exact hx ⟨_, _, _, rfl, rfl⟩
    · exact h
noncomputable def e_order_key : Entry := ⟨[none, none], false, fun args H K => match args, H with
  | [.int .u8 a0, .agg [.int .u64 a1_0, .int .u64 a1_1]], [] => order_key a0 a1_0 a1_1 (fun y0 y1 => K (EV.agg [EV.int IntKind.u64 y0, EV.int IntKind.u64 y1]) [])
  | _, _ => False⟩
noncomputable def E_order_key : Env := ⟨look tys, look [(63, e_shape_Zero), (81, e_kind_Sign)], look [], gl, lookL [], false⟩
theorem X_order_key.eq (a0 : Int) (a1_0 : Int) (a1_1 : Int) (K : EV → Heap → Prop) : evFn E_order_key Tryd.f95 false [.int .u8 a0, .agg [.int .u64 a1_0, .int .u64 a1_1]] [] K = order_key a0 a1_0 a1_1 (fun y0 y1 => K (EV.agg [EV.int IntKind.u64 y0, EV.int IntKind.u64 y1]) []) := by
  have h : evFnQ E_order_key Tryd.f95 false [.int .u8 a0, .agg [.int .u64 a1_0, .int .u64 a1_1]] [] K = order_key.d a0 a1_0 a1_1 (fun y0 y1 => K (EV.agg [EV.int IntKind.u64 y0, EV.int IntKind.u64 y1]) []) := by kernel_rfl
  rw [order_key.is]; exact (evFnQ_eq _ _ _ _ _ _).symm.trans h
theorem X_order_key.ok : SoundE Tryd.prog gl 95 e_order_key := by
  refine fnOK (E := E_order_key) (fn := Tryd.f95) rfl tys_ok rfl (show AllL _ [(63, e_shape_Zero), (81, e_kind_Sign)] from ⟨X_shape_Zero.ok, X_kind_Sign.ok, trivial⟩) mixed (by kernel_rfl) (by kernel_rfl) (by kernel_rfl) 0 (by kernel_rfl) false trivial ?_
  intro args H
  by_cases hx : ∃ (a0 : Int) (a1_0 : Int) (a1_1 : Int), args = [.int .u8 a0, .agg [.int .u64 a1_0, .int .u64 a1_1]] ∧ H = []
  · obtain ⟨a0, a1_0, a1_1, rfl, rfl⟩ := hx
    right; intro K
    exact iff_of_eq (X_order_key.eq a0 a1_0 a1_1 K).symm
  · left; intro K h
    simp only [e_order_key] at h
    split at h
    · exact hx ⟨_, _, _, rfl, rfl⟩
    · exact h
noncomputable def e_order_total : Entry := ⟨[none, none, none], false, fun args H K => match args, H with
  | [.int .u8 a0, .agg [.int .u64 a1_0, .int .u64 a1_1], .agg [.int .u64 a2_0, .int .u64 a2_1]], [] => order_total a0 a1_0 a1_1 a2_0 a2_1 (fun y0 => K (EV.int IntKind.i64 y0) [])
  | _, _ => False⟩
noncomputable def E_order_total : Env := ⟨look tys, look [(81, e_kind_Sign), (95, e_order_key)], look [], gl, lookL [], false⟩
theorem X_order_total.eq (a0 : Int) (a1_0 : Int) (a1_1 : Int) (a2_0 : Int) (a2_1 : Int) (K : EV → Heap → Prop) : evFn E_order_total Tryd.f65 false [.int .u8 a0, .agg [.int .u64 a1_0, .int .u64 a1_1], .agg [.int .u64 a2_0, .int .u64 a2_1]] [] K = order_total a0 a1_0 a1_1 a2_0 a2_1 (fun y0 => K (EV.int IntKind.i64 y0) []) := by
  have h : evFnQ E_order_total Tryd.f65 false [.int .u8 a0, .agg [.int .u64 a1_0, .int .u64 a1_1], .agg [.int .u64 a2_0, .int .u64 a2_1]] [] K = order_total.d a0 a1_0 a1_1 a2_0 a2_1 (fun y0 => K (EV.int IntKind.i64 y0) []) := by kernel_rfl
  rw [order_total.is]; exact (evFnQ_eq _ _ _ _ _ _).symm.trans h
theorem X_order_total.ok : SoundE Tryd.prog gl 65 e_order_total := by
  refine fnOK (E := E_order_total) (fn := Tryd.f65) rfl tys_ok rfl (show AllL _ [(81, e_kind_Sign), (95, e_order_key)] from ⟨X_kind_Sign.ok, X_order_key.ok, trivial⟩) mixed (by kernel_rfl) (by kernel_rfl) (by kernel_rfl) 0 (by kernel_rfl) false trivial ?_
  intro args H
  by_cases hx : ∃ (a0 : Int) (a1_0 : Int) (a1_1 : Int) (a2_0 : Int) (a2_1 : Int), args = [.int .u8 a0, .agg [.int .u64 a1_0, .int .u64 a1_1], .agg [.int .u64 a2_0, .int .u64 a2_1]] ∧ H = []
  · obtain ⟨a0, a1_0, a1_1, a2_0, a2_1, rfl, rfl⟩ := hx
    right; intro K
    exact iff_of_eq (X_order_total.eq a0 a1_0 a1_1 a2_0 a2_1 K).symm
  · left; intro K h
    simp only [e_order_total] at h
    split at h
    · exact hx ⟨_, _, _, _, _, rfl, rfl⟩
    · exact h
noncomputable def e_shape_Precision : Entry := ⟨[none], false, fun args H K => match args, H with
  | [.int .u8 a0], [] => shape_Precision a0 (fun y0 => K (EV.int IntKind.i64 y0) [])
  | _, _ => False⟩
noncomputable def E_shape_Precision : Env := ⟨look tys, look [(88, e_shape_numbers)], look [], gl, lookL [], false⟩
theorem X_shape_Precision.eq (a0 : Int) (K : EV → Heap → Prop) : evFn E_shape_Precision Tryd.f108 false [.int .u8 a0] [] K = shape_Precision a0 (fun y0 => K (EV.int IntKind.i64 y0) []) := by
  have h : evFnQ E_shape_Precision Tryd.f108 false [.int .u8 a0] [] K = shape_Precision.d a0 (fun y0 => K (EV.int IntKind.i64 y0) []) := by kernel_rfl
  rw [shape_Precision.is]; exact (evFnQ_eq _ _ _ _ _ _).symm.trans h
theorem X_shape_Precision.ok : SoundE Tryd.prog gl 108 e_shape_Precision := by
  refine fnOK (E := E_shape_Precision) (fn := Tryd.f108) rfl tys_ok rfl (show AllL _ [(88, e_shape_numbers)] from ⟨X_shape_numbers.ok, trivial⟩) mixed (by kernel_rfl) (by kernel_rfl) (by kernel_rfl) 0 (by kernel_rfl) false trivial ?_
  intro args H
  by_cases hx : ∃ (a0 : Int), args = [.int .u8 a0] ∧ H = []
  · obtain ⟨a0, rfl, rfl⟩ := hx
    right; intro K
    exact iff_of_eq (X_shape_Precision.eq a0 K).symm
  · left; intro K h
    simp only [e_shape_Precision] at h
    split at h
    · exact hx ⟨_, rfl, rfl⟩
    · exact h
noncomputable def e_wide_And : Entry := ⟨[none, none], false, fun args H K => match args, H with
  | [.arr .u64 6 a0, .arr .u64 6 a1], [] => wide_And a0 a1 (fun y0 => K (EV.arr IntKind.u64 6 y0) [])
  | _, _ => False⟩
noncomputable def E_wide_And : Env := ⟨look tys, look [], look [(2, wide_And.l2.entry)], gl, lookL [], false⟩
theorem wide_And.l2X.stepEq (R : List EV → Heap → Prop) (K : Ex → List EV → Heap → Prop) (x0 : Int) (x1 : Nat → Int) (x2 : Nat → Int) (x3 : Nat → Int) : loopStep (evCode E_wide_And (loopAt Tryd.f126 0) { (LV.mk 20 [(0, 20)] 16 0 false) with nx := live (.loop (loopAt Tryd.f126 0)) (LV.mk 20 [(0, 20)] 16 0 false) }) (live (.loop (loopAt Tryd.f126 0)) (LV.mk 20 [(0, 20)] 16 0 false)) (LV.mk 20 [(0, 20)] 16 0 false) 0 19 R [EV.ptr 0 [], EV.ptr 1 [], EV.ptr 2 [], EV.int IntKind.i64 x0] [some (EV.arr IntKind.u64 6 x1), some (EV.arr IntKind.u64 6 x2), some (EV.arr IntKind.u64 6 x3)] K = wide_And.l2.step (fun x0 x1 x2 x3 => R [EV.ptr 0 [], EV.ptr 1 [], EV.ptr 2 [], EV.int IntKind.i64 x0] [some (EV.arr IntKind.u64 6 x1), some (EV.arr IntKind.u64 6 x2), some (EV.arr IntKind.u64 6 x3)]) (fun y0 y1 => K (.exit 0) [EV.ptr 0 [], EV.ptr 1 []] [some (EV.arr IntKind.u64 6 y0), some (EV.arr IntKind.u64 6 y1)]) x0 x1 x2 x3 := (stepQ_eq _ _ _ _ _ _ _ _ _ _ _).symm.trans (by kernel_rfl)
theorem wide_And.l2X.eq (K : Ex → List EV → Heap → Prop) : ∀ (n : Nat) (x0 : Int) (x1 : Nat → Int) (x2 : Nat → Int) (x3 : Nat → Int), loopE E_wide_And (loopAt Tryd.f126 0) (LV.mk 20 [(0, 20)] 16 0 false) 0 19 K n [EV.ptr 0 [], EV.ptr 1 [], EV.ptr 2 [], EV.int IntKind.i64 x0] [some (EV.arr IntKind.u64 6 x1), some (EV.arr IntKind.u64 6 x2), some (EV.arr IntKind.u64 6 x3)] = wide_And.l2 (fun y0 y1 => K (.exit 0) [EV.ptr 0 [], EV.ptr 1 []] [some (EV.arr IntKind.u64 6 y0), some (EV.arr IntKind.u64 6 y1)]) n x0 x1 x2 x3
  | 0, _, _, _, _ => rfl
  | n + 1, x0, x1, x2, x3 => by
    have ih : (fun (x0 : Int) (x1 : Nat → Int) (x2 : Nat → Int) (x3 : Nat → Int) => loopE E_wide_And (loopAt Tryd.f126 0) (LV.mk 20 [(0, 20)] 16 0 false) 0 19 K n [EV.ptr 0 [], EV.ptr 1 [], EV.ptr 2 [], EV.int IntKind.i64 x0] [some (EV.arr IntKind.u64 6 x1), some (EV.arr IntKind.u64 6 x2), some (EV.arr IntKind.u64 6 x3)]) = wide_And.l2 (fun y0 y1 => K (.exit 0) [EV.ptr 0 [], EV.ptr 1 []] [some (EV.arr IntKind.u64 6 y0), some (EV.arr IntKind.u64 6 y1)]) n := by funext x0 x1 x2 x3; exact wide_And.l2X.eq K n x0 x1 x2 x3
    show loopStep _ _ _ _ _ (loopE E_wide_And (loopAt Tryd.f126 0) (LV.mk 20 [(0, 20)] 16 0 false) 0 19 K n) [EV.ptr 0 [], EV.ptr 1 [], EV.ptr 2 [], EV.int IntKind.i64 x0] [some (EV.arr IntKind.u64 6 x1), some (EV.arr IntKind.u64 6 x2), some (EV.arr IntKind.u64 6 x3)] K = wide_And.l2.step (wide_And.l2 (fun y0 y1 => K (.exit 0) [EV.ptr 0 [], EV.ptr 1 []] [some (EV.arr IntKind.u64 6 y0), some (EV.arr IntKind.u64 6 y1)]) n) (fun y0 y1 => K (.exit 0) [EV.ptr 0 [], EV.ptr 1 []] [some (EV.arr IntKind.u64 6 y0), some (EV.arr IntKind.u64 6 y1)]) x0 x1 x2 x3
    rw [← ih]
    exact wide_And.l2X.stepEq _ K x0 x1 x2 x3
theorem wide_And.l2X.ok : LoopEq E_wide_And (loopAt Tryd.f126 0) := by
  intro L hL vs H
  have h1 : E_wide_And.lp (firstRegion (loopAt Tryd.f126 0)) = some wide_And.l2.entry := by kernel_rfl
  have h2 : L = wide_And.l2.entry := Option.some.inj (hL.symm.trans h1)
  subst h2
  by_cases hx : ∃ (x0 : Int) (x1 : Nat → Int) (x2 : Nat → Int) (x3 : Nat → Int), vs = [EV.ptr 0 [], EV.ptr 1 [], EV.ptr 2 [], EV.int IntKind.i64 x0] ∧ H = [some (EV.arr IntKind.u64 6 x1), some (EV.arr IntKind.u64 6 x2), some (EV.arr IntKind.u64 6 x3)]
  · obtain ⟨x0, x1, x2, x3, rfl, rfl⟩ := hx
    right; intro K
    exact exists_congr fun n => iff_of_eq (wide_And.l2X.eq K n x0 x1 x2 x3).symm
  · left; intro K h
    simp only [wide_And.l2.entry] at h
    split at h
    · exact hx ⟨_, _, _, _, rfl, rfl⟩
    · exact h
theorem X_wide_And.eq (a0 : Nat → Int) (a1 : Nat → Int) (K : EV → Heap → Prop) : evFn E_wide_And Tryd.f126 false [.arr .u64 6 a0, .arr .u64 6 a1] [] K = wide_And a0 a1 (fun y0 => K (EV.arr IntKind.u64 6 y0) []) := by
  have h : evFnQ E_wide_And Tryd.f126 false [.arr .u64 6 a0, .arr .u64 6 a1] [] K = wide_And.d a0 a1 (fun y0 => K (EV.arr IntKind.u64 6 y0) []) := by kernel_rfl
  rw [wide_And.is]; exact (evFnQ_eq _ _ _ _ _ _).symm.trans h
theorem X_wide_And.ok : SoundE Tryd.prog gl 126 e_wide_And := by
  refine fnOK (E := E_wide_And) (fn := Tryd.f126) rfl tys_ok rfl (show AllL _ [] from trivial) mixed (by kernel_rfl) (by kernel_rfl) (by kernel_rfl) 1 (by kernel_rfl) false ⟨wide_And.l2X.ok, trivial⟩ ?_
  intro args H
  by_cases hx : ∃ (a0 : Nat → Int) (a1 : Nat → Int), args = [.arr .u64 6 a0, .arr .u64 6 a1] ∧ H = []
  · obtain ⟨a0, a1, rfl, rfl⟩ := hx
    right; intro K
    exact iff_of_eq (X_wide_And.eq a0 a1 K).symm
  · left; intro K h
    simp only [e_wide_And] at h
    split at h
    · exact hx ⟨_, _, rfl, rfl⟩
    · exact h
noncomputable def e_word_count : Entry := ⟨[none], false, fun args H K => match args, H with
  | [.int .i64 a0], [] => word_count a0 (fun y0 => K (EV.int IntKind.u64 y0) [])
  | _, _ => False⟩
noncomputable def E_word_count : Env := ⟨look tys, look [], look [], gl, lookL [], false⟩
theorem X_word_count.eq (a0 : Int) (K : EV → Heap → Prop) : evFn E_word_count Tryd.f92 false [.int .i64 a0] [] K = word_count a0 (fun y0 => K (EV.int IntKind.u64 y0) []) := by
  have h : evFnQ E_word_count Tryd.f92 false [.int .i64 a0] [] K = word_count.d a0 (fun y0 => K (EV.int IntKind.u64 y0) []) := by kernel_rfl
  rw [word_count.is]; exact (evFnQ_eq _ _ _ _ _ _).symm.trans h
theorem X_word_count.ok : SoundE Tryd.prog gl 92 e_word_count := by
  refine fnOK (E := E_word_count) (fn := Tryd.f92) rfl tys_ok rfl (show AllL _ [] from trivial) mixed (by kernel_rfl) (by kernel_rfl) (by kernel_rfl) 0 (by kernel_rfl) false trivial ?_
  intro args H
  by_cases hx : ∃ (a0 : Int), args = [.int .i64 a0] ∧ H = []
  · obtain ⟨a0, rfl, rfl⟩ := hx
    right; intro K
    exact iff_of_eq (X_word_count.eq a0 K).symm
  · left; intro K h
    simp only [e_word_count] at h
    split at h
    · exact hx ⟨_, rfl, rfl⟩
    · exact h
noncomputable def e_word_Mask : Entry := ⟨[none], false, fun args H K => match args, H with
  | [.int .i64 a0], [] => word_Mask a0 (fun y0 => K (EV.int IntKind.u64 y0) [])
  | _, _ => False⟩
noncomputable def E_word_Mask : Env := ⟨look tys, look [(92, e_word_count)], look [], gl, lookL [], false⟩
theorem X_word_Mask.eq (a0 : Int) (K : EV → Heap → Prop) : evFn E_word_Mask Tryd.f58 false [.int .i64 a0] [] K = word_Mask a0 (fun y0 => K (EV.int IntKind.u64 y0) []) := by
  have h : evFnQ E_word_Mask Tryd.f58 false [.int .i64 a0] [] K = word_Mask.d a0 (fun y0 => K (EV.int IntKind.u64 y0) []) := by kernel_rfl
  rw [word_Mask.is]; exact (evFnQ_eq _ _ _ _ _ _).symm.trans h
theorem X_word_Mask.ok : SoundE Tryd.prog gl 58 e_word_Mask := by
  refine fnOK (E := E_word_Mask) (fn := Tryd.f58) rfl tys_ok rfl (show AllL _ [(92, e_word_count)] from ⟨X_word_count.ok, trivial⟩) mixed (by kernel_rfl) (by kernel_rfl) (by kernel_rfl) 0 (by kernel_rfl) false trivial ?_
  intro args H
  by_cases hx : ∃ (a0 : Int), args = [.int .i64 a0] ∧ H = []
  · obtain ⟨a0, rfl, rfl⟩ := hx
    right; intro K
    exact iff_of_eq (X_word_Mask.eq a0 K).symm
  · left; intro K h
    simp only [e_word_Mask] at h
    split at h
    · exact hx ⟨_, rfl, rfl⟩
    · exact h
noncomputable def e_wide_count : Entry := ⟨[none], false, fun args H K => match args, H with
  | [.int .i64 a0], [] => wide_count a0 (fun y0 => K (EV.int IntKind.i64 y0) [])
  | _, _ => False⟩
noncomputable def E_wide_count : Env := ⟨look tys, look [], look [], gl, lookL [], false⟩
theorem X_wide_count.eq (a0 : Int) (K : EV → Heap → Prop) : evFn E_wide_count Tryd.f147 false [.int .i64 a0] [] K = wide_count a0 (fun y0 => K (EV.int IntKind.i64 y0) []) := by
  have h : evFnQ E_wide_count Tryd.f147 false [.int .i64 a0] [] K = wide_count.d a0 (fun y0 => K (EV.int IntKind.i64 y0) []) := by kernel_rfl
  rw [wide_count.is]; exact (evFnQ_eq _ _ _ _ _ _).symm.trans h
theorem X_wide_count.ok : SoundE Tryd.prog gl 147 e_wide_count := by
  refine fnOK (E := E_wide_count) (fn := Tryd.f147) rfl tys_ok rfl (show AllL _ [] from trivial) mixed (by kernel_rfl) (by kernel_rfl) (by kernel_rfl) 0 (by kernel_rfl) false trivial ?_
  intro args H
  by_cases hx : ∃ (a0 : Int), args = [.int .i64 a0] ∧ H = []
  · obtain ⟨a0, rfl, rfl⟩ := hx
    right; intro K
    exact iff_of_eq (X_wide_count.eq a0 K).symm
  · left; intro K h
    simp only [e_wide_count] at h
    split at h
    · exact hx ⟨_, rfl, rfl⟩
    · exact h
noncomputable def e_wide_Mask : Entry := ⟨[none], false, fun args H K => match args, H with
  | [.int .i64 a0], [] => wide_Mask a0 (fun y0 => K (EV.arr IntKind.u64 6 y0) [])
  | _, _ => False⟩
noncomputable def E_wide_Mask : Env := ⟨look tys, look [(58, e_word_Mask), (147, e_wide_count)], look [(4, wide_Mask.l4.entry)], gl, lookL [], false⟩
theorem wide_Mask.l4X.stepEq (R : List EV → Heap → Prop) (K : Ex → List EV → Heap → Prop) (x0 : Int) (x1 : Int) (x2 : Nat → Int) (x3 : Nat → Int) : loopStep (evCode E_wide_Mask (loopAt Tryd.f127 0) { (LV.mk 12 [(0, 12)] 4 0 false) with nx := live (.loop (loopAt Tryd.f127 0)) (LV.mk 12 [(0, 12)] 4 0 false) }) (live (.loop (loopAt Tryd.f127 0)) (LV.mk 12 [(0, 12)] 4 0 false)) (LV.mk 12 [(0, 12)] 4 0 false) 0 19 R [EV.int IntKind.i64 x0, EV.ptr 0 [], EV.ptr 1 [], EV.int IntKind.i64 x1] [some (EV.arr IntKind.u64 6 x2), some (EV.arr IntKind.u64 6 x3)] K = wide_Mask.l4.step (fun x0 x1 x2 x3 => R [EV.int IntKind.i64 x0, EV.ptr 0 [], EV.ptr 1 [], EV.int IntKind.i64 x1] [some (EV.arr IntKind.u64 6 x2), some (EV.arr IntKind.u64 6 x3)]) (fun y0 y1 => K (.exit 0) [EV.ptr 0 [], EV.ptr 1 []] [some (EV.arr IntKind.u64 6 y0), some (EV.arr IntKind.u64 6 y1)]) x0 x1 x2 x3 := (stepQ_eq _ _ _ _ _ _ _ _ _ _ _).symm.trans (by kernel_rfl)
theorem wide_Mask.l4X.eq (K : Ex → List EV → Heap → Prop) : ∀ (n : Nat) (x0 : Int) (x1 : Int) (x2 : Nat → Int) (x3 : Nat → Int), loopE E_wide_Mask (loopAt Tryd.f127 0) (LV.mk 12 [(0, 12)] 4 0 false) 0 19 K n [EV.int IntKind.i64 x0, EV.ptr 0 [], EV.ptr 1 [], EV.int IntKind.i64 x1] [some (EV.arr IntKind.u64 6 x2), some (EV.arr IntKind.u64 6 x3)] = wide_Mask.l4 (fun y0 y1 => K (.exit 0) [EV.ptr 0 [], EV.ptr 1 []] [some (EV.arr IntKind.u64 6 y0), some (EV.arr IntKind.u64 6 y1)]) n x0 x1 x2 x3
  | 0, _, _, _, _ => rfl
  | n + 1, x0, x1, x2, x3 => by
    have ih : (fun (x0 : Int) (x1 : Int) (x2 : Nat → Int) (x3 : Nat → Int) => loopE E_wide_Mask (loopAt Tryd.f127 0) (LV.mk 12 [(0, 12)] 4 0 false) 0 19 K n [EV.int IntKind.i64 x0, EV.ptr 0 [], EV.ptr 1 [], EV.int IntKind.i64 x1] [some (EV.arr IntKind.u64 6 x2), some (EV.arr IntKind.u64 6 x3)]) = wide_Mask.l4 (fun y0 y1 => K (.exit 0) [EV.ptr 0 [], EV.ptr 1 []] [some (EV.arr IntKind.u64 6 y0), some (EV.arr IntKind.u64 6 y1)]) n := by funext x0 x1 x2 x3; exact wide_Mask.l4X.eq K n x0 x1 x2 x3
    show loopStep _ _ _ _ _ (loopE E_wide_Mask (loopAt Tryd.f127 0) (LV.mk 12 [(0, 12)] 4 0 false) 0 19 K n) [EV.int IntKind.i64 x0, EV.ptr 0 [], EV.ptr 1 [], EV.int IntKind.i64 x1] [some (EV.arr IntKind.u64 6 x2), some (EV.arr IntKind.u64 6 x3)] K = wide_Mask.l4.step (wide_Mask.l4 (fun y0 y1 => K (.exit 0) [EV.ptr 0 [], EV.ptr 1 []] [some (EV.arr IntKind.u64 6 y0), some (EV.arr IntKind.u64 6 y1)]) n) (fun y0 y1 => K (.exit 0) [EV.ptr 0 [], EV.ptr 1 []] [some (EV.arr IntKind.u64 6 y0), some (EV.arr IntKind.u64 6 y1)]) x0 x1 x2 x3
    rw [← ih]
    exact wide_Mask.l4X.stepEq _ K x0 x1 x2 x3
theorem wide_Mask.l4X.ok : LoopEq E_wide_Mask (loopAt Tryd.f127 0) := by
  intro L hL vs H
  have h1 : E_wide_Mask.lp (firstRegion (loopAt Tryd.f127 0)) = some wide_Mask.l4.entry := by kernel_rfl
  have h2 : L = wide_Mask.l4.entry := Option.some.inj (hL.symm.trans h1)
  subst h2
  by_cases hx : ∃ (x0 : Int) (x1 : Int) (x2 : Nat → Int) (x3 : Nat → Int), vs = [EV.int IntKind.i64 x0, EV.ptr 0 [], EV.ptr 1 [], EV.int IntKind.i64 x1] ∧ H = [some (EV.arr IntKind.u64 6 x2), some (EV.arr IntKind.u64 6 x3)]
  · obtain ⟨x0, x1, x2, x3, rfl, rfl⟩ := hx
    right; intro K
    exact exists_congr fun n => iff_of_eq (wide_Mask.l4X.eq K n x0 x1 x2 x3).symm
  · left; intro K h
    simp only [wide_Mask.l4.entry] at h
    split at h
    · exact hx ⟨_, _, _, _, rfl, rfl⟩
    · exact h
theorem X_wide_Mask.eq (a0 : Int) (K : EV → Heap → Prop) : evFn E_wide_Mask Tryd.f127 false [.int .i64 a0] [] K = wide_Mask a0 (fun y0 => K (EV.arr IntKind.u64 6 y0) []) := by
  have h : evFnQ E_wide_Mask Tryd.f127 false [.int .i64 a0] [] K = wide_Mask.d a0 (fun y0 => K (EV.arr IntKind.u64 6 y0) []) := by kernel_rfl
  rw [wide_Mask.is]; exact (evFnQ_eq _ _ _ _ _ _).symm.trans h
theorem X_wide_Mask.ok : SoundE Tryd.prog gl 127 e_wide_Mask := by
  refine fnOK (E := E_wide_Mask) (fn := Tryd.f127) rfl tys_ok rfl (show AllL _ [(58, e_word_Mask), (147, e_wide_count)] from ⟨X_word_Mask.ok, X_wide_count.ok, trivial⟩) mixed (by kernel_rfl) (by kernel_rfl) (by kernel_rfl) 1 (by kernel_rfl) false ⟨wide_Mask.l4X.ok, trivial⟩ ?_
  intro args H
  by_cases hx : ∃ (a0 : Int), args = [.int .i64 a0] ∧ H = []
  · obtain ⟨a0, rfl, rfl⟩ := hx
    right; intro K
    exact iff_of_eq (X_wide_Mask.eq a0 K).symm
  · left; intro K h
    simp only [e_wide_Mask] at h
    split at h
    · exact hx ⟨_, rfl, rfl⟩
    · exact h
noncomputable def e_bits_TrailingZeros64 : Entry := ⟨[none], false, fun args H K => match args, H with
  | [.int .u64 a0], [] => bits_TrailingZeros64 a0 (fun y0 => K (EV.int IntKind.i64 y0) [])
  | _, _ => False⟩
noncomputable def E_bits_TrailingZeros64 : Env := ⟨look tys, look [], look [], gl, lookL [], false⟩
theorem X_bits_TrailingZeros64.eq (a0 : Int) (K : EV → Heap → Prop) : evFn E_bits_TrailingZeros64 Tryd.f156 false [.int .u64 a0] [] K = bits_TrailingZeros64 a0 (fun y0 => K (EV.int IntKind.i64 y0) []) := by
  have h : evFnQ E_bits_TrailingZeros64 Tryd.f156 false [.int .u64 a0] [] K = bits_TrailingZeros64.d a0 (fun y0 => K (EV.int IntKind.i64 y0) []) := by kernel_rfl
  rw [bits_TrailingZeros64.is]; exact (evFnQ_eq _ _ _ _ _ _).symm.trans h
theorem X_bits_TrailingZeros64.ok : SoundE Tryd.prog gl 156 e_bits_TrailingZeros64 := by
  refine fnOK (E := E_bits_TrailingZeros64) (fn := Tryd.f156) rfl tys_ok rfl (show AllL _ [] from trivial) mixed (by kernel_rfl) (by kernel_rfl) (by kernel_rfl) 0 (by kernel_rfl) false trivial ?_
  intro args H
  by_cases hx : ∃ (a0 : Int), args = [.int .u64 a0] ∧ H = []
  · obtain ⟨a0, rfl, rfl⟩ := hx
    right; intro K
    exact iff_of_eq (X_bits_TrailingZeros64.eq a0 K).symm
  · left; intro K h
    simp only [e_bits_TrailingZeros64] at h
    split at h
    · exact hx ⟨_, rfl, rfl⟩
    · exact h
noncomputable def e_word_Low : Entry := ⟨[none], false, fun args H K => match args, H with
  | [.int .u64 a0], [] => word_Low a0 (fun y0 => K (EV.int IntKind.i64 y0) [])
  | _, _ => False⟩
noncomputable def E_word_Low : Env := ⟨look tys, look [(156, e_bits_TrailingZeros64)], look [], gl, lookL [], false⟩
theorem X_word_Low.eq (a0 : Int) (K : EV → Heap → Prop) : evFn E_word_Low Tryd.f154 false [.int .u64 a0] [] K = word_Low a0 (fun y0 => K (EV.int IntKind.i64 y0) []) := by
  have h : evFnQ E_word_Low Tryd.f154 false [.int .u64 a0] [] K = word_Low.d a0 (fun y0 => K (EV.int IntKind.i64 y0) []) := by kernel_rfl
  rw [word_Low.is]; exact (evFnQ_eq _ _ _ _ _ _).symm.trans h
theorem X_word_Low.ok : SoundE Tryd.prog gl 154 e_word_Low := by
  refine fnOK (E := E_word_Low) (fn := Tryd.f154) rfl tys_ok rfl (show AllL _ [(156, e_bits_TrailingZeros64)] from ⟨X_bits_TrailingZeros64.ok, trivial⟩) mixed (by kernel_rfl) (by kernel_rfl) (by kernel_rfl) 0 (by kernel_rfl) false trivial ?_
  intro args H
  by_cases hx : ∃ (a0 : Int), args = [.int .u64 a0] ∧ H = []
  · obtain ⟨a0, rfl, rfl⟩ := hx
    right; intro K
    exact iff_of_eq (X_word_Low.eq a0 K).symm
  · left; intro K h
    simp only [e_word_Low] at h
    split at h
    · exact hx ⟨_, rfl, rfl⟩
    · exact h
noncomputable def e_wide_Low : Entry := ⟨[none], false, fun args H K => match args, H with
  | [.arr .u64 6 a0], [] => wide_Low a0 (fun y0 => K (EV.int IntKind.i64 y0) [])
  | _, _ => False⟩
noncomputable def E_wide_Low : Env := ⟨look tys, look [(154, e_word_Low)], look [(2, wide_Low.l2.entry)], gl, lookL [], false⟩
theorem wide_Low.l2X.stepEq (R : List EV → Heap → Prop) (K : Ex → List EV → Heap → Prop) (x0 : Nat → Int) (x1 : Int) : loopStep (evCode E_wide_Low (loopAt Tryd.f148 0) { (LV.mk 0 [(0, 0)] 4 0 false) with nx := live (.loop (loopAt Tryd.f148 0)) (LV.mk 0 [(0, 0)] 4 0 false) }) (live (.loop (loopAt Tryd.f148 0)) (LV.mk 0 [(0, 0)] 4 0 false)) (LV.mk 0 [(0, 0)] 4 0 false) 0 18 R [EV.arr IntKind.u64 6 x0, EV.int IntKind.i64 x1] [] K = wide_Low.l2.step (fun x0 x1 => R [EV.arr IntKind.u64 6 x0, EV.int IntKind.i64 x1] []) (fun y0 => K .ret [EV.int IntKind.i64 y0] []) (K (.exit 0) [] []) x0 x1 := (stepQ_eq _ _ _ _ _ _ _ _ _ _ _).symm.trans (by kernel_rfl)
theorem wide_Low.l2X.eq (K : Ex → List EV → Heap → Prop) : ∀ (n : Nat) (x0 : Nat → Int) (x1 : Int), loopE E_wide_Low (loopAt Tryd.f148 0) (LV.mk 0 [(0, 0)] 4 0 false) 0 18 K n [EV.arr IntKind.u64 6 x0, EV.int IntKind.i64 x1] [] = wide_Low.l2 (fun y0 => K .ret [EV.int IntKind.i64 y0] []) (K (.exit 0) [] []) n x0 x1
  | 0, _, _ => rfl
  | n + 1, x0, x1 => by
    have ih : (fun (x0 : Nat → Int) (x1 : Int) => loopE E_wide_Low (loopAt Tryd.f148 0) (LV.mk 0 [(0, 0)] 4 0 false) 0 18 K n [EV.arr IntKind.u64 6 x0, EV.int IntKind.i64 x1] []) = wide_Low.l2 (fun y0 => K .ret [EV.int IntKind.i64 y0] []) (K (.exit 0) [] []) n := by funext x0 x1; exact wide_Low.l2X.eq K n x0 x1
    show loopStep _ _ _ _ _ (loopE E_wide_Low (loopAt Tryd.f148 0) (LV.mk 0 [(0, 0)] 4 0 false) 0 18 K n) [EV.arr IntKind.u64 6 x0, EV.int IntKind.i64 x1] [] K = wide_Low.l2.step (wide_Low.l2 (fun y0 => K .ret [EV.int IntKind.i64 y0] []) (K (.exit 0) [] []) n) (fun y0 => K .ret [EV.int IntKind.i64 y0] []) (K (.exit 0) [] []) x0 x1
    rw [← ih]
    exact wide_Low.l2X.stepEq _ K x0 x1
theorem wide_Low.l2X.ok : LoopEq E_wide_Low (loopAt Tryd.f148 0) := by
  intro L hL vs H
  have h1 : E_wide_Low.lp (firstRegion (loopAt Tryd.f148 0)) = some wide_Low.l2.entry := by kernel_rfl
  have h2 : L = wide_Low.l2.entry := Option.some.inj (hL.symm.trans h1)
  subst h2
  by_cases hx : ∃ (x0 : Nat → Int) (x1 : Int), vs = [EV.arr IntKind.u64 6 x0, EV.int IntKind.i64 x1] ∧ H = []
  · obtain ⟨x0, x1, rfl, rfl⟩ := hx
    right; intro K
    exact exists_congr fun n => iff_of_eq (wide_Low.l2X.eq K n x0 x1).symm
  · left; intro K h
    simp only [wide_Low.l2.entry] at h
    split at h
    · exact hx ⟨_, _, rfl, rfl⟩
    · exact h
theorem X_wide_Low.eq (a0 : Nat → Int) (K : EV → Heap → Prop) : evFn E_wide_Low Tryd.f148 false [.arr .u64 6 a0] [] K = wide_Low a0 (fun y0 => K (EV.int IntKind.i64 y0) []) := by
  have h : evFnQ E_wide_Low Tryd.f148 false [.arr .u64 6 a0] [] K = wide_Low.d a0 (fun y0 => K (EV.int IntKind.i64 y0) []) := by kernel_rfl
  rw [wide_Low.is]; exact (evFnQ_eq _ _ _ _ _ _).symm.trans h
theorem X_wide_Low.ok : SoundE Tryd.prog gl 148 e_wide_Low := by
  refine fnOK (E := E_wide_Low) (fn := Tryd.f148) rfl tys_ok rfl (show AllL _ [(154, e_word_Low)] from ⟨X_word_Low.ok, trivial⟩) mixed (by kernel_rfl) (by kernel_rfl) (by kernel_rfl) 1 (by kernel_rfl) false ⟨wide_Low.l2X.ok, trivial⟩ ?_
  intro args H
  by_cases hx : ∃ (a0 : Nat → Int), args = [.arr .u64 6 a0] ∧ H = []
  · obtain ⟨a0, rfl, rfl⟩ := hx
    right; intro K
    exact iff_of_eq (X_wide_Low.eq a0 K).symm
  · left; intro K h
    simp only [e_wide_Low] at h
    split at h
    · exact hx ⟨_, rfl, rfl⟩
    · exact h
noncomputable def e_wide_Right : Entry := ⟨[none, none], false, fun args H K => match args, H with
  | [.arr .u64 6 a0, .int .i64 a1], [] => wide_Right a0 a1 (fun y0 y1 => K (EV.tuple [EV.arr IntKind.u64 6 y0, EV.bool y1]) [])
  | _, _ => False⟩
noncomputable def E_wide_Right : Env := ⟨look tys, look [(147, e_wide_count), (148, e_wide_Low)], look [(5, wide_Right.l5.entry)], gl, lookL [], false⟩
theorem wide_Right.l5X.stepEq (R : List EV → Heap → Prop) (K : Ex → List EV → Heap → Prop) (x0 : Bool) (x1 : Int) (x2 : Int) (x3 : Int) (x4 : Nat → Int) (x5 : Nat → Int) : loopStep (evCode E_wide_Right (loopAt Tryd.f128 0) { (LV.mk 48 [(0, 48)] 48 0 false) with nx := live (.loop (loopAt Tryd.f128 0)) (LV.mk 48 [(0, 48)] 48 0 false) }) (live (.loop (loopAt Tryd.f128 0)) (LV.mk 48 [(0, 48)] 48 0 false)) (LV.mk 48 [(0, 48)] 48 0 false) 0 60 R [EV.ptr 0 [], EV.ptr 1 [], EV.bool x0, EV.int IntKind.i64 x1, EV.int IntKind.u64 x2, EV.int IntKind.i64 x3] [some (EV.arr IntKind.u64 6 x4), some (EV.arr IntKind.u64 6 x5)] K = wide_Right.l5.step (fun x0 x1 x2 x3 x4 x5 => R [EV.ptr 0 [], EV.ptr 1 [], EV.bool x0, EV.int IntKind.i64 x1, EV.int IntKind.u64 x2, EV.int IntKind.i64 x3] [some (EV.arr IntKind.u64 6 x4), some (EV.arr IntKind.u64 6 x5)]) (fun y0 y1 => K (.exit 0) [EV.ptr 0 [], EV.bool y0] [some (EV.arr IntKind.u64 6 y1)]) x0 x1 x2 x3 x4 x5 := (stepQ_eq _ _ _ _ _ _ _ _ _ _ _).symm.trans (by kernel_rfl)
theorem wide_Right.l5X.eq (K : Ex → List EV → Heap → Prop) : ∀ (n : Nat) (x0 : Bool) (x1 : Int) (x2 : Int) (x3 : Int) (x4 : Nat → Int) (x5 : Nat → Int), loopE E_wide_Right (loopAt Tryd.f128 0) (LV.mk 48 [(0, 48)] 48 0 false) 0 60 K n [EV.ptr 0 [], EV.ptr 1 [], EV.bool x0, EV.int IntKind.i64 x1, EV.int IntKind.u64 x2, EV.int IntKind.i64 x3] [some (EV.arr IntKind.u64 6 x4), some (EV.arr IntKind.u64 6 x5)] = wide_Right.l5 (fun y0 y1 => K (.exit 0) [EV.ptr 0 [], EV.bool y0] [some (EV.arr IntKind.u64 6 y1)]) n x0 x1 x2 x3 x4 x5
  | 0, _, _, _, _, _, _ => rfl
  | n + 1, x0, x1, x2, x3, x4, x5 => by
    have ih : (fun (x0 : Bool) (x1 : Int) (x2 : Int) (x3 : Int) (x4 : Nat → Int) (x5 : Nat → Int) => loopE E_wide_Right (loopAt Tryd.f128 0) (LV.mk 48 [(0, 48)] 48 0 false) 0 60 K n [EV.ptr 0 [], EV.ptr 1 [], EV.bool x0, EV.int IntKind.i64 x1, EV.int IntKind.u64 x2, EV.int IntKind.i64 x3] [some (EV.arr IntKind.u64 6 x4), some (EV.arr IntKind.u64 6 x5)]) = wide_Right.l5 (fun y0 y1 => K (.exit 0) [EV.ptr 0 [], EV.bool y0] [some (EV.arr IntKind.u64 6 y1)]) n := by funext x0 x1 x2 x3 x4 x5; exact wide_Right.l5X.eq K n x0 x1 x2 x3 x4 x5
    show loopStep _ _ _ _ _ (loopE E_wide_Right (loopAt Tryd.f128 0) (LV.mk 48 [(0, 48)] 48 0 false) 0 60 K n) [EV.ptr 0 [], EV.ptr 1 [], EV.bool x0, EV.int IntKind.i64 x1, EV.int IntKind.u64 x2, EV.int IntKind.i64 x3] [some (EV.arr IntKind.u64 6 x4), some (EV.arr IntKind.u64 6 x5)] K = wide_Right.l5.step (wide_Right.l5 (fun y0 y1 => K (.exit 0) [EV.ptr 0 [], EV.bool y0] [some (EV.arr IntKind.u64 6 y1)]) n) (fun y0 y1 => K (.exit 0) [EV.ptr 0 [], EV.bool y0] [some (EV.arr IntKind.u64 6 y1)]) x0 x1 x2 x3 x4 x5
    rw [← ih]
    exact wide_Right.l5X.stepEq _ K x0 x1 x2 x3 x4 x5
theorem wide_Right.l5X.ok : LoopEq E_wide_Right (loopAt Tryd.f128 0) := by
  intro L hL vs H
  have h1 : E_wide_Right.lp (firstRegion (loopAt Tryd.f128 0)) = some wide_Right.l5.entry := by kernel_rfl
  have h2 : L = wide_Right.l5.entry := Option.some.inj (hL.symm.trans h1)
  subst h2
  by_cases hx : ∃ (x0 : Bool) (x1 : Int) (x2 : Int) (x3 : Int) (x4 : Nat → Int) (x5 : Nat → Int), vs = [EV.ptr 0 [], EV.ptr 1 [], EV.bool x0, EV.int IntKind.i64 x1, EV.int IntKind.u64 x2, EV.int IntKind.i64 x3] ∧ H = [some (EV.arr IntKind.u64 6 x4), some (EV.arr IntKind.u64 6 x5)]
  · obtain ⟨x0, x1, x2, x3, x4, x5, rfl, rfl⟩ := hx
    right; intro K
    exact exists_congr fun n => iff_of_eq (wide_Right.l5X.eq K n x0 x1 x2 x3 x4 x5).symm
  · left; intro K h
    simp only [wide_Right.l5.entry] at h
    split at h
    · exact hx ⟨_, _, _, _, _, _, rfl, rfl⟩
    · exact h
theorem X_wide_Right.eq (a0 : Nat → Int) (a1 : Int) (K : EV → Heap → Prop) : evFn E_wide_Right Tryd.f128 false [.arr .u64 6 a0, .int .i64 a1] [] K = wide_Right a0 a1 (fun y0 y1 => K (EV.tuple [EV.arr IntKind.u64 6 y0, EV.bool y1]) []) := by
  have h : evFnQ E_wide_Right Tryd.f128 false [.arr .u64 6 a0, .int .i64 a1] [] K = wide_Right.d a0 a1 (fun y0 y1 => K (EV.tuple [EV.arr IntKind.u64 6 y0, EV.bool y1]) []) := by kernel_rfl
  rw [wide_Right.is]; exact (evFnQ_eq _ _ _ _ _ _).symm.trans h
theorem X_wide_Right.ok : SoundE Tryd.prog gl 128 e_wide_Right := by
  refine fnOK (E := E_wide_Right) (fn := Tryd.f128) rfl tys_ok rfl (show AllL _ [(147, e_wide_count), (148, e_wide_Low)] from ⟨X_wide_count.ok, X_wide_Low.ok, trivial⟩) mixed (by kernel_rfl) (by kernel_rfl) (by kernel_rfl) 1 (by kernel_rfl) false ⟨wide_Right.l5X.ok, trivial⟩ ?_
  intro args H
  by_cases hx : ∃ (a0 : Nat → Int) (a1 : Int), args = [.arr .u64 6 a0, .int .i64 a1] ∧ H = []
  · obtain ⟨a0, a1, rfl, rfl⟩ := hx
    right; intro K
    exact iff_of_eq (X_wide_Right.eq a0 a1 K).symm
  · left; intro K h
    simp only [e_wide_Right] at h
    split at h
    · exact hx ⟨_, _, rfl, rfl⟩
    · exact h
noncomputable def e_kind_fields : Entry := ⟨[none, none], false, fun args H K => match args, H with
  | [.int .u8 a0, .agg [.int .u64 a1_0, .int .u64 a1_1]], [] => kind_fields a0 a1_0 a1_1 (fun y0 y1 y2 => K (EV.tuple [EV.bool y0, EV.int IntKind.i64 y1, EV.arr IntKind.u64 6 y2]) [])
  | _, _ => False⟩
noncomputable def E_kind_fields : Env := ⟨look tys, look [(55, e_shape_Width), (107, e_wide_Bit), (108, e_shape_Precision), (111, e_wide_OfBits), (126, e_wide_And), (127, e_wide_Mask), (128, e_wide_Right)], look [], gl, lookL [], false⟩
theorem X_kind_fields.eq (a0 : Int) (a1_0 : Int) (a1_1 : Int) (K : EV → Heap → Prop) : evFn E_kind_fields Tryd.f105 false [.int .u8 a0, .agg [.int .u64 a1_0, .int .u64 a1_1]] [] K = kind_fields a0 a1_0 a1_1 (fun y0 y1 y2 => K (EV.tuple [EV.bool y0, EV.int IntKind.i64 y1, EV.arr IntKind.u64 6 y2]) []) := by
  have h : evFnQ E_kind_fields Tryd.f105 false [.int .u8 a0, .agg [.int .u64 a1_0, .int .u64 a1_1]] [] K = kind_fields.d a0 a1_0 a1_1 (fun y0 y1 y2 => K (EV.tuple [EV.bool y0, EV.int IntKind.i64 y1, EV.arr IntKind.u64 6 y2]) []) := by kernel_rfl
  rw [kind_fields.is]; exact (evFnQ_eq _ _ _ _ _ _).symm.trans h
theorem X_kind_fields.ok : SoundE Tryd.prog gl 105 e_kind_fields := by
  refine fnOK (E := E_kind_fields) (fn := Tryd.f105) rfl tys_ok rfl (show AllL _ [(55, e_shape_Width), (107, e_wide_Bit), (108, e_shape_Precision), (111, e_wide_OfBits), (126, e_wide_And), (127, e_wide_Mask), (128, e_wide_Right)] from ⟨X_shape_Width.ok, X_wide_Bit.ok, X_shape_Precision.ok, X_wide_OfBits.ok, X_wide_And.ok, X_wide_Mask.ok, X_wide_Right.ok, trivial⟩) mixed (by kernel_rfl) (by kernel_rfl) (by kernel_rfl) 0 (by kernel_rfl) false trivial ?_
  intro args H
  by_cases hx : ∃ (a0 : Int) (a1_0 : Int) (a1_1 : Int), args = [.int .u8 a0, .agg [.int .u64 a1_0, .int .u64 a1_1]] ∧ H = []
  · obtain ⟨a0, a1_0, a1_1, rfl, rfl⟩ := hx
    right; intro K
    exact iff_of_eq (X_kind_fields.eq a0 a1_0 a1_1 K).symm
  · left; intro K h
    simp only [e_kind_fields] at h
    split at h
    · exact hx ⟨_, _, _, rfl, rfl⟩
    · exact h
noncomputable def e_shape_Emax : Entry := ⟨[none], false, fun args H K => match args, H with
  | [.int .u8 a0], [] => shape_Emax a0 (fun y0 => K (EV.int IntKind.i64 y0) [])
  | _, _ => False⟩
noncomputable def E_shape_Emax : Env := ⟨look tys, look [(88, e_shape_numbers)], look [], gl, lookL [], false⟩
theorem X_shape_Emax.eq (a0 : Int) (K : EV → Heap → Prop) : evFn E_shape_Emax Tryd.f106 false [.int .u8 a0] [] K = shape_Emax a0 (fun y0 => K (EV.int IntKind.i64 y0) []) := by
  have h : evFnQ E_shape_Emax Tryd.f106 false [.int .u8 a0] [] K = shape_Emax.d a0 (fun y0 => K (EV.int IntKind.i64 y0) []) := by kernel_rfl
  rw [shape_Emax.is]; exact (evFnQ_eq _ _ _ _ _ _).symm.trans h
theorem X_shape_Emax.ok : SoundE Tryd.prog gl 106 e_shape_Emax := by
  refine fnOK (E := E_shape_Emax) (fn := Tryd.f106) rfl tys_ok rfl (show AllL _ [(88, e_shape_numbers)] from ⟨X_shape_numbers.ok, trivial⟩) mixed (by kernel_rfl) (by kernel_rfl) (by kernel_rfl) 0 (by kernel_rfl) false trivial ?_
  intro args H
  by_cases hx : ∃ (a0 : Int), args = [.int .u8 a0] ∧ H = []
  · obtain ⟨a0, rfl, rfl⟩ := hx
    right; intro K
    exact iff_of_eq (X_shape_Emax.eq a0 K).symm
  · left; intro K h
    simp only [e_shape_Emax] at h
    split at h
    · exact hx ⟨_, rfl, rfl⟩
    · exact h
noncomputable def e_kind_class : Entry := ⟨[none, none], false, fun args H K => match args, H with
  | [.int .u8 a0, .agg [.int .u64 a1_0, .int .u64 a1_1]], [] => kind_class a0 a1_0 a1_1 (fun y0 => K (EV.int IntKind.u8 y0) [])
  | _, _ => False⟩
noncomputable def E_kind_class : Env := ⟨look tys, look [(105, e_kind_fields), (106, e_shape_Emax), (107, e_wide_Bit), (108, e_shape_Precision)], look [], gl, lookL [], false⟩
theorem X_kind_class.eq (a0 : Int) (a1_0 : Int) (a1_1 : Int) (K : EV → Heap → Prop) : evFn E_kind_class Tryd.f75 false [.int .u8 a0, .agg [.int .u64 a1_0, .int .u64 a1_1]] [] K = kind_class a0 a1_0 a1_1 (fun y0 => K (EV.int IntKind.u8 y0) []) := by
  have h : evFnQ E_kind_class Tryd.f75 false [.int .u8 a0, .agg [.int .u64 a1_0, .int .u64 a1_1]] [] K = kind_class.d a0 a1_0 a1_1 (fun y0 => K (EV.int IntKind.u8 y0) []) := by kernel_rfl
  rw [kind_class.is]; exact (evFnQ_eq _ _ _ _ _ _).symm.trans h
theorem X_kind_class.ok : SoundE Tryd.prog gl 75 e_kind_class := by
  refine fnOK (E := E_kind_class) (fn := Tryd.f75) rfl tys_ok rfl (show AllL _ [(105, e_kind_fields), (106, e_shape_Emax), (107, e_wide_Bit), (108, e_shape_Precision)] from ⟨X_kind_fields.ok, X_shape_Emax.ok, X_wide_Bit.ok, X_shape_Precision.ok, trivial⟩) mixed (by kernel_rfl) (by kernel_rfl) (by kernel_rfl) 0 (by kernel_rfl) false trivial ?_
  intro args H
  by_cases hx : ∃ (a0 : Int) (a1_0 : Int) (a1_1 : Int), args = [.int .u8 a0, .agg [.int .u64 a1_0, .int .u64 a1_1]] ∧ H = []
  · obtain ⟨a0, a1_0, a1_1, rfl, rfl⟩ := hx
    right; intro K
    exact iff_of_eq (X_kind_class.eq a0 a1_0 a1_1 K).symm
  · left; intro K h
    simp only [e_kind_class] at h
    split at h
    · exact hx ⟨_, _, _, rfl, rfl⟩
    · exact h
noncomputable def e_kind_Class : Entry := ⟨[none, none], false, fun args H K => match args, H with
  | [.int .u8 a0, .agg [.int .u64 a1_0, .int .u64 a1_1]], [] => kind_Class a0 a1_0 a1_1 (fun y0 y1 => K (EV.tuple [EV.int IntKind.u8 y0, EV.int IntKind.i64 y1]) [])
  | _, _ => False⟩
noncomputable def E_kind_Class : Env := ⟨look tys, look [(53, e_shape_Fits), (75, e_kind_class)], look [], gl, lookL [], false⟩
theorem X_kind_Class.eq (a0 : Int) (a1_0 : Int) (a1_1 : Int) (K : EV → Heap → Prop) : evFn E_kind_Class Tryd.f38 false [.int .u8 a0, .agg [.int .u64 a1_0, .int .u64 a1_1]] [] K = kind_Class a0 a1_0 a1_1 (fun y0 y1 => K (EV.tuple [EV.int IntKind.u8 y0, EV.int IntKind.i64 y1]) []) := by
  have h : evFnQ E_kind_Class Tryd.f38 false [.int .u8 a0, .agg [.int .u64 a1_0, .int .u64 a1_1]] [] K = kind_Class.d a0 a1_0 a1_1 (fun y0 y1 => K (EV.tuple [EV.int IntKind.u8 y0, EV.int IntKind.i64 y1]) []) := by kernel_rfl
  rw [kind_Class.is]; exact (evFnQ_eq _ _ _ _ _ _).symm.trans h
theorem X_kind_Class.ok : SoundE Tryd.prog gl 38 e_kind_Class := by
  refine fnOK (E := E_kind_Class) (fn := Tryd.f38) rfl tys_ok rfl (show AllL _ [(53, e_shape_Fits), (75, e_kind_class)] from ⟨X_shape_Fits.ok, X_kind_class.ok, trivial⟩) mixed (by kernel_rfl) (by kernel_rfl) (by kernel_rfl) 0 (by kernel_rfl) false trivial ?_
  intro args H
  by_cases hx : ∃ (a0 : Int) (a1_0 : Int) (a1_1 : Int), args = [.int .u8 a0, .agg [.int .u64 a1_0, .int .u64 a1_1]] ∧ H = []
  · obtain ⟨a0, a1_0, a1_1, rfl, rfl⟩ := hx
    right; intro K
    exact iff_of_eq (X_kind_Class.eq a0 a1_0 a1_1 K).symm
  · left; intro K h
    simp only [e_kind_Class] at h
    split at h
    · exact hx ⟨_, _, _, rfl, rfl⟩
    · exact h
noncomputable def e_order_nan : Entry := ⟨[none, none], false, fun args H K => match args, H with
  | [.int .u8 a0, .agg [.int .u64 a1_0, .int .u64 a1_1]], [] => order_nan a0 a1_0 a1_1 (fun y0 => K (EV.bool y0) [])
  | _, _ => False⟩
noncomputable def E_order_nan : Env := ⟨look tys, look [(38, e_kind_Class)], look [], gl, lookL [], false⟩
theorem X_order_nan.eq (a0 : Int) (a1_0 : Int) (a1_1 : Int) (K : EV → Heap → Prop) : evFn E_order_nan Tryd.f66 false [.int .u8 a0, .agg [.int .u64 a1_0, .int .u64 a1_1]] [] K = order_nan a0 a1_0 a1_1 (fun y0 => K (EV.bool y0) []) := by
  have h : evFnQ E_order_nan Tryd.f66 false [.int .u8 a0, .agg [.int .u64 a1_0, .int .u64 a1_1]] [] K = order_nan.d a0 a1_0 a1_1 (fun y0 => K (EV.bool y0) []) := by kernel_rfl
  rw [order_nan.is]; exact (evFnQ_eq _ _ _ _ _ _).symm.trans h
theorem X_order_nan.ok : SoundE Tryd.prog gl 66 e_order_nan := by
  refine fnOK (E := E_order_nan) (fn := Tryd.f66) rfl tys_ok rfl (show AllL _ [(38, e_kind_Class)] from ⟨X_kind_Class.ok, trivial⟩) mixed (by kernel_rfl) (by kernel_rfl) (by kernel_rfl) 0 (by kernel_rfl) false trivial ?_
  intro args H
  by_cases hx : ∃ (a0 : Int) (a1_0 : Int) (a1_1 : Int), args = [.int .u8 a0, .agg [.int .u64 a1_0, .int .u64 a1_1]] ∧ H = []
  · obtain ⟨a0, a1_0, a1_1, rfl, rfl⟩ := hx
    right; intro K
    exact iff_of_eq (X_order_nan.eq a0 a1_0 a1_1 K).symm
  · left; intro K h
    simp only [e_order_nan] at h
    split at h
    · exact hx ⟨_, _, _, rfl, rfl⟩
    · exact h
noncomputable def e_order_Compare : Entry := ⟨[none, none, none], false, fun args H K => match args, H with
  | [.int .u8 a0, .agg [.int .u64 a1_0, .int .u64 a1_1], .agg [.int .u64 a2_0, .int .u64 a2_1]], [] => order_Compare a0 a1_0 a1_1 a2_0 a2_1 (fun y0 y1 => K (EV.tuple [EV.int IntKind.u8 y0, EV.int IntKind.i64 y1]) [])
  | _, _ => False⟩
noncomputable def E_order_Compare : Env := ⟨look tys, look [(63, e_shape_Zero), (64, e_order_fits), (65, e_order_total), (66, e_order_nan)], look [], gl, lookL [], false⟩
theorem X_order_Compare.eq (a0 : Int) (a1_0 : Int) (a1_1 : Int) (a2_0 : Int) (a2_1 : Int) (K : EV → Heap → Prop) : evFn E_order_Compare Tryd.f27 false [.int .u8 a0, .agg [.int .u64 a1_0, .int .u64 a1_1], .agg [.int .u64 a2_0, .int .u64 a2_1]] [] K = order_Compare a0 a1_0 a1_1 a2_0 a2_1 (fun y0 y1 => K (EV.tuple [EV.int IntKind.u8 y0, EV.int IntKind.i64 y1]) []) := by
  have h : evFnQ E_order_Compare Tryd.f27 false [.int .u8 a0, .agg [.int .u64 a1_0, .int .u64 a1_1], .agg [.int .u64 a2_0, .int .u64 a2_1]] [] K = order_Compare.d a0 a1_0 a1_1 a2_0 a2_1 (fun y0 y1 => K (EV.tuple [EV.int IntKind.u8 y0, EV.int IntKind.i64 y1]) []) := by kernel_rfl
  rw [order_Compare.is]; exact (evFnQ_eq _ _ _ _ _ _).symm.trans h
theorem X_order_Compare.ok : SoundE Tryd.prog gl 27 e_order_Compare := by
  refine fnOK (E := E_order_Compare) (fn := Tryd.f27) rfl tys_ok rfl (show AllL _ [(63, e_shape_Zero), (64, e_order_fits), (65, e_order_total), (66, e_order_nan)] from ⟨X_shape_Zero.ok, X_order_fits.ok, X_order_total.ok, X_order_nan.ok, trivial⟩) mixed (by kernel_rfl) (by kernel_rfl) (by kernel_rfl) 0 (by kernel_rfl) false trivial ?_
  intro args H
  by_cases hx : ∃ (a0 : Int) (a1_0 : Int) (a1_1 : Int) (a2_0 : Int) (a2_1 : Int), args = [.int .u8 a0, .agg [.int .u64 a1_0, .int .u64 a1_1], .agg [.int .u64 a2_0, .int .u64 a2_1]] ∧ H = []
  · obtain ⟨a0, a1_0, a1_1, a2_0, a2_1, rfl, rfl⟩ := hx
    right; intro K
    exact iff_of_eq (X_order_Compare.eq a0 a1_0 a1_1 a2_0 a2_1 K).symm
  · left; intro K h
    simp only [e_order_Compare] at h
    split at h
    · exact hx ⟨_, _, _, _, _, rfl, rfl⟩
    · exact h
noncomputable def e_order_loud : Entry := ⟨[none, none, none], true, fun args H K => match args, H with
  | [.int .u8 a0, .bool a1, .slice 0 0 2 (some 2) 2], [some (.agg [.agg [.int .u64 a2_0_0, .int .u64 a2_0_1], .agg [.int .u64 a2_1_0, .int .u64 a2_1_1]])] => order_loud a0 a1 a2_0_0 a2_0_1 a2_1_0 a2_1_1 (fun y0 y1 y2 y3 y4 => K (EV.int IntKind.u8 y0) [some (EV.agg [EV.agg [EV.int IntKind.u64 y1, EV.int IntKind.u64 y2], EV.agg [EV.int IntKind.u64 y3, EV.int IntKind.u64 y4]])])
  | _, _ => False⟩
noncomputable def E_order_loud : Env := ⟨look tys, look [(38, e_kind_Class)], look [(2, order_loud.l2.entry)], gl, lookL [], false⟩
theorem order_loud.l2X.stepEq (R : List EV → Heap → Prop) (K : Ex → List EV → Heap → Prop) (x0 : Int) (x1 : Bool) (x2 : Int) (x3 : Int) (x4 : Int) (x5 : Int) (x6 : Int) (x7 : Int) : loopStep (evCode E_order_loud (loopAt Tryd.f67 0) { (LV.mk 0 [(0, 0)] 64 1 false) with nx := live (.loop (loopAt Tryd.f67 0)) (LV.mk 0 [(0, 0)] 64 1 false) }) (live (.loop (loopAt Tryd.f67 0)) (LV.mk 0 [(0, 0)] 64 1 false)) (LV.mk 0 [(0, 0)] 64 1 false) 1 33 R [EV.int IntKind.u8 x0, EV.bool x1, EV.slice 0 0 2 (some 2) 2, EV.int IntKind.i64 x2, EV.int IntKind.i64 x3] [some (EV.agg [EV.agg [EV.int IntKind.u64 x4, EV.int IntKind.u64 x5], EV.agg [EV.int IntKind.u64 x6, EV.int IntKind.u64 x7]])] K = order_loud.l2.step (fun x0 x1 x2 x3 x4 x5 x6 x7 => R [EV.int IntKind.u8 x0, EV.bool x1, EV.slice 0 0 2 (some 2) 2, EV.int IntKind.i64 x2, EV.int IntKind.i64 x3] [some (EV.agg [EV.agg [EV.int IntKind.u64 x4, EV.int IntKind.u64 x5], EV.agg [EV.int IntKind.u64 x6, EV.int IntKind.u64 x7]])]) (fun y0 y1 y2 y3 y4 => K .ret [EV.int IntKind.u8 y0] [some (EV.agg [EV.agg [EV.int IntKind.u64 y1, EV.int IntKind.u64 y2], EV.agg [EV.int IntKind.u64 y3, EV.int IntKind.u64 y4]])]) (fun y0 y1 y2 y3 => K (.exit 0) [] [some (EV.agg [EV.agg [EV.int IntKind.u64 y0, EV.int IntKind.u64 y1], EV.agg [EV.int IntKind.u64 y2, EV.int IntKind.u64 y3]])]) x0 x1 x2 x3 x4 x5 x6 x7 := (stepQ_eq _ _ _ _ _ _ _ _ _ _ _).symm.trans (by kernel_rfl)
theorem order_loud.l2X.eq (K : Ex → List EV → Heap → Prop) : ∀ (n : Nat) (x0 : Int) (x1 : Bool) (x2 : Int) (x3 : Int) (x4 : Int) (x5 : Int) (x6 : Int) (x7 : Int), loopE E_order_loud (loopAt Tryd.f67 0) (LV.mk 0 [(0, 0)] 64 1 false) 1 33 K n [EV.int IntKind.u8 x0, EV.bool x1, EV.slice 0 0 2 (some 2) 2, EV.int IntKind.i64 x2, EV.int IntKind.i64 x3] [some (EV.agg [EV.agg [EV.int IntKind.u64 x4, EV.int IntKind.u64 x5], EV.agg [EV.int IntKind.u64 x6, EV.int IntKind.u64 x7]])] = order_loud.l2 (fun y0 y1 y2 y3 y4 => K .ret [EV.int IntKind.u8 y0] [some (EV.agg [EV.agg [EV.int IntKind.u64 y1, EV.int IntKind.u64 y2], EV.agg [EV.int IntKind.u64 y3, EV.int IntKind.u64 y4]])]) (fun y0 y1 y2 y3 => K (.exit 0) [] [some (EV.agg [EV.agg [EV.int IntKind.u64 y0, EV.int IntKind.u64 y1], EV.agg [EV.int IntKind.u64 y2, EV.int IntKind.u64 y3]])]) n x0 x1 x2 x3 x4 x5 x6 x7
  | 0, _, _, _, _, _, _, _, _ => rfl
  | n + 1, x0, x1, x2, x3, x4, x5, x6, x7 => by
    have ih : (fun (x0 : Int) (x1 : Bool) (x2 : Int) (x3 : Int) (x4 : Int) (x5 : Int) (x6 : Int) (x7 : Int) => loopE E_order_loud (loopAt Tryd.f67 0) (LV.mk 0 [(0, 0)] 64 1 false) 1 33 K n [EV.int IntKind.u8 x0, EV.bool x1, EV.slice 0 0 2 (some 2) 2, EV.int IntKind.i64 x2, EV.int IntKind.i64 x3] [some (EV.agg [EV.agg [EV.int IntKind.u64 x4, EV.int IntKind.u64 x5], EV.agg [EV.int IntKind.u64 x6, EV.int IntKind.u64 x7]])]) = order_loud.l2 (fun y0 y1 y2 y3 y4 => K .ret [EV.int IntKind.u8 y0] [some (EV.agg [EV.agg [EV.int IntKind.u64 y1, EV.int IntKind.u64 y2], EV.agg [EV.int IntKind.u64 y3, EV.int IntKind.u64 y4]])]) (fun y0 y1 y2 y3 => K (.exit 0) [] [some (EV.agg [EV.agg [EV.int IntKind.u64 y0, EV.int IntKind.u64 y1], EV.agg [EV.int IntKind.u64 y2, EV.int IntKind.u64 y3]])]) n := by funext x0 x1 x2 x3 x4 x5 x6 x7; exact order_loud.l2X.eq K n x0 x1 x2 x3 x4 x5 x6 x7
    show loopStep _ _ _ _ _ (loopE E_order_loud (loopAt Tryd.f67 0) (LV.mk 0 [(0, 0)] 64 1 false) 1 33 K n) [EV.int IntKind.u8 x0, EV.bool x1, EV.slice 0 0 2 (some 2) 2, EV.int IntKind.i64 x2, EV.int IntKind.i64 x3] [some (EV.agg [EV.agg [EV.int IntKind.u64 x4, EV.int IntKind.u64 x5], EV.agg [EV.int IntKind.u64 x6, EV.int IntKind.u64 x7]])] K = order_loud.l2.step (order_loud.l2 (fun y0 y1 y2 y3 y4 => K .ret [EV.int IntKind.u8 y0] [some (EV.agg [EV.agg [EV.int IntKind.u64 y1, EV.int IntKind.u64 y2], EV.agg [EV.int IntKind.u64 y3, EV.int IntKind.u64 y4]])]) (fun y0 y1 y2 y3 => K (.exit 0) [] [some (EV.agg [EV.agg [EV.int IntKind.u64 y0, EV.int IntKind.u64 y1], EV.agg [EV.int IntKind.u64 y2, EV.int IntKind.u64 y3]])]) n) (fun y0 y1 y2 y3 y4 => K .ret [EV.int IntKind.u8 y0] [some (EV.agg [EV.agg [EV.int IntKind.u64 y1, EV.int IntKind.u64 y2], EV.agg [EV.int IntKind.u64 y3, EV.int IntKind.u64 y4]])]) (fun y0 y1 y2 y3 => K (.exit 0) [] [some (EV.agg [EV.agg [EV.int IntKind.u64 y0, EV.int IntKind.u64 y1], EV.agg [EV.int IntKind.u64 y2, EV.int IntKind.u64 y3]])]) x0 x1 x2 x3 x4 x5 x6 x7
    rw [← ih]
    exact order_loud.l2X.stepEq _ K x0 x1 x2 x3 x4 x5 x6 x7
theorem order_loud.l2X.ok : LoopEq E_order_loud (loopAt Tryd.f67 0) := by
  intro L hL vs H
  have h1 : E_order_loud.lp (firstRegion (loopAt Tryd.f67 0)) = some order_loud.l2.entry := by kernel_rfl
  have h2 : L = order_loud.l2.entry := Option.some.inj (hL.symm.trans h1)
  subst h2
  by_cases hx : ∃ (x0 : Int) (x1 : Bool) (x2 : Int) (x3 : Int) (x4 : Int) (x5 : Int) (x6 : Int) (x7 : Int), vs = [EV.int IntKind.u8 x0, EV.bool x1, EV.slice 0 0 2 (some 2) 2, EV.int IntKind.i64 x2, EV.int IntKind.i64 x3] ∧ H = [some (EV.agg [EV.agg [EV.int IntKind.u64 x4, EV.int IntKind.u64 x5], EV.agg [EV.int IntKind.u64 x6, EV.int IntKind.u64 x7]])]
  · obtain ⟨x0, x1, x2, x3, x4, x5, x6, x7, rfl, rfl⟩ := hx
    right; intro K
    exact exists_congr fun n => iff_of_eq (order_loud.l2X.eq K n x0 x1 x2 x3 x4 x5 x6 x7).symm
  · left; intro K h
    simp only [order_loud.l2.entry] at h
    split at h
    · exact hx ⟨_, _, _, _, _, _, _, _, rfl, rfl⟩
    · exact h
theorem X_order_loud.eq (a0 : Int) (a1 : Bool) (a2_0_0 : Int) (a2_0_1 : Int) (a2_1_0 : Int) (a2_1_1 : Int) (K : EV → Heap → Prop) : evFn E_order_loud Tryd.f67 false [.int .u8 a0, .bool a1, .slice 0 0 2 (some 2) 2] [some (.agg [.agg [.int .u64 a2_0_0, .int .u64 a2_0_1], .agg [.int .u64 a2_1_0, .int .u64 a2_1_1]])] K = order_loud a0 a1 a2_0_0 a2_0_1 a2_1_0 a2_1_1 (fun y0 y1 y2 y3 y4 => K (EV.int IntKind.u8 y0) [some (EV.agg [EV.agg [EV.int IntKind.u64 y1, EV.int IntKind.u64 y2], EV.agg [EV.int IntKind.u64 y3, EV.int IntKind.u64 y4]])]) := by
  have h : evFnQ E_order_loud Tryd.f67 false [.int .u8 a0, .bool a1, .slice 0 0 2 (some 2) 2] [some (.agg [.agg [.int .u64 a2_0_0, .int .u64 a2_0_1], .agg [.int .u64 a2_1_0, .int .u64 a2_1_1]])] K = order_loud.d a0 a1 a2_0_0 a2_0_1 a2_1_0 a2_1_1 (fun y0 y1 y2 y3 y4 => K (EV.int IntKind.u8 y0) [some (EV.agg [EV.agg [EV.int IntKind.u64 y1, EV.int IntKind.u64 y2], EV.agg [EV.int IntKind.u64 y3, EV.int IntKind.u64 y4]])]) := by kernel_rfl
  rw [order_loud.is]; exact (evFnQ_eq _ _ _ _ _ _).symm.trans h
theorem X_order_loud.ok : SoundE Tryd.prog gl 67 e_order_loud := by
  refine fnOK (E := E_order_loud) (fn := Tryd.f67) rfl tys_ok rfl (show AllL _ [(38, e_kind_Class)] from ⟨X_kind_Class.ok, trivial⟩) mixed (by kernel_rfl) (by kernel_rfl) (by kernel_rfl) 1 (by kernel_rfl) false ⟨order_loud.l2X.ok, trivial⟩ ?_
  intro args H
  by_cases hx : ∃ (a0 : Int) (a1 : Bool) (a2_0_0 : Int) (a2_0_1 : Int) (a2_1_0 : Int) (a2_1_1 : Int), args = [.int .u8 a0, .bool a1, .slice 0 0 2 (some 2) 2] ∧ H = [some (.agg [.agg [.int .u64 a2_0_0, .int .u64 a2_0_1], .agg [.int .u64 a2_1_0, .int .u64 a2_1_1]])]
  · obtain ⟨a0, a1, a2_0_0, a2_0_1, a2_1_0, a2_1_1, rfl, rfl⟩ := hx
    right; intro K
    exact iff_of_eq (X_order_loud.eq a0 a1 a2_0_0 a2_0_1 a2_1_0 a2_1_1 K).symm
  · left; intro K h
    simp only [e_order_loud] at h
    split at h
    · exact hx ⟨_, _, _, _, _, _, rfl, rfl⟩
    · exact h
noncomputable def e_order_Lt : Entry := ⟨[none, none, none], false, fun args H K => match args, H with
  | [.int .u8 a0, .agg [.int .u64 a1_0, .int .u64 a1_1], .agg [.int .u64 a2_0, .int .u64 a2_1]], [] => order_Lt a0 a1_0 a1_1 a2_0 a2_1 (fun y0 y1 y2 => K (EV.tuple [EV.bool y0, EV.int IntKind.u8 y1, EV.int IntKind.i64 y2]) [])
  | _, _ => False⟩
noncomputable def E_order_Lt : Env := ⟨look tys, look [(27, e_order_Compare), (67, e_order_loud)], look [], gl, lookL [], false⟩
theorem X_order_Lt.eq (a0 : Int) (a1_0 : Int) (a1_1 : Int) (a2_0 : Int) (a2_1 : Int) (K : EV → Heap → Prop) : evFn E_order_Lt Tryd.f29 false [.int .u8 a0, .agg [.int .u64 a1_0, .int .u64 a1_1], .agg [.int .u64 a2_0, .int .u64 a2_1]] [] K = order_Lt a0 a1_0 a1_1 a2_0 a2_1 (fun y0 y1 y2 => K (EV.tuple [EV.bool y0, EV.int IntKind.u8 y1, EV.int IntKind.i64 y2]) []) := by
  have h : evFnQ E_order_Lt Tryd.f29 false [.int .u8 a0, .agg [.int .u64 a1_0, .int .u64 a1_1], .agg [.int .u64 a2_0, .int .u64 a2_1]] [] K = order_Lt.d a0 a1_0 a1_1 a2_0 a2_1 (fun y0 y1 y2 => K (EV.tuple [EV.bool y0, EV.int IntKind.u8 y1, EV.int IntKind.i64 y2]) []) := by kernel_rfl
  rw [order_Lt.is]; exact (evFnQ_eq _ _ _ _ _ _).symm.trans h
theorem X_order_Lt.ok : SoundE Tryd.prog gl 29 e_order_Lt := by
  refine fnOK (E := E_order_Lt) (fn := Tryd.f29) rfl tys_ok rfl (show AllL _ [(27, e_order_Compare), (67, e_order_loud)] from ⟨X_order_Compare.ok, X_order_loud.ok, trivial⟩) mixed (by kernel_rfl) (by kernel_rfl) (by kernel_rfl) 0 (by kernel_rfl) false trivial ?_
  intro args H
  by_cases hx : ∃ (a0 : Int) (a1_0 : Int) (a1_1 : Int) (a2_0 : Int) (a2_1 : Int), args = [.int .u8 a0, .agg [.int .u64 a1_0, .int .u64 a1_1], .agg [.int .u64 a2_0, .int .u64 a2_1]] ∧ H = []
  · obtain ⟨a0, a1_0, a1_1, a2_0, a2_1, rfl, rfl⟩ := hx
    right; intro K
    exact iff_of_eq (X_order_Lt.eq a0 a1_0 a1_1 a2_0 a2_1 K).symm
  · left; intro K h
    simp only [e_order_Lt] at h
    split at h
    · exact hx ⟨_, _, _, _, _, rfl, rfl⟩
    · exact h
noncomputable def e_law16_alive : Entry := ⟨[], false, fun args H K => match args, H with
  | [], [] => law16_alive  (fun y0 => K (EV.bool y0) [])
  | _, _ => False⟩
noncomputable def E_law16_alive : Env := ⟨look tys, look [(27, e_order_Compare), (29, e_order_Lt)], look [], gl, lookL [], false⟩
theorem X_law16_alive.eq (K : EV → Heap → Prop) : evFn E_law16_alive Tryd.f26 false [] [] K = law16_alive  (fun y0 => K (EV.bool y0) []) := by
  have h : evFnQ E_law16_alive Tryd.f26 false [] [] K = law16_alive.d  (fun y0 => K (EV.bool y0) []) := by kernel_rfl
  rw [law16_alive.is]; exact (evFnQ_eq _ _ _ _ _ _).symm.trans h
theorem X_law16_alive.ok : SoundE Tryd.prog gl 26 e_law16_alive := by
  refine fnOK (E := E_law16_alive) (fn := Tryd.f26) rfl tys_ok rfl (show AllL _ [(27, e_order_Compare), (29, e_order_Lt)] from ⟨X_order_Compare.ok, X_order_Lt.ok, trivial⟩) mixed (by kernel_rfl) (by kernel_rfl) (by kernel_rfl) 0 (by kernel_rfl) false trivial ?_
  intro args H
  by_cases hx : args = [] ∧ H = []
  · obtain ⟨rfl, rfl⟩ := hx
    right; intro K
    exact iff_of_eq (X_law16_alive.eq  K).symm
  · left; intro K h
    simp only [e_law16_alive] at h
    split at h
    · exact hx ⟨rfl, rfl⟩
    · exact h
noncomputable def e_order_Eq : Entry := ⟨[none, none, none], false, fun args H K => match args, H with
  | [.int .u8 a0, .agg [.int .u64 a1_0, .int .u64 a1_1], .agg [.int .u64 a2_0, .int .u64 a2_1]], [] => order_Eq a0 a1_0 a1_1 a2_0 a2_1 (fun y0 y1 y2 => K (EV.tuple [EV.bool y0, EV.int IntKind.u8 y1, EV.int IntKind.i64 y2]) [])
  | _, _ => False⟩
noncomputable def E_order_Eq : Env := ⟨look tys, look [(27, e_order_Compare), (67, e_order_loud)], look [], gl, lookL [], false⟩
theorem X_order_Eq.eq (a0 : Int) (a1_0 : Int) (a1_1 : Int) (a2_0 : Int) (a2_1 : Int) (K : EV → Heap → Prop) : evFn E_order_Eq Tryd.f28 false [.int .u8 a0, .agg [.int .u64 a1_0, .int .u64 a1_1], .agg [.int .u64 a2_0, .int .u64 a2_1]] [] K = order_Eq a0 a1_0 a1_1 a2_0 a2_1 (fun y0 y1 y2 => K (EV.tuple [EV.bool y0, EV.int IntKind.u8 y1, EV.int IntKind.i64 y2]) []) := by
  have h : evFnQ E_order_Eq Tryd.f28 false [.int .u8 a0, .agg [.int .u64 a1_0, .int .u64 a1_1], .agg [.int .u64 a2_0, .int .u64 a2_1]] [] K = order_Eq.d a0 a1_0 a1_1 a2_0 a2_1 (fun y0 y1 y2 => K (EV.tuple [EV.bool y0, EV.int IntKind.u8 y1, EV.int IntKind.i64 y2]) []) := by kernel_rfl
  rw [order_Eq.is]; exact (evFnQ_eq _ _ _ _ _ _).symm.trans h
theorem X_order_Eq.ok : SoundE Tryd.prog gl 28 e_order_Eq := by
  refine fnOK (E := E_order_Eq) (fn := Tryd.f28) rfl tys_ok rfl (show AllL _ [(27, e_order_Compare), (67, e_order_loud)] from ⟨X_order_Compare.ok, X_order_loud.ok, trivial⟩) mixed (by kernel_rfl) (by kernel_rfl) (by kernel_rfl) 0 (by kernel_rfl) false trivial ?_
  intro args H
  by_cases hx : ∃ (a0 : Int) (a1_0 : Int) (a1_1 : Int) (a2_0 : Int) (a2_1 : Int), args = [.int .u8 a0, .agg [.int .u64 a1_0, .int .u64 a1_1], .agg [.int .u64 a2_0, .int .u64 a2_1]] ∧ H = []
  · obtain ⟨a0, a1_0, a1_1, a2_0, a2_1, rfl, rfl⟩ := hx
    right; intro K
    exact iff_of_eq (X_order_Eq.eq a0 a1_0 a1_1 a2_0 a2_1 K).symm
  · left; intro K h
    simp only [e_order_Eq] at h
    split at h
    · exact hx ⟨_, _, _, _, _, rfl, rfl⟩
    · exact h
noncomputable def e_order_Le : Entry := ⟨[none, none, none], false, fun args H K => match args, H with
  | [.int .u8 a0, .agg [.int .u64 a1_0, .int .u64 a1_1], .agg [.int .u64 a2_0, .int .u64 a2_1]], [] => order_Le a0 a1_0 a1_1 a2_0 a2_1 (fun y0 y1 y2 => K (EV.tuple [EV.bool y0, EV.int IntKind.u8 y1, EV.int IntKind.i64 y2]) [])
  | _, _ => False⟩
noncomputable def E_order_Le : Env := ⟨look tys, look [(27, e_order_Compare), (67, e_order_loud)], look [], gl, lookL [], false⟩
theorem X_order_Le.eq (a0 : Int) (a1_0 : Int) (a1_1 : Int) (a2_0 : Int) (a2_1 : Int) (K : EV → Heap → Prop) : evFn E_order_Le Tryd.f30 false [.int .u8 a0, .agg [.int .u64 a1_0, .int .u64 a1_1], .agg [.int .u64 a2_0, .int .u64 a2_1]] [] K = order_Le a0 a1_0 a1_1 a2_0 a2_1 (fun y0 y1 y2 => K (EV.tuple [EV.bool y0, EV.int IntKind.u8 y1, EV.int IntKind.i64 y2]) []) := by
  have h : evFnQ E_order_Le Tryd.f30 false [.int .u8 a0, .agg [.int .u64 a1_0, .int .u64 a1_1], .agg [.int .u64 a2_0, .int .u64 a2_1]] [] K = order_Le.d a0 a1_0 a1_1 a2_0 a2_1 (fun y0 y1 y2 => K (EV.tuple [EV.bool y0, EV.int IntKind.u8 y1, EV.int IntKind.i64 y2]) []) := by kernel_rfl
  rw [order_Le.is]; exact (evFnQ_eq _ _ _ _ _ _).symm.trans h
theorem X_order_Le.ok : SoundE Tryd.prog gl 30 e_order_Le := by
  refine fnOK (E := E_order_Le) (fn := Tryd.f30) rfl tys_ok rfl (show AllL _ [(27, e_order_Compare), (67, e_order_loud)] from ⟨X_order_Compare.ok, X_order_loud.ok, trivial⟩) mixed (by kernel_rfl) (by kernel_rfl) (by kernel_rfl) 0 (by kernel_rfl) false trivial ?_
  intro args H
  by_cases hx : ∃ (a0 : Int) (a1_0 : Int) (a1_1 : Int) (a2_0 : Int) (a2_1 : Int), args = [.int .u8 a0, .agg [.int .u64 a1_0, .int .u64 a1_1], .agg [.int .u64 a2_0, .int .u64 a2_1]] ∧ H = []
  · obtain ⟨a0, a1_0, a1_1, a2_0, a2_1, rfl, rfl⟩ := hx
    right; intro K
    exact iff_of_eq (X_order_Le.eq a0 a1_0 a1_1 a2_0 a2_1 K).symm
  · left; intro K h
    simp only [e_order_Le] at h
    split at h
    · exact hx ⟨_, _, _, _, _, rfl, rfl⟩
    · exact h
noncomputable def e_shape_NaN : Entry := ⟨[none], false, fun args H K => match args, H with
  | [.int .u8 a0], [] => shape_NaN a0 (fun y0 y1 => K (EV.agg [EV.int IntKind.u64 y0, EV.int IntKind.u64 y1]) [])
  | _, _ => False⟩
noncomputable def E_shape_NaN : Env := ⟨look tys, look [(57, e_shape_Check), (106, e_shape_Emax), (108, e_shape_Precision), (115, e_shape_at)], look [], gl, lookL [], false⟩
theorem X_shape_NaN.eq (a0 : Int) (K : EV → Heap → Prop) : evFn E_shape_NaN Tryd.f103 false [.int .u8 a0] [] K = shape_NaN a0 (fun y0 y1 => K (EV.agg [EV.int IntKind.u64 y0, EV.int IntKind.u64 y1]) []) := by
  have h : evFnQ E_shape_NaN Tryd.f103 false [.int .u8 a0] [] K = shape_NaN.d a0 (fun y0 y1 => K (EV.agg [EV.int IntKind.u64 y0, EV.int IntKind.u64 y1]) []) := by kernel_rfl
  rw [shape_NaN.is]; exact (evFnQ_eq _ _ _ _ _ _).symm.trans h
theorem X_shape_NaN.ok : SoundE Tryd.prog gl 103 e_shape_NaN := by
  refine fnOK (E := E_shape_NaN) (fn := Tryd.f103) rfl tys_ok rfl (show AllL _ [(57, e_shape_Check), (106, e_shape_Emax), (108, e_shape_Precision), (115, e_shape_at)] from ⟨X_shape_Check.ok, X_shape_Emax.ok, X_shape_Precision.ok, X_shape_at.ok, trivial⟩) mixed (by kernel_rfl) (by kernel_rfl) (by kernel_rfl) 0 (by kernel_rfl) false trivial ?_
  intro args H
  by_cases hx : ∃ (a0 : Int), args = [.int .u8 a0] ∧ H = []
  · obtain ⟨a0, rfl, rfl⟩ := hx
    right; intro K
    exact iff_of_eq (X_shape_NaN.eq a0 K).symm
  · left; intro K h
    simp only [e_shape_NaN] at h
    split at h
    · exact hx ⟨_, rfl, rfl⟩
    · exact h
noncomputable def e_order_extreme : Entry := ⟨[none, none, none, none], false, fun args H K => match args, H with
  | [.int .u8 a0, .agg [.int .u64 a1_0, .int .u64 a1_1], .agg [.int .u64 a2_0, .int .u64 a2_1], .int .i64 a3], [] => order_extreme a0 a1_0 a1_1 a2_0 a2_1 a3 (fun y0 y1 y2 y3 => K (EV.tuple [EV.agg [EV.int IntKind.u64 y0, EV.int IntKind.u64 y1], EV.int IntKind.u8 y2, EV.int IntKind.i64 y3]) [])
  | _, _ => False⟩
noncomputable def E_order_extreme : Env := ⟨look tys, look [(64, e_order_fits), (65, e_order_total), (66, e_order_nan), (67, e_order_loud), (103, e_shape_NaN)], look [], gl, lookL [], false⟩
theorem X_order_extreme.eq (a0 : Int) (a1_0 : Int) (a1_1 : Int) (a2_0 : Int) (a2_1 : Int) (a3 : Int) (K : EV → Heap → Prop) : evFn E_order_extreme Tryd.f73 false [.int .u8 a0, .agg [.int .u64 a1_0, .int .u64 a1_1], .agg [.int .u64 a2_0, .int .u64 a2_1], .int .i64 a3] [] K = order_extreme a0 a1_0 a1_1 a2_0 a2_1 a3 (fun y0 y1 y2 y3 => K (EV.tuple [EV.agg [EV.int IntKind.u64 y0, EV.int IntKind.u64 y1], EV.int IntKind.u8 y2, EV.int IntKind.i64 y3]) []) := by
  have h : evFnQ E_order_extreme Tryd.f73 false [.int .u8 a0, .agg [.int .u64 a1_0, .int .u64 a1_1], .agg [.int .u64 a2_0, .int .u64 a2_1], .int .i64 a3] [] K = order_extreme.d a0 a1_0 a1_1 a2_0 a2_1 a3 (fun y0 y1 y2 y3 => K (EV.tuple [EV.agg [EV.int IntKind.u64 y0, EV.int IntKind.u64 y1], EV.int IntKind.u8 y2, EV.int IntKind.i64 y3]) []) := by kernel_rfl
  rw [order_extreme.is]; exact (evFnQ_eq _ _ _ _ _ _).symm.trans h
theorem X_order_extreme.ok : SoundE Tryd.prog gl 73 e_order_extreme := by
  refine fnOK (E := E_order_extreme) (fn := Tryd.f73) rfl tys_ok rfl (show AllL _ [(64, e_order_fits), (65, e_order_total), (66, e_order_nan), (67, e_order_loud), (103, e_shape_NaN)] from ⟨X_order_fits.ok, X_order_total.ok, X_order_nan.ok, X_order_loud.ok, X_shape_NaN.ok, trivial⟩) mixed (by kernel_rfl) (by kernel_rfl) (by kernel_rfl) 0 (by kernel_rfl) false trivial ?_
  intro args H
  by_cases hx : ∃ (a0 : Int) (a1_0 : Int) (a1_1 : Int) (a2_0 : Int) (a2_1 : Int) (a3 : Int), args = [.int .u8 a0, .agg [.int .u64 a1_0, .int .u64 a1_1], .agg [.int .u64 a2_0, .int .u64 a2_1], .int .i64 a3] ∧ H = []
  · obtain ⟨a0, a1_0, a1_1, a2_0, a2_1, a3, rfl, rfl⟩ := hx
    right; intro K
    exact iff_of_eq (X_order_extreme.eq a0 a1_0 a1_1 a2_0 a2_1 a3 K).symm
  · left; intro K h
    simp only [e_order_extreme] at h
    split at h
    · exact hx ⟨_, _, _, _, _, _, rfl, rfl⟩
    · exact h
noncomputable def e_order_Min : Entry := ⟨[none, none, none], false, fun args H K => match args, H with
  | [.int .u8 a0, .agg [.int .u64 a1_0, .int .u64 a1_1], .agg [.int .u64 a2_0, .int .u64 a2_1]], [] => order_Min a0 a1_0 a1_1 a2_0 a2_1 (fun y0 y1 y2 y3 => K (EV.tuple [EV.agg [EV.int IntKind.u64 y0, EV.int IntKind.u64 y1], EV.int IntKind.u8 y2, EV.int IntKind.i64 y3]) [])
  | _, _ => False⟩
noncomputable def E_order_Min : Env := ⟨look tys, look [(73, e_order_extreme)], look [], gl, lookL [], false⟩
theorem X_order_Min.eq (a0 : Int) (a1_0 : Int) (a1_1 : Int) (a2_0 : Int) (a2_1 : Int) (K : EV → Heap → Prop) : evFn E_order_Min Tryd.f35 false [.int .u8 a0, .agg [.int .u64 a1_0, .int .u64 a1_1], .agg [.int .u64 a2_0, .int .u64 a2_1]] [] K = order_Min a0 a1_0 a1_1 a2_0 a2_1 (fun y0 y1 y2 y3 => K (EV.tuple [EV.agg [EV.int IntKind.u64 y0, EV.int IntKind.u64 y1], EV.int IntKind.u8 y2, EV.int IntKind.i64 y3]) []) := by
  have h : evFnQ E_order_Min Tryd.f35 false [.int .u8 a0, .agg [.int .u64 a1_0, .int .u64 a1_1], .agg [.int .u64 a2_0, .int .u64 a2_1]] [] K = order_Min.d a0 a1_0 a1_1 a2_0 a2_1 (fun y0 y1 y2 y3 => K (EV.tuple [EV.agg [EV.int IntKind.u64 y0, EV.int IntKind.u64 y1], EV.int IntKind.u8 y2, EV.int IntKind.i64 y3]) []) := by kernel_rfl
  rw [order_Min.is]; exact (evFnQ_eq _ _ _ _ _ _).symm.trans h
theorem X_order_Min.ok : SoundE Tryd.prog gl 35 e_order_Min := by
  refine fnOK (E := E_order_Min) (fn := Tryd.f35) rfl tys_ok rfl (show AllL _ [(73, e_order_extreme)] from ⟨X_order_extreme.ok, trivial⟩) mixed (by kernel_rfl) (by kernel_rfl) (by kernel_rfl) 0 (by kernel_rfl) false trivial ?_
  intro args H
  by_cases hx : ∃ (a0 : Int) (a1_0 : Int) (a1_1 : Int) (a2_0 : Int) (a2_1 : Int), args = [.int .u8 a0, .agg [.int .u64 a1_0, .int .u64 a1_1], .agg [.int .u64 a2_0, .int .u64 a2_1]] ∧ H = []
  · obtain ⟨a0, a1_0, a1_1, a2_0, a2_1, rfl, rfl⟩ := hx
    right; intro K
    exact iff_of_eq (X_order_Min.eq a0 a1_0 a1_1 a2_0 a2_1 K).symm
  · left; intro K h
    simp only [e_order_Min] at h
    split at h
    · exact hx ⟨_, _, _, _, _, rfl, rfl⟩
    · exact h
noncomputable def e_order_Max : Entry := ⟨[none, none, none], false, fun args H K => match args, H with
  | [.int .u8 a0, .agg [.int .u64 a1_0, .int .u64 a1_1], .agg [.int .u64 a2_0, .int .u64 a2_1]], [] => order_Max a0 a1_0 a1_1 a2_0 a2_1 (fun y0 y1 y2 y3 => K (EV.tuple [EV.agg [EV.int IntKind.u64 y0, EV.int IntKind.u64 y1], EV.int IntKind.u8 y2, EV.int IntKind.i64 y3]) [])
  | _, _ => False⟩
noncomputable def E_order_Max : Env := ⟨look tys, look [(73, e_order_extreme)], look [], gl, lookL [], false⟩
theorem X_order_Max.eq (a0 : Int) (a1_0 : Int) (a1_1 : Int) (a2_0 : Int) (a2_1 : Int) (K : EV → Heap → Prop) : evFn E_order_Max Tryd.f36 false [.int .u8 a0, .agg [.int .u64 a1_0, .int .u64 a1_1], .agg [.int .u64 a2_0, .int .u64 a2_1]] [] K = order_Max a0 a1_0 a1_1 a2_0 a2_1 (fun y0 y1 y2 y3 => K (EV.tuple [EV.agg [EV.int IntKind.u64 y0, EV.int IntKind.u64 y1], EV.int IntKind.u8 y2, EV.int IntKind.i64 y3]) []) := by
  have h : evFnQ E_order_Max Tryd.f36 false [.int .u8 a0, .agg [.int .u64 a1_0, .int .u64 a1_1], .agg [.int .u64 a2_0, .int .u64 a2_1]] [] K = order_Max.d a0 a1_0 a1_1 a2_0 a2_1 (fun y0 y1 y2 y3 => K (EV.tuple [EV.agg [EV.int IntKind.u64 y0, EV.int IntKind.u64 y1], EV.int IntKind.u8 y2, EV.int IntKind.i64 y3]) []) := by kernel_rfl
  rw [order_Max.is]; exact (evFnQ_eq _ _ _ _ _ _).symm.trans h
theorem X_order_Max.ok : SoundE Tryd.prog gl 36 e_order_Max := by
  refine fnOK (E := E_order_Max) (fn := Tryd.f36) rfl tys_ok rfl (show AllL _ [(73, e_order_extreme)] from ⟨X_order_extreme.ok, trivial⟩) mixed (by kernel_rfl) (by kernel_rfl) (by kernel_rfl) 0 (by kernel_rfl) false trivial ?_
  intro args H
  by_cases hx : ∃ (a0 : Int) (a1_0 : Int) (a1_1 : Int) (a2_0 : Int) (a2_1 : Int), args = [.int .u8 a0, .agg [.int .u64 a1_0, .int .u64 a1_1], .agg [.int .u64 a2_0, .int .u64 a2_1]] ∧ H = []
  · obtain ⟨a0, a1_0, a1_1, a2_0, a2_1, rfl, rfl⟩ := hx
    right; intro K
    exact iff_of_eq (X_order_Max.eq a0 a1_0 a1_1 a2_0 a2_1 K).symm
  · left; intro K h
    simp only [e_order_Max] at h
    split at h
    · exact hx ⟨_, _, _, _, _, rfl, rfl⟩
    · exact h
noncomputable def e_law16_OrderOne : Entry := ⟨[none, none, none], false, fun args H K => match args, H with
  | [.int .u8 a0, .agg [.int .u64 a1_0, .int .u64 a1_1], .agg [.int .u64 a2_0, .int .u64 a2_1]], [] => law16_OrderOne a0 a1_0 a1_1 a2_0 a2_1 (fun y0 => K (EV.bool y0) [])
  | _, _ => False⟩
noncomputable def E_law16_OrderOne : Env := ⟨look tys, look [(26, e_law16_alive), (28, e_order_Eq), (29, e_order_Lt), (30, e_order_Le), (35, e_order_Min), (36, e_order_Max), (38, e_kind_Class)], look [], gl, lookL [], false⟩
theorem X_law16_OrderOne.eq (a0 : Int) (a1_0 : Int) (a1_1 : Int) (a2_0 : Int) (a2_1 : Int) (K : EV → Heap → Prop) : evFn E_law16_OrderOne Tryd.f9 false [.int .u8 a0, .agg [.int .u64 a1_0, .int .u64 a1_1], .agg [.int .u64 a2_0, .int .u64 a2_1]] [] K = law16_OrderOne a0 a1_0 a1_1 a2_0 a2_1 (fun y0 => K (EV.bool y0) []) := by
  have h : evFnQ E_law16_OrderOne Tryd.f9 false [.int .u8 a0, .agg [.int .u64 a1_0, .int .u64 a1_1], .agg [.int .u64 a2_0, .int .u64 a2_1]] [] K = law16_OrderOne.d a0 a1_0 a1_1 a2_0 a2_1 (fun y0 => K (EV.bool y0) []) := by kernel_rfl
  rw [law16_OrderOne.is]; exact (evFnQ_eq _ _ _ _ _ _).symm.trans h
theorem X_law16_OrderOne.ok : SoundE Tryd.prog gl 9 e_law16_OrderOne := by
  refine fnOK (E := E_law16_OrderOne) (fn := Tryd.f9) rfl tys_ok rfl (show AllL _ [(26, e_law16_alive), (28, e_order_Eq), (29, e_order_Lt), (30, e_order_Le), (35, e_order_Min), (36, e_order_Max), (38, e_kind_Class)] from ⟨X_law16_alive.ok, X_order_Eq.ok, X_order_Lt.ok, X_order_Le.ok, X_order_Min.ok, X_order_Max.ok, X_kind_Class.ok, trivial⟩) mixed (by kernel_rfl) (by kernel_rfl) (by kernel_rfl) 0 (by kernel_rfl) false trivial ?_
  intro args H
  by_cases hx : ∃ (a0 : Int) (a1_0 : Int) (a1_1 : Int) (a2_0 : Int) (a2_1 : Int), args = [.int .u8 a0, .agg [.int .u64 a1_0, .int .u64 a1_1], .agg [.int .u64 a2_0, .int .u64 a2_1]] ∧ H = []
  · obtain ⟨a0, a1_0, a1_1, a2_0, a2_1, rfl, rfl⟩ := hx
    right; intro K
    exact iff_of_eq (X_law16_OrderOne.eq a0 a1_0 a1_1 a2_0 a2_1 K).symm
  · left; intro K h
    simp only [e_law16_OrderOne] at h
    split at h
    · exact hx ⟨_, _, _, _, _, rfl, rfl⟩
    · exact h
end Go.Ev.S
