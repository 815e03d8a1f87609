/- The functions of the seat: that the evaluator has them as they are. -/
import Derived.Test.YtfglhfahphncdaaDoorProg
import Derived.Test.YtfglhfahphncdaaDoorEvC
import Derived.Test.YtfglhfahphncdaaDoorDA
import Derived.KernelRfl
set_option maxRecDepth 100000
set_option linter.unusedVariables false
set_option linter.unusedSimpArgs false
namespace Go.Ev.S
open Go Go.Proofs Go.Ev
def tys : List (Nat × TI) := [
  (1, ⟨.func, 1, 8, .nilFunc⟩),
  (2, ⟨.int .i64, 1, 8, .int .i64 0⟩),
  (3, ⟨.int .i64, 1, 8, .int .i64 0⟩),
  (4, ⟨.bool, 1, 1, .bool false⟩),
  (5, ⟨.int .u8, 1, 1, .int .u8 0⟩),
  (6, ⟨.int .u8, 1, 1, .int .u8 0⟩),
  (7, ⟨.struct [(0, 2), (1, 3), (2, 4), (3, 6)], 4, 24, .agg [.int .i64 0, .int .i64 0, .bool false, .int .u8 0]⟩),
  (8, ⟨.struct [(0, 2), (1, 3), (2, 4), (3, 6)], 4, 24, .agg [.int .i64 0, .int .i64 0, .bool false, .int .u8 0]⟩),
  (9, ⟨.str, 1, 16, .str []⟩),
  (10, ⟨.str, 1, 16, .str []⟩),
  (11, ⟨.str, 1, 16, .str []⟩),
  (12, ⟨.int .u64, 1, 8, .int .u64 0⟩),
  (15, ⟨.ptr, 1, 8, .nilPtr⟩),
  (16, ⟨.ptr, 1, 8, .nilPtr⟩),
  (17, ⟨.ptr, 1, 8, .nilPtr⟩),
  (21, ⟨.int .i32, 1, 4, .int .i32 0⟩),
  (22, ⟨.int .u8, 1, 1, .int .u8 0⟩),
  (23, ⟨.int .u64, 1, 8, .int .u64 0⟩),
  (24, ⟨.struct [(0, 23), (1, 23)], 2, 16, .agg [.int .u64 0, .int .u64 0]⟩),
  (25, ⟨.struct [(0, 23), (1, 23)], 2, 16, .agg [.int .u64 0, .int .u64 0]⟩),
  (26, ⟨.func, 1, 8, .nilFunc⟩),
  (27, ⟨.func, 1, 8, .nilFunc⟩),
  (28, ⟨.int .i64, 1, 8, .int .i64 0⟩),
  (30, ⟨.func, 1, 8, .nilFunc⟩),
  (31, ⟨.func, 1, 8, .nilFunc⟩),
  (33, ⟨.func, 1, 8, .nilFunc⟩),
  (34, ⟨.int .u8, 1, 1, .int .u8 0⟩),
  (35, ⟨.array 6 23, 6, 48, .arr .u64 6 (fun _ => 0)⟩),
  (36, ⟨.array 6 23, 6, 48, .arr .u64 6 (fun _ => 0)⟩),
  (37, ⟨.struct [(0, 34), (1, 36), (7, 3), (8, 36)], 14, 112, .agg [.int .u8 0, .arr .u64 6 (fun _ => 0), .int .i64 0, .arr .u64 6 (fun _ => 0)]⟩),
  (38, ⟨.struct [(0, 34), (1, 36), (7, 3), (8, 36)], 14, 112, .agg [.int .u8 0, .arr .u64 6 (fun _ => 0), .int .i64 0, .arr .u64 6 (fun _ => 0)]⟩),
  (40, ⟨.func, 1, 8, .nilFunc⟩),
  (42, ⟨.func, 1, 8, .nilFunc⟩),
  (43, ⟨.func, 1, 8, .nilFunc⟩),
  (44, ⟨.func, 1, 8, .nilFunc⟩),
  (45, ⟨.func, 1, 8, .nilFunc⟩),
  (46, ⟨.func, 1, 8, .nilFunc⟩),
  (47, ⟨.func, 1, 8, .nilFunc⟩),
  (48, ⟨.func, 1, 8, .nilFunc⟩),
  (49, ⟨.int .u8, 1, 1, .int .u8 0⟩),
  (50, ⟨.int .u8, 1, 1, .int .u8 0⟩),
  (52, ⟨.func, 1, 8, .nilFunc⟩),
  (54, ⟨.func, 1, 8, .nilFunc⟩),
  (55, ⟨.func, 1, 8, .nilFunc⟩),
  (56, ⟨.func, 1, 8, .nilFunc⟩),
  (57, ⟨.struct [(0, 4), (1, 36), (7, 3), (8, 4)], 9, 72, .agg [.bool false, .arr .u64 6 (fun _ => 0), .int .i64 0, .bool false]⟩),
  (58, ⟨.struct [(0, 4), (1, 36), (7, 3), (8, 4)], 9, 72, .agg [.bool false, .arr .u64 6 (fun _ => 0), .int .i64 0, .bool false]⟩),
  (60, ⟨.func, 1, 8, .nilFunc⟩),
  (61, ⟨.func, 1, 8, .nilFunc⟩),
  (62, ⟨.func, 1, 8, .nilFunc⟩),
  (63, ⟨.str, 1, 16, .str []⟩),
  (64, ⟨.struct [(0, 4), (1, 63), (2, 63), (3, 3)], 4, 48, .agg [.bool false, .str [], .str [], .int .i64 0]⟩),
  (65, ⟨.struct [(0, 4), (1, 63), (2, 63), (3, 3)], 4, 48, .agg [.bool false, .str [], .str [], .int .i64 0]⟩),
  (67, ⟨.func, 1, 8, .nilFunc⟩),
  (68, ⟨.func, 1, 8, .nilFunc⟩),
  (70, ⟨.func, 1, 8, .nilFunc⟩),
  (71, ⟨.func, 1, 8, .nilFunc⟩),
  (72, ⟨.func, 1, 8, .nilFunc⟩),
  (74, ⟨.func, 1, 8, .nilFunc⟩),
  (75, ⟨.func, 1, 8, .nilFunc⟩),
  (76, ⟨.func, 1, 8, .nilFunc⟩),
  (77, ⟨.func, 1, 8, .nilFunc⟩),
  (79, ⟨.func, 1, 8, .nilFunc⟩),
  (80, ⟨.func, 1, 8, .nilFunc⟩),
  (81, ⟨.func, 1, 8, .nilFunc⟩),
  (82, ⟨.func, 1, 8, .nilFunc⟩),
  (83, ⟨.func, 1, 8, .nilFunc⟩),
  (84, ⟨.func, 1, 8, .nilFunc⟩),
  (85, ⟨.int .u64, 1, 8, .int .u64 0⟩),
  (86, ⟨.func, 1, 8, .nilFunc⟩),
  (87, ⟨.func, 1, 8, .nilFunc⟩),
  (88, ⟨.func, 1, 8, .nilFunc⟩),
  (89, ⟨.func, 1, 8, .nilFunc⟩),
  (90, ⟨.func, 1, 8, .nilFunc⟩),
  (91, ⟨.func, 1, 8, .nilFunc⟩),
  (92, ⟨.func, 1, 8, .nilFunc⟩),
  (93, ⟨.func, 1, 8, .nilFunc⟩),
  (94, ⟨.func, 1, 8, .nilFunc⟩),
  (96, ⟨.func, 1, 8, .nilFunc⟩),
  (97, ⟨.func, 1, 8, .nilFunc⟩),
  (98, ⟨.func, 1, 8, .nilFunc⟩),
  (99, ⟨.func, 1, 8, .nilFunc⟩),
  (100, ⟨.func, 1, 8, .nilFunc⟩),
  (101, ⟨.func, 1, 8, .nilFunc⟩),
  (102, ⟨.func, 1, 8, .nilFunc⟩),
  (104, ⟨.func, 1, 8, .nilFunc⟩),
  (105, ⟨.func, 1, 8, .nilFunc⟩),
  (106, ⟨.struct [(0, 28)], 1, 8, .agg [.int .i64 0]⟩),
  (107, ⟨.struct [(0, 28)], 1, 8, .agg [.int .i64 0]⟩),
  (108, ⟨.func, 1, 8, .nilFunc⟩),
  (110, ⟨.func, 1, 8, .nilFunc⟩),
  (111, ⟨.func, 1, 8, .nilFunc⟩),
  (112, ⟨.func, 1, 8, .nilFunc⟩),
  (113, ⟨.func, 1, 8, .nilFunc⟩),
  (115, ⟨.func, 1, 8, .nilFunc⟩),
  (116, ⟨.func, 1, 8, .nilFunc⟩),
  (118, ⟨.func, 1, 8, .nilFunc⟩),
  (119, ⟨.func, 1, 8, .nilFunc⟩),
  (120, ⟨.func, 1, 8, .nilFunc⟩),
  (122, ⟨.func, 1, 8, .nilFunc⟩),
  (123, ⟨.func, 1, 8, .nilFunc⟩),
  (124, ⟨.func, 1, 8, .nilFunc⟩),
  (125, ⟨.func, 1, 8, .nilFunc⟩),
  (127, ⟨.func, 1, 8, .nilFunc⟩),
  (128, ⟨.func, 1, 8, .nilFunc⟩),
  (129, ⟨.func, 1, 8, .nilFunc⟩),
  (130, ⟨.func, 1, 8, .nilFunc⟩),
  (131, ⟨.func, 1, 8, .nilFunc⟩),
  (133, ⟨.func, 1, 8, .nilFunc⟩),
  (134, ⟨.slice 135, 1, 24, .nilSlice⟩),
  (135, ⟨.int .u32, 1, 4, .int .u32 0⟩),
  (136, ⟨.func, 1, 8, .nilFunc⟩),
  (137, ⟨.func, 1, 8, .nilFunc⟩),
  (138, ⟨.func, 1, 8, .nilFunc⟩),
  (139, ⟨.func, 1, 8, .nilFunc⟩),
  (140, ⟨.func, 1, 8, .nilFunc⟩),
  (141, ⟨.ptr, 1, 8, .nilPtr⟩),
  (142, ⟨.func, 1, 8, .nilFunc⟩),
  (143, ⟨.func, 1, 8, .nilFunc⟩),
  (144, ⟨.func, 1, 8, .nilFunc⟩),
  (145, ⟨.struct [(0, 3), (1, 3), (2, 3), (3, 9)], 4, 40, .agg [.int .i64 0, .int .i64 0, .int .i64 0, .str []]⟩),
  (146, ⟨.array 4 145, 16, 160, .agg [.agg [.int .i64 0, .int .i64 0, .int .i64 0, .str []], .agg [.int .i64 0, .int .i64 0, .int .i64 0, .str []], .agg [.int .i64 0, .int .i64 0, .int .i64 0, .str []], .agg [.int .i64 0, .int .i64 0, .int .i64 0, .str []]]⟩),
  (147, ⟨.func, 1, 8, .nilFunc⟩),
  (148, ⟨.func, 1, 8, .nilFunc⟩),
  (149, ⟨.func, 1, 8, .nilFunc⟩),
  (151, ⟨.func, 1, 8, .nilFunc⟩),
  (152, ⟨.func, 1, 8, .nilFunc⟩),
  (153, ⟨.slice 5, 1, 24, .nilSlice⟩),
  (154, ⟨.array 64 5, 64, 64, .arr .u8 64 (fun _ => 0)⟩),
  (155, ⟨.func, 1, 8, .nilFunc⟩),
  (158, ⟨.array 0 16, 0, 0, .agg []⟩),
  (161, ⟨.func, 1, 8, .nilFunc⟩),
  (162, ⟨.int .u8, 1, 1, .int .u8 0⟩),
  (163, ⟨.int .u8, 1, 1, .int .u8 0⟩),
  (164, ⟨.func, 1, 8, .nilFunc⟩),
  (165, ⟨.ptr, 1, 8, .nilPtr⟩),
  (166, ⟨.int .i32, 1, 4, .int .i32 0⟩),
  (167, ⟨.int .i32, 1, 4, .int .i32 0⟩)]
theorem tys_ok : AllL (OkTI Tryd.prog) tys :=
  ⟨.of (by kernel_rfl) (by kernel_rfl), .of (by kernel_rfl) (by kernel_rfl), .of (by kernel_rfl) (by kernel_rfl), .of (by kernel_rfl) (by kernel_rfl), .of (by kernel_rfl) (by kernel_rfl), .of (by kernel_rfl) (by kernel_rfl), .of (by kernel_rfl) (by kernel_rfl), .of (by kernel_rfl) (by kernel_rfl), .of (by kernel_rfl) (by kernel_rfl), .of (by kernel_rfl) (by kernel_rfl), .of (by kernel_rfl) (by kernel_rfl), .of (by kernel_rfl) (by kernel_rfl), .of (by kernel_rfl) (by kernel_rfl), .of (by kernel_rfl) (by kernel_rfl), .of (by kernel_rfl) (by kernel_rfl), .of (by kernel_rfl) (by kernel_rfl), .of (by kernel_rfl) (by kernel_rfl), .of (by kernel_rfl) (by kernel_rfl), .of (by kernel_rfl) (by kernel_rfl), .of (by kernel_rfl) (by kernel_rfl), .of (by kernel_rfl) (by kernel_rfl), .of (by kernel_rfl) (by kernel_rfl), .of (by kernel_rfl) (by kernel_rfl), .of (by kernel_rfl) (by kernel_rfl), .of (by kernel_rfl) (by kernel_rfl), .of (by kernel_rfl) (by kernel_rfl), .of (by kernel_rfl) (by kernel_rfl), .of (by kernel_rfl) (by kernel_rfl), .of (by kernel_rfl) (by kernel_rfl), .of (by kernel_rfl) (by kernel_rfl), .of (by kernel_rfl) (by kernel_rfl), .of (by kernel_rfl) (by kernel_rfl), .of (by kernel_rfl) (by kernel_rfl), .of (by kernel_rfl) (by kernel_rfl), .of (by kernel_rfl) (by kernel_rfl), .of (by kernel_rfl) (by kernel_rfl), .of (by kernel_rfl) (by kernel_rfl), .of (by kernel_rfl) (by kernel_rfl), .of (by kernel_rfl) (by kernel_rfl), .of (by kernel_rfl) (by kernel_rfl), .of (by kernel_rfl) (by kernel_rfl), .of (by kernel_rfl) (by kernel_rfl), .of (by kernel_rfl) (by kernel_rfl), .of (by kernel_rfl) (by kernel_rfl), .of (by kernel_rfl) (by kernel_rfl), .of (by kernel_rfl) (by kernel_rfl), .of (by kernel_rfl) (by kernel_rfl), .of (by kernel_rfl) (by kernel_rfl), .of (by kernel_rfl) (by kernel_rfl), .of (by kernel_rfl) (by kernel_rfl), .of (by kernel_rfl) (by kernel_rfl), .of (by kernel_rfl) (by kernel_rfl), .of (by kernel_rfl) (by kernel_rfl), .of (by kernel_rfl) (by kernel_rfl), .of (by kernel_rfl) (by kernel_rfl), .of (by kernel_rfl) (by kernel_rfl), .of (by kernel_rfl) (by kernel_rfl), .of (by kernel_rfl) (by kernel_rfl), .of (by kernel_rfl) (by kernel_rfl), .of (by kernel_rfl) (by kernel_rfl), .of (by kernel_rfl) (by kernel_rfl), .of (by kernel_rfl) (by kernel_rfl), .of (by kernel_rfl) (by kernel_rfl), .of (by kernel_rfl) (by kernel_rfl), .of (by kernel_rfl) (by kernel_rfl), .of (by kernel_rfl) (by kernel_rfl), .of (by kernel_rfl) (by kernel_rfl), .of (by kernel_rfl) (by kernel_rfl), .of (by kernel_rfl) (by kernel_rfl), .of (by kernel_rfl) (by kernel_rfl), .of (by kernel_rfl) (by kernel_rfl), .of (by kernel_rfl) (by kernel_rfl), .of (by kernel_rfl) (by kernel_rfl), .of (by kernel_rfl) (by kernel_rfl), .of (by kernel_rfl) (by kernel_rfl), .of (by kernel_rfl) (by kernel_rfl), .of (by kernel_rfl) (by kernel_rfl), .of (by kernel_rfl) (by kernel_rfl), .of (by kernel_rfl) (by kernel_rfl), .of (by kernel_rfl) (by kernel_rfl), .of (by kernel_rfl) (by kernel_rfl), .of (by kernel_rfl) (by kernel_rfl), .of (by kernel_rfl) (by kernel_rfl), .of (by kernel_rfl) (by kernel_rfl), .of (by kernel_rfl) (by kernel_rfl), .of (by kernel_rfl) (by kernel_rfl), .of (by kernel_rfl) (by kernel_rfl), .of (by kernel_rfl) (by kernel_rfl), .of (by kernel_rfl) (by kernel_rfl), .of (by kernel_rfl) (by kernel_rfl), .of (by kernel_rfl) (by kernel_rfl), .of (by kernel_rfl) (by kernel_rfl), .of (by kernel_rfl) (by kernel_rfl), .of (by kernel_rfl) (by kernel_rfl), .of (by kernel_rfl) (by kernel_rfl), .of (by kernel_rfl) (by kernel_rfl), .of (by kernel_rfl) (by kernel_rfl), .of (by kernel_rfl) (by kernel_rfl), .of (by kernel_rfl) (by kernel_rfl), .of (by kernel_rfl) (by kernel_rfl), .of (by kernel_rfl) (by kernel_rfl), .of (by kernel_rfl) (by kernel_rfl), .of (by kernel_rfl) (by kernel_rfl), .of (by kernel_rfl) (by kernel_rfl), .of (by kernel_rfl) (by kernel_rfl), .of (by kernel_rfl) (by kernel_rfl), .of (by kernel_rfl) (by kernel_rfl), .of (by kernel_rfl) (by kernel_rfl), .of (by kernel_rfl) (by kernel_rfl), .of (by kernel_rfl) (by kernel_rfl), .of (by kernel_rfl) (by kernel_rfl), .of (by kernel_rfl) (by kernel_rfl), .of (by kernel_rfl) (by kernel_rfl), .of (by kernel_rfl) (by kernel_rfl), .of (by kernel_rfl) (by kernel_rfl), .of (by kernel_rfl) (by kernel_rfl), .of (by kernel_rfl) (by kernel_rfl), .of (by kernel_rfl) (by kernel_rfl), .of (by kernel_rfl) (by kernel_rfl), .of (by kernel_rfl) (by kernel_rfl), .of (by kernel_rfl) (by kernel_rfl), .of (by kernel_rfl) (by kernel_rfl), .of (by kernel_rfl) (by kernel_rfl), .of (by kernel_rfl) (by kernel_rfl), .of (by kernel_rfl) (by kernel_rfl), .of (by kernel_rfl) (by kernel_rfl), .of (by kernel_rfl) (by kernel_rfl), .of (by kernel_rfl) (by kernel_rfl), .of (by kernel_rfl) (by kernel_rfl), .of (by kernel_rfl) (by kernel_rfl), .of (by kernel_rfl) (by kernel_rfl), .of (by kernel_rfl) (by kernel_rfl), .of (by kernel_rfl) (by kernel_rfl), .of (by kernel_rfl) (by kernel_rfl), .of (by kernel_rfl) (by kernel_rfl), .of (by kernel_rfl) (by kernel_rfl), .of (by kernel_rfl) (by kernel_rfl), .of (by kernel_rfl) (by kernel_rfl), trivial⟩
theorem mixed : Tryd.prog.follows .mixedOrders = true := by kernel_rfl
noncomputable def gl : Nat → Option EV := look [(0, .arr .u8 64 tab_deBruijn64tab)]
noncomputable def e_shape_numbers : Entry := ⟨[none], false, fun args H K => match args, H with
  | [.int .u8 a0], [] => shape_numbers a0 (fun y0 y1 y2 y3 => K (EV.tuple [EV.int IntKind.i64 y0, EV.int IntKind.i64 y1, EV.int IntKind.i64 y2, EV.str y3]) [])
  | _, _ => False⟩
noncomputable def E_shape_numbers : Env := ⟨look tys, look [], look [], gl, lookL [], false⟩
theorem X_shape_numbers.eq (a0 : Int) (K : EV → Heap → Prop) : evFn E_shape_numbers Tryd.f102 false [.int .u8 a0] [] K = shape_numbers a0 (fun y0 y1 y2 y3 => K (EV.tuple [EV.int IntKind.i64 y0, EV.int IntKind.i64 y1, EV.int IntKind.i64 y2, EV.str y3]) []) := by
  have h : evFnQ E_shape_numbers Tryd.f102 false [.int .u8 a0] [] K = shape_numbers.d a0 (fun y0 y1 y2 y3 => K (EV.tuple [EV.int IntKind.i64 y0, EV.int IntKind.i64 y1, EV.int IntKind.i64 y2, EV.str y3]) []) := by kernel_rfl
  rw [shape_numbers.is]; exact (evFnQ_eq _ _ _ _ _ _).symm.trans h
theorem X_shape_numbers.ok : SoundE Tryd.prog gl 102 e_shape_numbers := by
  refine fnOK (E := E_shape_numbers) (fn := Tryd.f102) rfl tys_ok rfl (show AllL _ [] from trivial) mixed (by kernel_rfl) (by kernel_rfl) (by kernel_rfl) 0 (by kernel_rfl) false trivial ?_
  intro args H
  by_cases hx : ∃ (a0 : Int), args = [.int .u8 a0] ∧ H = []
  · obtain ⟨a0, rfl, rfl⟩ := hx
    right; intro K
    exact iff_of_eq (X_shape_numbers.eq a0 K).symm
  · left; intro K h
    simp only [e_shape_numbers] at h
    split at h
    · exact hx ⟨_, rfl, rfl⟩
    · exact h
noncomputable def e_shape_Width : Entry := ⟨[none], false, fun args H K => match args, H with
  | [.int .u8 a0], [] => shape_Width a0 (fun y0 => K (EV.int IntKind.i64 y0) [])
  | _, _ => False⟩
noncomputable def E_shape_Width : Env := ⟨look tys, look [(102, e_shape_numbers)], look [], gl, lookL [], false⟩
theorem X_shape_Width.eq (a0 : Int) (K : EV → Heap → Prop) : evFn E_shape_Width Tryd.f43 false [.int .u8 a0] [] K = shape_Width a0 (fun y0 => K (EV.int IntKind.i64 y0) []) := by
  have h : evFnQ E_shape_Width Tryd.f43 false [.int .u8 a0] [] K = shape_Width.d a0 (fun y0 => K (EV.int IntKind.i64 y0) []) := by kernel_rfl
  rw [shape_Width.is]; exact (evFnQ_eq _ _ _ _ _ _).symm.trans h
theorem X_shape_Width.ok : SoundE Tryd.prog gl 43 e_shape_Width := by
  refine fnOK (E := E_shape_Width) (fn := Tryd.f43) rfl tys_ok rfl (show AllL _ [(102, e_shape_numbers)] from ⟨X_shape_numbers.ok, trivial⟩) mixed (by kernel_rfl) (by kernel_rfl) (by kernel_rfl) 0 (by kernel_rfl) false trivial ?_
  intro args H
  by_cases hx : ∃ (a0 : Int), args = [.int .u8 a0] ∧ H = []
  · obtain ⟨a0, rfl, rfl⟩ := hx
    right; intro K
    exact iff_of_eq (X_shape_Width.eq a0 K).symm
  · left; intro K h
    simp only [e_shape_Width] at h
    split at h
    · exact hx ⟨_, rfl, rfl⟩
    · exact h
noncomputable def e_shape_Check : Entry := ⟨[none], false, fun args H K => match args, H with
  | [.int .u8 a0], [] => shape_Check a0 (fun y0 => K (EV.int IntKind.i64 y0) [])
  | _, _ => False⟩
noncomputable def E_shape_Check : Env := ⟨look tys, look [], look [], gl, lookL [], false⟩
theorem X_shape_Check.eq (a0 : Int) (K : EV → Heap → Prop) : evFn E_shape_Check Tryd.f63 false [.int .u8 a0] [] K = shape_Check a0 (fun y0 => K (EV.int IntKind.i64 y0) []) := by
  have h : evFnQ E_shape_Check Tryd.f63 false [.int .u8 a0] [] K = shape_Check.d a0 (fun y0 => K (EV.int IntKind.i64 y0) []) := by kernel_rfl
  rw [shape_Check.is]; exact (evFnQ_eq _ _ _ _ _ _).symm.trans h
theorem X_shape_Check.ok : SoundE Tryd.prog gl 63 e_shape_Check := by
  refine fnOK (E := E_shape_Check) (fn := Tryd.f63) rfl tys_ok rfl (show AllL _ [] from trivial) mixed (by kernel_rfl) (by kernel_rfl) (by kernel_rfl) 0 (by kernel_rfl) false trivial ?_
  intro args H
  by_cases hx : ∃ (a0 : Int), args = [.int .u8 a0] ∧ H = []
  · obtain ⟨a0, rfl, rfl⟩ := hx
    right; intro K
    exact iff_of_eq (X_shape_Check.eq a0 K).symm
  · left; intro K h
    simp only [e_shape_Check] at h
    split at h
    · exact hx ⟨_, rfl, rfl⟩
    · exact h
noncomputable def e_shape_at : Entry := ⟨[none, none], false, fun args H K => match args, H with
  | [.int .u64 a0, .int .i64 a1], [] => shape_at a0 a1 (fun y0 y1 => K (EV.agg [EV.int IntKind.u64 y0, EV.int IntKind.u64 y1]) [])
  | _, _ => False⟩
noncomputable def E_shape_at : Env := ⟨look tys, look [], look [], gl, lookL [], false⟩
theorem X_shape_at.eq (a0 : Int) (a1 : Int) (K : EV → Heap → Prop) : evFn E_shape_at Tryd.f107 false [.int .u64 a0, .int .i64 a1] [] K = shape_at a0 a1 (fun y0 y1 => K (EV.agg [EV.int IntKind.u64 y0, EV.int IntKind.u64 y1]) []) := by
  have h : evFnQ E_shape_at Tryd.f107 false [.int .u64 a0, .int .i64 a1] [] K = shape_at.d a0 a1 (fun y0 y1 => K (EV.agg [EV.int IntKind.u64 y0, EV.int IntKind.u64 y1]) []) := by kernel_rfl
  rw [shape_at.is]; exact (evFnQ_eq _ _ _ _ _ _).symm.trans h
theorem X_shape_at.ok : SoundE Tryd.prog gl 107 e_shape_at := by
  refine fnOK (E := E_shape_at) (fn := Tryd.f107) rfl tys_ok rfl (show AllL _ [] from trivial) mixed (by kernel_rfl) (by kernel_rfl) (by kernel_rfl) 0 (by kernel_rfl) false trivial ?_
  intro args H
  by_cases hx : ∃ (a0 : Int) (a1 : Int), args = [.int .u64 a0, .int .i64 a1] ∧ H = []
  · obtain ⟨a0, a1, rfl, rfl⟩ := hx
    right; intro K
    exact iff_of_eq (X_shape_at.eq a0 a1 K).symm
  · left; intro K h
    simp only [e_shape_at] at h
    split at h
    · exact hx ⟨_, _, rfl, rfl⟩
    · exact h
noncomputable def e_shape_with : Entry := ⟨[none, none, none], false, fun args H K => match args, H with
  | [.int .u8 a0, .agg [.int .u64 a1_0, .int .u64 a1_1], .bool a2], [] => shape_with a0 a1_0 a1_1 a2 (fun y0 y1 => K (EV.agg [EV.int IntKind.u64 y0, EV.int IntKind.u64 y1]) [])
  | _, _ => False⟩
noncomputable def E_shape_with : Env := ⟨look tys, look [(43, e_shape_Width), (63, e_shape_Check), (107, e_shape_at)], look [], gl, lookL [], false⟩
theorem X_shape_with.eq (a0 : Int) (a1_0 : Int) (a1_1 : Int) (a2 : Bool) (K : EV → Heap → Prop) : evFn E_shape_with Tryd.f87 false [.int .u8 a0, .agg [.int .u64 a1_0, .int .u64 a1_1], .bool a2] [] K = shape_with a0 a1_0 a1_1 a2 (fun y0 y1 => K (EV.agg [EV.int IntKind.u64 y0, EV.int IntKind.u64 y1]) []) := by
  have h : evFnQ E_shape_with Tryd.f87 false [.int .u8 a0, .agg [.int .u64 a1_0, .int .u64 a1_1], .bool a2] [] K = shape_with.d a0 a1_0 a1_1 a2 (fun y0 y1 => K (EV.agg [EV.int IntKind.u64 y0, EV.int IntKind.u64 y1]) []) := by kernel_rfl
  rw [shape_with.is]; exact (evFnQ_eq _ _ _ _ _ _).symm.trans h
theorem X_shape_with.ok : SoundE Tryd.prog gl 87 e_shape_with := by
  refine fnOK (E := E_shape_with) (fn := Tryd.f87) rfl tys_ok rfl (show AllL _ [(43, e_shape_Width), (63, e_shape_Check), (107, e_shape_at)] from ⟨X_shape_Width.ok, X_shape_Check.ok, X_shape_at.ok, trivial⟩) mixed (by kernel_rfl) (by kernel_rfl) (by kernel_rfl) 0 (by kernel_rfl) false trivial ?_
  intro args H
  by_cases hx : ∃ (a0 : Int) (a1_0 : Int) (a1_1 : Int) (a2 : Bool), args = [.int .u8 a0, .agg [.int .u64 a1_0, .int .u64 a1_1], .bool a2] ∧ H = []
  · obtain ⟨a0, a1_0, a1_1, a2, rfl, rfl⟩ := hx
    right; intro K
    exact iff_of_eq (X_shape_with.eq a0 a1_0 a1_1 a2 K).symm
  · left; intro K h
    simp only [e_shape_with] at h
    split at h
    · exact hx ⟨_, _, _, _, rfl, rfl⟩
    · exact h
noncomputable def e_shape_Least : Entry := ⟨[none, none], false, fun args H K => match args, H with
  | [.int .u8 a0, .bool a1], [] => shape_Least a0 a1 (fun y0 y1 => K (EV.agg [EV.int IntKind.u64 y0, EV.int IntKind.u64 y1]) [])
  | _, _ => False⟩
noncomputable def E_shape_Least : Env := ⟨look tys, look [(87, e_shape_with)], look [], gl, lookL [], false⟩
theorem X_shape_Least.eq (a0 : Int) (a1 : Bool) (K : EV → Heap → Prop) : evFn E_shape_Least Tryd.f35 false [.int .u8 a0, .bool a1] [] K = shape_Least a0 a1 (fun y0 y1 => K (EV.agg [EV.int IntKind.u64 y0, EV.int IntKind.u64 y1]) []) := by
  have h : evFnQ E_shape_Least Tryd.f35 false [.int .u8 a0, .bool a1] [] K = shape_Least.d a0 a1 (fun y0 y1 => K (EV.agg [EV.int IntKind.u64 y0, EV.int IntKind.u64 y1]) []) := by kernel_rfl
  rw [shape_Least.is]; exact (evFnQ_eq _ _ _ _ _ _).symm.trans h
theorem X_shape_Least.ok : SoundE Tryd.prog gl 35 e_shape_Least := by
  refine fnOK (E := E_shape_Least) (fn := Tryd.f35) rfl tys_ok rfl (show AllL _ [(87, e_shape_with)] from ⟨X_shape_with.ok, trivial⟩) mixed (by kernel_rfl) (by kernel_rfl) (by kernel_rfl) 0 (by kernel_rfl) false trivial ?_
  intro args H
  by_cases hx : ∃ (a0 : Int) (a1 : Bool), args = [.int .u8 a0, .bool a1] ∧ H = []
  · obtain ⟨a0, a1, rfl, rfl⟩ := hx
    right; intro K
    exact iff_of_eq (X_shape_Least.eq a0 a1 K).symm
  · left; intro K h
    simp only [e_shape_Least] at h
    split at h
    · exact hx ⟨_, _, rfl, rfl⟩
    · exact h
noncomputable def e_shape_Fits : Entry := ⟨[none, none], false, fun args H K => match args, H with
  | [.int .u8 a0, .agg [.int .u64 a1_0, .int .u64 a1_1]], [] => shape_Fits a0 a1_0 a1_1 (fun y0 => K (EV.bool y0) [])
  | _, _ => False⟩
noncomputable def E_shape_Fits : Env := ⟨look tys, look [(43, e_shape_Width)], look [], gl, lookL [], false⟩
theorem X_shape_Fits.eq (a0 : Int) (a1_0 : Int) (a1_1 : Int) (K : EV → Heap → Prop) : evFn E_shape_Fits Tryd.f40 false [.int .u8 a0, .agg [.int .u64 a1_0, .int .u64 a1_1]] [] K = shape_Fits a0 a1_0 a1_1 (fun y0 => K (EV.bool y0) []) := by
  have h : evFnQ E_shape_Fits Tryd.f40 false [.int .u8 a0, .agg [.int .u64 a1_0, .int .u64 a1_1]] [] K = shape_Fits.d a0 a1_0 a1_1 (fun y0 => K (EV.bool y0) []) := by kernel_rfl
  rw [shape_Fits.is]; exact (evFnQ_eq _ _ _ _ _ _).symm.trans h
theorem X_shape_Fits.ok : SoundE Tryd.prog gl 40 e_shape_Fits := by
  refine fnOK (E := E_shape_Fits) (fn := Tryd.f40) rfl tys_ok rfl (show AllL _ [(43, e_shape_Width)] from ⟨X_shape_Width.ok, trivial⟩) mixed (by kernel_rfl) (by kernel_rfl) (by kernel_rfl) 0 (by kernel_rfl) false trivial ?_
  intro args H
  by_cases hx : ∃ (a0 : Int) (a1_0 : Int) (a1_1 : Int), args = [.int .u8 a0, .agg [.int .u64 a1_0, .int .u64 a1_1]] ∧ H = []
  · obtain ⟨a0, a1_0, a1_1, rfl, rfl⟩ := hx
    right; intro K
    exact iff_of_eq (X_shape_Fits.eq a0 a1_0 a1_1 K).symm
  · left; intro K h
    simp only [e_shape_Fits] at h
    split at h
    · exact hx ⟨_, _, _, rfl, rfl⟩
    · exact h
noncomputable def e_wide_Bit : Entry := ⟨[none, none], false, fun args H K => match args, H with
  | [.arr .u64 6 a0, .int .i64 a1], [] => wide_Bit a0 a1 (fun y0 => K (EV.bool y0) [])
  | _, _ => False⟩
noncomputable def E_wide_Bit : Env := ⟨look tys, look [], look [], gl, lookL [], false⟩
theorem X_wide_Bit.eq (a0 : Nat → Int) (a1 : Int) (K : EV → Heap → Prop) : evFn E_wide_Bit Tryd.f41 false [.arr .u64 6 a0, .int .i64 a1] [] K = wide_Bit a0 a1 (fun y0 => K (EV.bool y0) []) := by
  have h : evFnQ E_wide_Bit Tryd.f41 false [.arr .u64 6 a0, .int .i64 a1] [] K = wide_Bit.d a0 a1 (fun y0 => K (EV.bool y0) []) := by kernel_rfl
  rw [wide_Bit.is]; exact (evFnQ_eq _ _ _ _ _ _).symm.trans h
theorem X_wide_Bit.ok : SoundE Tryd.prog gl 41 e_wide_Bit := by
  refine fnOK (E := E_wide_Bit) (fn := Tryd.f41) rfl tys_ok rfl (show AllL _ [] from trivial) mixed (by kernel_rfl) (by kernel_rfl) (by kernel_rfl) 0 (by kernel_rfl) false trivial ?_
  intro args H
  by_cases hx : ∃ (a0 : Nat → Int) (a1 : Int), args = [.arr .u64 6 a0, .int .i64 a1] ∧ H = []
  · obtain ⟨a0, a1, rfl, rfl⟩ := hx
    right; intro K
    exact iff_of_eq (X_wide_Bit.eq a0 a1 K).symm
  · left; intro K h
    simp only [e_wide_Bit] at h
    split at h
    · exact hx ⟨_, _, rfl, rfl⟩
    · exact h
noncomputable def e_shape_Precision : Entry := ⟨[none], false, fun args H K => match args, H with
  | [.int .u8 a0], [] => shape_Precision a0 (fun y0 => K (EV.int IntKind.i64 y0) [])
  | _, _ => False⟩
noncomputable def E_shape_Precision : Env := ⟨look tys, look [(102, e_shape_numbers)], look [], gl, lookL [], false⟩
theorem X_shape_Precision.eq (a0 : Int) (K : EV → Heap → Prop) : evFn E_shape_Precision Tryd.f55 false [.int .u8 a0] [] K = shape_Precision a0 (fun y0 => K (EV.int IntKind.i64 y0) []) := by
  have h : evFnQ E_shape_Precision Tryd.f55 false [.int .u8 a0] [] K = shape_Precision.d a0 (fun y0 => K (EV.int IntKind.i64 y0) []) := by kernel_rfl
  rw [shape_Precision.is]; exact (evFnQ_eq _ _ _ _ _ _).symm.trans h
theorem X_shape_Precision.ok : SoundE Tryd.prog gl 55 e_shape_Precision := by
  refine fnOK (E := E_shape_Precision) (fn := Tryd.f55) rfl tys_ok rfl (show AllL _ [(102, e_shape_numbers)] from ⟨X_shape_numbers.ok, trivial⟩) mixed (by kernel_rfl) (by kernel_rfl) (by kernel_rfl) 0 (by kernel_rfl) false trivial ?_
  intro args H
  by_cases hx : ∃ (a0 : Int), args = [.int .u8 a0] ∧ H = []
  · obtain ⟨a0, rfl, rfl⟩ := hx
    right; intro K
    exact iff_of_eq (X_shape_Precision.eq a0 K).symm
  · left; intro K h
    simp only [e_shape_Precision] at h
    split at h
    · exact hx ⟨_, rfl, rfl⟩
    · exact h
noncomputable def e_wide_OfBits : Entry := ⟨[none], false, fun args H K => match args, H with
  | [.agg [.int .u64 a0_0, .int .u64 a0_1]], [] => wide_OfBits a0_0 a0_1 (fun y0 => K (EV.arr IntKind.u64 6 y0) [])
  | _, _ => False⟩
noncomputable def E_wide_OfBits : Env := ⟨look tys, look [], look [], gl, lookL [], false⟩
theorem X_wide_OfBits.eq (a0_0 : Int) (a0_1 : Int) (K : EV → Heap → Prop) : evFn E_wide_OfBits Tryd.f42 false [.agg [.int .u64 a0_0, .int .u64 a0_1]] [] K = wide_OfBits a0_0 a0_1 (fun y0 => K (EV.arr IntKind.u64 6 y0) []) := by
  have h : evFnQ E_wide_OfBits Tryd.f42 false [.agg [.int .u64 a0_0, .int .u64 a0_1]] [] K = wide_OfBits.d a0_0 a0_1 (fun y0 => K (EV.arr IntKind.u64 6 y0) []) := by kernel_rfl
  rw [wide_OfBits.is]; exact (evFnQ_eq _ _ _ _ _ _).symm.trans h
theorem X_wide_OfBits.ok : SoundE Tryd.prog gl 42 e_wide_OfBits := by
  refine fnOK (E := E_wide_OfBits) (fn := Tryd.f42) rfl tys_ok rfl (show AllL _ [] from trivial) mixed (by kernel_rfl) (by kernel_rfl) (by kernel_rfl) 0 (by kernel_rfl) false trivial ?_
  intro args H
  by_cases hx : ∃ (a0_0 : Int) (a0_1 : Int), args = [.agg [.int .u64 a0_0, .int .u64 a0_1]] ∧ H = []
  · obtain ⟨a0_0, a0_1, rfl, rfl⟩ := hx
    right; intro K
    exact iff_of_eq (X_wide_OfBits.eq a0_0 a0_1 K).symm
  · left; intro K h
    simp only [e_wide_OfBits] at h
    split at h
    · exact hx ⟨_, _, rfl, rfl⟩
    · exact h
noncomputable def e_wide_And : Entry := ⟨[none, none], false, fun args H K => match args, H with
  | [.arr .u64 6 a0, .arr .u64 6 a1], [] => wide_And a0 a1 (fun y0 => K (EV.arr IntKind.u64 6 y0) [])
  | _, _ => False⟩
noncomputable def E_wide_And : Env := ⟨look tys, look [], look [(2, wide_And.l2.entry)], gl, lookL [], false⟩
theorem wide_And.l2X.stepEq (R : List EV → Heap → Prop) (K : Ex → List EV → Heap → Prop) (x0 : Int) (x1 : Nat → Int) (x2 : Nat → Int) (x3 : Nat → Int) : loopStep (evCode E_wide_And (loopAt Tryd.f67 0) { (LV.mk 20 [(0, 20)] 16 0 false) with nx := live (.loop (loopAt Tryd.f67 0)) (LV.mk 20 [(0, 20)] 16 0 false) }) (live (.loop (loopAt Tryd.f67 0)) (LV.mk 20 [(0, 20)] 16 0 false)) (LV.mk 20 [(0, 20)] 16 0 false) 0 19 R [EV.ptr 0 [], EV.ptr 1 [], EV.ptr 2 [], EV.int IntKind.i64 x0] [some (EV.arr IntKind.u64 6 x1), some (EV.arr IntKind.u64 6 x2), some (EV.arr IntKind.u64 6 x3)] K = wide_And.l2.step (fun x0 x1 x2 x3 => R [EV.ptr 0 [], EV.ptr 1 [], EV.ptr 2 [], EV.int IntKind.i64 x0] [some (EV.arr IntKind.u64 6 x1), some (EV.arr IntKind.u64 6 x2), some (EV.arr IntKind.u64 6 x3)]) (fun y0 y1 => K (.exit 0) [EV.ptr 0 [], EV.ptr 1 []] [some (EV.arr IntKind.u64 6 y0), some (EV.arr IntKind.u64 6 y1)]) x0 x1 x2 x3 := (stepQ_eq _ _ _ _ _ _ _ _ _ _ _).symm.trans (by kernel_rfl)
theorem wide_And.l2X.eq (K : Ex → List EV → Heap → Prop) : ∀ (n : Nat) (x0 : Int) (x1 : Nat → Int) (x2 : Nat → Int) (x3 : Nat → Int), loopE E_wide_And (loopAt Tryd.f67 0) (LV.mk 20 [(0, 20)] 16 0 false) 0 19 K n [EV.ptr 0 [], EV.ptr 1 [], EV.ptr 2 [], EV.int IntKind.i64 x0] [some (EV.arr IntKind.u64 6 x1), some (EV.arr IntKind.u64 6 x2), some (EV.arr IntKind.u64 6 x3)] = wide_And.l2 (fun y0 y1 => K (.exit 0) [EV.ptr 0 [], EV.ptr 1 []] [some (EV.arr IntKind.u64 6 y0), some (EV.arr IntKind.u64 6 y1)]) n x0 x1 x2 x3
  | 0, _, _, _, _ => rfl
  | n + 1, x0, x1, x2, x3 => by
    have ih : (fun (x0 : Int) (x1 : Nat → Int) (x2 : Nat → Int) (x3 : Nat → Int) => loopE E_wide_And (loopAt Tryd.f67 0) (LV.mk 20 [(0, 20)] 16 0 false) 0 19 K n [EV.ptr 0 [], EV.ptr 1 [], EV.ptr 2 [], EV.int IntKind.i64 x0] [some (EV.arr IntKind.u64 6 x1), some (EV.arr IntKind.u64 6 x2), some (EV.arr IntKind.u64 6 x3)]) = wide_And.l2 (fun y0 y1 => K (.exit 0) [EV.ptr 0 [], EV.ptr 1 []] [some (EV.arr IntKind.u64 6 y0), some (EV.arr IntKind.u64 6 y1)]) n := by funext x0 x1 x2 x3; exact wide_And.l2X.eq K n x0 x1 x2 x3
    show loopStep _ _ _ _ _ (loopE E_wide_And (loopAt Tryd.f67 0) (LV.mk 20 [(0, 20)] 16 0 false) 0 19 K n) [EV.ptr 0 [], EV.ptr 1 [], EV.ptr 2 [], EV.int IntKind.i64 x0] [some (EV.arr IntKind.u64 6 x1), some (EV.arr IntKind.u64 6 x2), some (EV.arr IntKind.u64 6 x3)] K = wide_And.l2.step (wide_And.l2 (fun y0 y1 => K (.exit 0) [EV.ptr 0 [], EV.ptr 1 []] [some (EV.arr IntKind.u64 6 y0), some (EV.arr IntKind.u64 6 y1)]) n) (fun y0 y1 => K (.exit 0) [EV.ptr 0 [], EV.ptr 1 []] [some (EV.arr IntKind.u64 6 y0), some (EV.arr IntKind.u64 6 y1)]) x0 x1 x2 x3
    rw [← ih]
    exact wide_And.l2X.stepEq _ K x0 x1 x2 x3
theorem wide_And.l2X.ok : LoopEq E_wide_And (loopAt Tryd.f67 0) := by
  intro L hL vs H
  have h1 : E_wide_And.lp (firstRegion (loopAt Tryd.f67 0)) = some wide_And.l2.entry := by kernel_rfl
  have h2 : L = wide_And.l2.entry := Option.some.inj (hL.symm.trans h1)
  subst h2
  by_cases hx : ∃ (x0 : Int) (x1 : Nat → Int) (x2 : Nat → Int) (x3 : Nat → Int), vs = [EV.ptr 0 [], EV.ptr 1 [], EV.ptr 2 [], EV.int IntKind.i64 x0] ∧ H = [some (EV.arr IntKind.u64 6 x1), some (EV.arr IntKind.u64 6 x2), some (EV.arr IntKind.u64 6 x3)]
  · obtain ⟨x0, x1, x2, x3, rfl, rfl⟩ := hx
    right; intro K
    exact exists_congr fun n => iff_of_eq (wide_And.l2X.eq K n x0 x1 x2 x3).symm
  · left; intro K h
    simp only [wide_And.l2.entry] at h
    split at h
    · exact hx ⟨_, _, _, _, rfl, rfl⟩
    · exact h
theorem X_wide_And.eq (a0 : Nat → Int) (a1 : Nat → Int) (K : EV → Heap → Prop) : evFn E_wide_And Tryd.f67 false [.arr .u64 6 a0, .arr .u64 6 a1] [] K = wide_And a0 a1 (fun y0 => K (EV.arr IntKind.u64 6 y0) []) := by
  have h : evFnQ E_wide_And Tryd.f67 false [.arr .u64 6 a0, .arr .u64 6 a1] [] K = wide_And.d a0 a1 (fun y0 => K (EV.arr IntKind.u64 6 y0) []) := by kernel_rfl
  rw [wide_And.is]; exact (evFnQ_eq _ _ _ _ _ _).symm.trans h
theorem X_wide_And.ok : SoundE Tryd.prog gl 67 e_wide_And := by
  refine fnOK (E := E_wide_And) (fn := Tryd.f67) rfl tys_ok rfl (show AllL _ [] from trivial) mixed (by kernel_rfl) (by kernel_rfl) (by kernel_rfl) 1 (by kernel_rfl) false ⟨wide_And.l2X.ok, trivial⟩ ?_
  intro args H
  by_cases hx : ∃ (a0 : Nat → Int) (a1 : Nat → Int), args = [.arr .u64 6 a0, .arr .u64 6 a1] ∧ H = []
  · obtain ⟨a0, a1, rfl, rfl⟩ := hx
    right; intro K
    exact iff_of_eq (X_wide_And.eq a0 a1 K).symm
  · left; intro K h
    simp only [e_wide_And] at h
    split at h
    · exact hx ⟨_, _, rfl, rfl⟩
    · exact h
noncomputable def e_wide_count : Entry := ⟨[none], false, fun args H K => match args, H with
  | [.int .i64 a0], [] => wide_count a0 (fun y0 => K (EV.int IntKind.i64 y0) [])
  | _, _ => False⟩
noncomputable def E_wide_count : Env := ⟨look tys, look [], look [], gl, lookL [], false⟩
theorem X_wide_count.eq (a0 : Int) (K : EV → Heap → Prop) : evFn E_wide_count Tryd.f114 false [.int .i64 a0] [] K = wide_count a0 (fun y0 => K (EV.int IntKind.i64 y0) []) := by
  have h : evFnQ E_wide_count Tryd.f114 false [.int .i64 a0] [] K = wide_count.d a0 (fun y0 => K (EV.int IntKind.i64 y0) []) := by kernel_rfl
  rw [wide_count.is]; exact (evFnQ_eq _ _ _ _ _ _).symm.trans h
theorem X_wide_count.ok : SoundE Tryd.prog gl 114 e_wide_count := by
  refine fnOK (E := E_wide_count) (fn := Tryd.f114) rfl tys_ok rfl (show AllL _ [] from trivial) mixed (by kernel_rfl) (by kernel_rfl) (by kernel_rfl) 0 (by kernel_rfl) false trivial ?_
  intro args H
  by_cases hx : ∃ (a0 : Int), args = [.int .i64 a0] ∧ H = []
  · obtain ⟨a0, rfl, rfl⟩ := hx
    right; intro K
    exact iff_of_eq (X_wide_count.eq a0 K).symm
  · left; intro K h
    simp only [e_wide_count] at h
    split at h
    · exact hx ⟨_, rfl, rfl⟩
    · exact h
noncomputable def e_word_count : Entry := ⟨[none], false, fun args H K => match args, H with
  | [.int .i64 a0], [] => word_count a0 (fun y0 => K (EV.int IntKind.u64 y0) [])
  | _, _ => False⟩
noncomputable def E_word_count : Env := ⟨look tys, look [], look [], gl, lookL [], false⟩
theorem X_word_count.eq (a0 : Int) (K : EV → Heap → Prop) : evFn E_word_count Tryd.f142 false [.int .i64 a0] [] K = word_count a0 (fun y0 => K (EV.int IntKind.u64 y0) []) := by
  have h : evFnQ E_word_count Tryd.f142 false [.int .i64 a0] [] K = word_count.d a0 (fun y0 => K (EV.int IntKind.u64 y0) []) := by kernel_rfl
  rw [word_count.is]; exact (evFnQ_eq _ _ _ _ _ _).symm.trans h
theorem X_word_count.ok : SoundE Tryd.prog gl 142 e_word_count := by
  refine fnOK (E := E_word_count) (fn := Tryd.f142) rfl tys_ok rfl (show AllL _ [] from trivial) mixed (by kernel_rfl) (by kernel_rfl) (by kernel_rfl) 0 (by kernel_rfl) false trivial ?_
  intro args H
  by_cases hx : ∃ (a0 : Int), args = [.int .i64 a0] ∧ H = []
  · obtain ⟨a0, rfl, rfl⟩ := hx
    right; intro K
    exact iff_of_eq (X_word_count.eq a0 K).symm
  · left; intro K h
    simp only [e_word_count] at h
    split at h
    · exact hx ⟨_, rfl, rfl⟩
    · exact h
noncomputable def e_word_Mask : Entry := ⟨[none], false, fun args H K => match args, H with
  | [.int .i64 a0], [] => word_Mask a0 (fun y0 => K (EV.int IntKind.u64 y0) [])
  | _, _ => False⟩
noncomputable def E_word_Mask : Env := ⟨look tys, look [(142, e_word_count)], look [], gl, lookL [], false⟩
theorem X_word_Mask.eq (a0 : Int) (K : EV → Heap → Prop) : evFn E_word_Mask Tryd.f115 false [.int .i64 a0] [] K = word_Mask a0 (fun y0 => K (EV.int IntKind.u64 y0) []) := by
  have h : evFnQ E_word_Mask Tryd.f115 false [.int .i64 a0] [] K = word_Mask.d a0 (fun y0 => K (EV.int IntKind.u64 y0) []) := by kernel_rfl
  rw [word_Mask.is]; exact (evFnQ_eq _ _ _ _ _ _).symm.trans h
theorem X_word_Mask.ok : SoundE Tryd.prog gl 115 e_word_Mask := by
  refine fnOK (E := E_word_Mask) (fn := Tryd.f115) rfl tys_ok rfl (show AllL _ [(142, e_word_count)] from ⟨X_word_count.ok, trivial⟩) mixed (by kernel_rfl) (by kernel_rfl) (by kernel_rfl) 0 (by kernel_rfl) false trivial ?_
  intro args H
  by_cases hx : ∃ (a0 : Int), args = [.int .i64 a0] ∧ H = []
  · obtain ⟨a0, rfl, rfl⟩ := hx
    right; intro K
    exact iff_of_eq (X_word_Mask.eq a0 K).symm
  · left; intro K h
    simp only [e_word_Mask] at h
    split at h
    · exact hx ⟨_, rfl, rfl⟩
    · exact h
noncomputable def e_wide_Mask : Entry := ⟨[none], false, fun args H K => match args, H with
  | [.int .i64 a0], [] => wide_Mask a0 (fun y0 => K (EV.arr IntKind.u64 6 y0) [])
  | _, _ => False⟩
noncomputable def E_wide_Mask : Env := ⟨look tys, look [(114, e_wide_count), (115, e_word_Mask)], look [(4, wide_Mask.l4.entry)], gl, lookL [], false⟩
theorem wide_Mask.l4X.stepEq (R : List EV → Heap → Prop) (K : Ex → List EV → Heap → Prop) (x0 : Int) (x1 : Int) (x2 : Nat → Int) (x3 : Nat → Int) : loopStep (evCode E_wide_Mask (loopAt Tryd.f68 0) { (LV.mk 12 [(0, 12)] 4 0 false) with nx := live (.loop (loopAt Tryd.f68 0)) (LV.mk 12 [(0, 12)] 4 0 false) }) (live (.loop (loopAt Tryd.f68 0)) (LV.mk 12 [(0, 12)] 4 0 false)) (LV.mk 12 [(0, 12)] 4 0 false) 0 19 R [EV.int IntKind.i64 x0, EV.ptr 0 [], EV.ptr 1 [], EV.int IntKind.i64 x1] [some (EV.arr IntKind.u64 6 x2), some (EV.arr IntKind.u64 6 x3)] K = wide_Mask.l4.step (fun x0 x1 x2 x3 => R [EV.int IntKind.i64 x0, EV.ptr 0 [], EV.ptr 1 [], EV.int IntKind.i64 x1] [some (EV.arr IntKind.u64 6 x2), some (EV.arr IntKind.u64 6 x3)]) (fun y0 y1 => K (.exit 0) [EV.ptr 0 [], EV.ptr 1 []] [some (EV.arr IntKind.u64 6 y0), some (EV.arr IntKind.u64 6 y1)]) x0 x1 x2 x3 := (stepQ_eq _ _ _ _ _ _ _ _ _ _ _).symm.trans (by kernel_rfl)
theorem wide_Mask.l4X.eq (K : Ex → List EV → Heap → Prop) : ∀ (n : Nat) (x0 : Int) (x1 : Int) (x2 : Nat → Int) (x3 : Nat → Int), loopE E_wide_Mask (loopAt Tryd.f68 0) (LV.mk 12 [(0, 12)] 4 0 false) 0 19 K n [EV.int IntKind.i64 x0, EV.ptr 0 [], EV.ptr 1 [], EV.int IntKind.i64 x1] [some (EV.arr IntKind.u64 6 x2), some (EV.arr IntKind.u64 6 x3)] = wide_Mask.l4 (fun y0 y1 => K (.exit 0) [EV.ptr 0 [], EV.ptr 1 []] [some (EV.arr IntKind.u64 6 y0), some (EV.arr IntKind.u64 6 y1)]) n x0 x1 x2 x3
  | 0, _, _, _, _ => rfl
  | n + 1, x0, x1, x2, x3 => by
    have ih : (fun (x0 : Int) (x1 : Int) (x2 : Nat → Int) (x3 : Nat → Int) => loopE E_wide_Mask (loopAt Tryd.f68 0) (LV.mk 12 [(0, 12)] 4 0 false) 0 19 K n [EV.int IntKind.i64 x0, EV.ptr 0 [], EV.ptr 1 [], EV.int IntKind.i64 x1] [some (EV.arr IntKind.u64 6 x2), some (EV.arr IntKind.u64 6 x3)]) = wide_Mask.l4 (fun y0 y1 => K (.exit 0) [EV.ptr 0 [], EV.ptr 1 []] [some (EV.arr IntKind.u64 6 y0), some (EV.arr IntKind.u64 6 y1)]) n := by funext x0 x1 x2 x3; exact wide_Mask.l4X.eq K n x0 x1 x2 x3
    show loopStep _ _ _ _ _ (loopE E_wide_Mask (loopAt Tryd.f68 0) (LV.mk 12 [(0, 12)] 4 0 false) 0 19 K n) [EV.int IntKind.i64 x0, EV.ptr 0 [], EV.ptr 1 [], EV.int IntKind.i64 x1] [some (EV.arr IntKind.u64 6 x2), some (EV.arr IntKind.u64 6 x3)] K = wide_Mask.l4.step (wide_Mask.l4 (fun y0 y1 => K (.exit 0) [EV.ptr 0 [], EV.ptr 1 []] [some (EV.arr IntKind.u64 6 y0), some (EV.arr IntKind.u64 6 y1)]) n) (fun y0 y1 => K (.exit 0) [EV.ptr 0 [], EV.ptr 1 []] [some (EV.arr IntKind.u64 6 y0), some (EV.arr IntKind.u64 6 y1)]) x0 x1 x2 x3
    rw [← ih]
    exact wide_Mask.l4X.stepEq _ K x0 x1 x2 x3
theorem wide_Mask.l4X.ok : LoopEq E_wide_Mask (loopAt Tryd.f68 0) := by
  intro L hL vs H
  have h1 : E_wide_Mask.lp (firstRegion (loopAt Tryd.f68 0)) = some wide_Mask.l4.entry := by kernel_rfl
  have h2 : L = wide_Mask.l4.entry := Option.some.inj (hL.symm.trans h1)
  subst h2
  by_cases hx : ∃ (x0 : Int) (x1 : Int) (x2 : Nat → Int) (x3 : Nat → Int), vs = [EV.int IntKind.i64 x0, EV.ptr 0 [], EV.ptr 1 [], EV.int IntKind.i64 x1] ∧ H = [some (EV.arr IntKind.u64 6 x2), some (EV.arr IntKind.u64 6 x3)]
  · obtain ⟨x0, x1, x2, x3, rfl, rfl⟩ := hx
    right; intro K
    exact exists_congr fun n => iff_of_eq (wide_Mask.l4X.eq K n x0 x1 x2 x3).symm
  · left; intro K h
    simp only [wide_Mask.l4.entry] at h
    split at h
    · exact hx ⟨_, _, _, _, rfl, rfl⟩
    · exact h
theorem X_wide_Mask.eq (a0 : Int) (K : EV → Heap → Prop) : evFn E_wide_Mask Tryd.f68 false [.int .i64 a0] [] K = wide_Mask a0 (fun y0 => K (EV.arr IntKind.u64 6 y0) []) := by
  have h : evFnQ E_wide_Mask Tryd.f68 false [.int .i64 a0] [] K = wide_Mask.d a0 (fun y0 => K (EV.arr IntKind.u64 6 y0) []) := by kernel_rfl
  rw [wide_Mask.is]; exact (evFnQ_eq _ _ _ _ _ _).symm.trans h
theorem X_wide_Mask.ok : SoundE Tryd.prog gl 68 e_wide_Mask := by
  refine fnOK (E := E_wide_Mask) (fn := Tryd.f68) rfl tys_ok rfl (show AllL _ [(114, e_wide_count), (115, e_word_Mask)] from ⟨X_wide_count.ok, X_word_Mask.ok, trivial⟩) mixed (by kernel_rfl) (by kernel_rfl) (by kernel_rfl) 1 (by kernel_rfl) false ⟨wide_Mask.l4X.ok, trivial⟩ ?_
  intro args H
  by_cases hx : ∃ (a0 : Int), args = [.int .i64 a0] ∧ H = []
  · obtain ⟨a0, rfl, rfl⟩ := hx
    right; intro K
    exact iff_of_eq (X_wide_Mask.eq a0 K).symm
  · left; intro K h
    simp only [e_wide_Mask] at h
    split at h
    · exact hx ⟨_, rfl, rfl⟩
    · exact h
noncomputable def e_bits_TrailingZeros64 : Entry := ⟨[none], false, fun args H K => match args, H with
  | [.int .u64 a0], [] => bits_TrailingZeros64 a0 (fun y0 => K (EV.int IntKind.i64 y0) [])
  | _, _ => False⟩
noncomputable def E_bits_TrailingZeros64 : Env := ⟨look tys, look [], look [], gl, lookL [], false⟩
theorem X_bits_TrailingZeros64.eq (a0 : Int) (K : EV → Heap → Prop) : evFn E_bits_TrailingZeros64 Tryd.f149 false [.int .u64 a0] [] K = bits_TrailingZeros64 a0 (fun y0 => K (EV.int IntKind.i64 y0) []) := by
  have h : evFnQ E_bits_TrailingZeros64 Tryd.f149 false [.int .u64 a0] [] K = bits_TrailingZeros64.d a0 (fun y0 => K (EV.int IntKind.i64 y0) []) := by kernel_rfl
  rw [bits_TrailingZeros64.is]; exact (evFnQ_eq _ _ _ _ _ _).symm.trans h
theorem X_bits_TrailingZeros64.ok : SoundE Tryd.prog gl 149 e_bits_TrailingZeros64 := by
  refine fnOK (E := E_bits_TrailingZeros64) (fn := Tryd.f149) rfl tys_ok rfl (show AllL _ [] from trivial) mixed (by kernel_rfl) (by kernel_rfl) (by kernel_rfl) 0 (by kernel_rfl) false trivial ?_
  intro args H
  by_cases hx : ∃ (a0 : Int), args = [.int .u64 a0] ∧ H = []
  · obtain ⟨a0, rfl, rfl⟩ := hx
    right; intro K
    exact iff_of_eq (X_bits_TrailingZeros64.eq a0 K).symm
  · left; intro K h
    simp only [e_bits_TrailingZeros64] at h
    split at h
    · exact hx ⟨_, rfl, rfl⟩
    · exact h
noncomputable def e_word_Low : Entry := ⟨[none], false, fun args H K => match args, H with
  | [.int .u64 a0], [] => word_Low a0 (fun y0 => K (EV.int IntKind.i64 y0) [])
  | _, _ => False⟩
noncomputable def E_word_Low : Env := ⟨look tys, look [(149, e_bits_TrailingZeros64)], look [], gl, lookL [], false⟩
theorem X_word_Low.eq (a0 : Int) (K : EV → Heap → Prop) : evFn E_word_Low Tryd.f144 false [.int .u64 a0] [] K = word_Low a0 (fun y0 => K (EV.int IntKind.i64 y0) []) := by
  have h : evFnQ E_word_Low Tryd.f144 false [.int .u64 a0] [] K = word_Low.d a0 (fun y0 => K (EV.int IntKind.i64 y0) []) := by kernel_rfl
  rw [word_Low.is]; exact (evFnQ_eq _ _ _ _ _ _).symm.trans h
theorem X_word_Low.ok : SoundE Tryd.prog gl 144 e_word_Low := by
  refine fnOK (E := E_word_Low) (fn := Tryd.f144) rfl tys_ok rfl (show AllL _ [(149, e_bits_TrailingZeros64)] from ⟨X_bits_TrailingZeros64.ok, trivial⟩) mixed (by kernel_rfl) (by kernel_rfl) (by kernel_rfl) 0 (by kernel_rfl) false trivial ?_
  intro args H
  by_cases hx : ∃ (a0 : Int), args = [.int .u64 a0] ∧ H = []
  · obtain ⟨a0, rfl, rfl⟩ := hx
    right; intro K
    exact iff_of_eq (X_word_Low.eq a0 K).symm
  · left; intro K h
    simp only [e_word_Low] at h
    split at h
    · exact hx ⟨_, rfl, rfl⟩
    · exact h
noncomputable def e_wide_Low : Entry := ⟨[none], false, fun args H K => match args, H with
  | [.arr .u64 6 a0], [] => wide_Low a0 (fun y0 => K (EV.int IntKind.i64 y0) [])
  | _, _ => False⟩
noncomputable def E_wide_Low : Env := ⟨look tys, look [(144, e_word_Low)], look [(2, wide_Low.l2.entry)], gl, lookL [], false⟩
theorem wide_Low.l2X.stepEq (R : List EV → Heap → Prop) (K : Ex → List EV → Heap → Prop) (x0 : Nat → Int) (x1 : Int) : loopStep (evCode E_wide_Low (loopAt Tryd.f140 0) { (LV.mk 0 [(0, 0)] 4 0 false) with nx := live (.loop (loopAt Tryd.f140 0)) (LV.mk 0 [(0, 0)] 4 0 false) }) (live (.loop (loopAt Tryd.f140 0)) (LV.mk 0 [(0, 0)] 4 0 false)) (LV.mk 0 [(0, 0)] 4 0 false) 0 18 R [EV.arr IntKind.u64 6 x0, EV.int IntKind.i64 x1] [] K = wide_Low.l2.step (fun x0 x1 => R [EV.arr IntKind.u64 6 x0, EV.int IntKind.i64 x1] []) (fun y0 => K .ret [EV.int IntKind.i64 y0] []) (K (.exit 0) [] []) x0 x1 := (stepQ_eq _ _ _ _ _ _ _ _ _ _ _).symm.trans (by kernel_rfl)
theorem wide_Low.l2X.eq (K : Ex → List EV → Heap → Prop) : ∀ (n : Nat) (x0 : Nat → Int) (x1 : Int), loopE E_wide_Low (loopAt Tryd.f140 0) (LV.mk 0 [(0, 0)] 4 0 false) 0 18 K n [EV.arr IntKind.u64 6 x0, EV.int IntKind.i64 x1] [] = wide_Low.l2 (fun y0 => K .ret [EV.int IntKind.i64 y0] []) (K (.exit 0) [] []) n x0 x1
  | 0, _, _ => rfl
  | n + 1, x0, x1 => by
    have ih : (fun (x0 : Nat → Int) (x1 : Int) => loopE E_wide_Low (loopAt Tryd.f140 0) (LV.mk 0 [(0, 0)] 4 0 false) 0 18 K n [EV.arr IntKind.u64 6 x0, EV.int IntKind.i64 x1] []) = wide_Low.l2 (fun y0 => K .ret [EV.int IntKind.i64 y0] []) (K (.exit 0) [] []) n := by funext x0 x1; exact wide_Low.l2X.eq K n x0 x1
    show loopStep _ _ _ _ _ (loopE E_wide_Low (loopAt Tryd.f140 0) (LV.mk 0 [(0, 0)] 4 0 false) 0 18 K n) [EV.arr IntKind.u64 6 x0, EV.int IntKind.i64 x1] [] K = wide_Low.l2.step (wide_Low.l2 (fun y0 => K .ret [EV.int IntKind.i64 y0] []) (K (.exit 0) [] []) n) (fun y0 => K .ret [EV.int IntKind.i64 y0] []) (K (.exit 0) [] []) x0 x1
    rw [← ih]
    exact wide_Low.l2X.stepEq _ K x0 x1
theorem wide_Low.l2X.ok : LoopEq E_wide_Low (loopAt Tryd.f140 0) := by
  intro L hL vs H
  have h1 : E_wide_Low.lp (firstRegion (loopAt Tryd.f140 0)) = some wide_Low.l2.entry := by kernel_rfl
  have h2 : L = wide_Low.l2.entry := Option.some.inj (hL.symm.trans h1)
  subst h2
  by_cases hx : ∃ (x0 : Nat → Int) (x1 : Int), vs = [EV.arr IntKind.u64 6 x0, EV.int IntKind.i64 x1] ∧ H = []
  · obtain ⟨x0, x1, rfl, rfl⟩ := hx
    right; intro K
    exact exists_congr fun n => iff_of_eq (wide_Low.l2X.eq K n x0 x1).symm
  · left; intro K h
    simp only [wide_Low.l2.entry] at h
    split at h
    · exact hx ⟨_, _, rfl, rfl⟩
    · exact h
theorem X_wide_Low.eq (a0 : Nat → Int) (K : EV → Heap → Prop) : evFn E_wide_Low Tryd.f140 false [.arr .u64 6 a0] [] K = wide_Low a0 (fun y0 => K (EV.int IntKind.i64 y0) []) := by
  have h : evFnQ E_wide_Low Tryd.f140 false [.arr .u64 6 a0] [] K = wide_Low.d a0 (fun y0 => K (EV.int IntKind.i64 y0) []) := by kernel_rfl
  rw [wide_Low.is]; exact (evFnQ_eq _ _ _ _ _ _).symm.trans h
theorem X_wide_Low.ok : SoundE Tryd.prog gl 140 e_wide_Low := by
  refine fnOK (E := E_wide_Low) (fn := Tryd.f140) rfl tys_ok rfl (show AllL _ [(144, e_word_Low)] from ⟨X_word_Low.ok, trivial⟩) mixed (by kernel_rfl) (by kernel_rfl) (by kernel_rfl) 1 (by kernel_rfl) false ⟨wide_Low.l2X.ok, trivial⟩ ?_
  intro args H
  by_cases hx : ∃ (a0 : Nat → Int), args = [.arr .u64 6 a0] ∧ H = []
  · obtain ⟨a0, rfl, rfl⟩ := hx
    right; intro K
    exact iff_of_eq (X_wide_Low.eq a0 K).symm
  · left; intro K h
    simp only [e_wide_Low] at h
    split at h
    · exact hx ⟨_, rfl, rfl⟩
    · exact h
noncomputable def e_wide_Right : Entry := ⟨[none, none], false, fun args H K => match args, H with
  | [.arr .u64 6 a0, .int .i64 a1], [] => wide_Right a0 a1 (fun y0 y1 => K (EV.tuple [EV.arr IntKind.u64 6 y0, EV.bool y1]) [])
  | _, _ => False⟩
noncomputable def E_wide_Right : Env := ⟨look tys, look [(114, e_wide_count), (140, e_wide_Low)], look [(5, wide_Right.l5.entry)], gl, lookL [], false⟩
theorem wide_Right.l5X.stepEq (R : List EV → Heap → Prop) (K : Ex → List EV → Heap → Prop) (x0 : Bool) (x1 : Int) (x2 : Int) (x3 : Int) (x4 : Nat → Int) (x5 : Nat → Int) : loopStep (evCode E_wide_Right (loopAt Tryd.f109 0) { (LV.mk 48 [(0, 48)] 48 0 false) with nx := live (.loop (loopAt Tryd.f109 0)) (LV.mk 48 [(0, 48)] 48 0 false) }) (live (.loop (loopAt Tryd.f109 0)) (LV.mk 48 [(0, 48)] 48 0 false)) (LV.mk 48 [(0, 48)] 48 0 false) 0 60 R [EV.ptr 0 [], EV.ptr 1 [], EV.bool x0, EV.int IntKind.i64 x1, EV.int IntKind.u64 x2, EV.int IntKind.i64 x3] [some (EV.arr IntKind.u64 6 x4), some (EV.arr IntKind.u64 6 x5)] K = wide_Right.l5.step (fun x0 x1 x2 x3 x4 x5 => R [EV.ptr 0 [], EV.ptr 1 [], EV.bool x0, EV.int IntKind.i64 x1, EV.int IntKind.u64 x2, EV.int IntKind.i64 x3] [some (EV.arr IntKind.u64 6 x4), some (EV.arr IntKind.u64 6 x5)]) (fun y0 y1 => K (.exit 0) [EV.ptr 0 [], EV.bool y0] [some (EV.arr IntKind.u64 6 y1)]) x0 x1 x2 x3 x4 x5 := (stepQ_eq _ _ _ _ _ _ _ _ _ _ _).symm.trans (by kernel_rfl)
theorem wide_Right.l5X.eq (K : Ex → List EV → Heap → Prop) : ∀ (n : Nat) (x0 : Bool) (x1 : Int) (x2 : Int) (x3 : Int) (x4 : Nat → Int) (x5 : Nat → Int), loopE E_wide_Right (loopAt Tryd.f109 0) (LV.mk 48 [(0, 48)] 48 0 false) 0 60 K n [EV.ptr 0 [], EV.ptr 1 [], EV.bool x0, EV.int IntKind.i64 x1, EV.int IntKind.u64 x2, EV.int IntKind.i64 x3] [some (EV.arr IntKind.u64 6 x4), some (EV.arr IntKind.u64 6 x5)] = wide_Right.l5 (fun y0 y1 => K (.exit 0) [EV.ptr 0 [], EV.bool y0] [some (EV.arr IntKind.u64 6 y1)]) n x0 x1 x2 x3 x4 x5
  | 0, _, _, _, _, _, _ => rfl
  | n + 1, x0, x1, x2, x3, x4, x5 => by
    have ih : (fun (x0 : Bool) (x1 : Int) (x2 : Int) (x3 : Int) (x4 : Nat → Int) (x5 : Nat → Int) => loopE E_wide_Right (loopAt Tryd.f109 0) (LV.mk 48 [(0, 48)] 48 0 false) 0 60 K n [EV.ptr 0 [], EV.ptr 1 [], EV.bool x0, EV.int IntKind.i64 x1, EV.int IntKind.u64 x2, EV.int IntKind.i64 x3] [some (EV.arr IntKind.u64 6 x4), some (EV.arr IntKind.u64 6 x5)]) = wide_Right.l5 (fun y0 y1 => K (.exit 0) [EV.ptr 0 [], EV.bool y0] [some (EV.arr IntKind.u64 6 y1)]) n := by funext x0 x1 x2 x3 x4 x5; exact wide_Right.l5X.eq K n x0 x1 x2 x3 x4 x5
    show loopStep _ _ _ _ _ (loopE E_wide_Right (loopAt Tryd.f109 0) (LV.mk 48 [(0, 48)] 48 0 false) 0 60 K n) [EV.ptr 0 [], EV.ptr 1 [], EV.bool x0, EV.int IntKind.i64 x1, EV.int IntKind.u64 x2, EV.int IntKind.i64 x3] [some (EV.arr IntKind.u64 6 x4), some (EV.arr IntKind.u64 6 x5)] K = wide_Right.l5.step (wide_Right.l5 (fun y0 y1 => K (.exit 0) [EV.ptr 0 [], EV.bool y0] [some (EV.arr IntKind.u64 6 y1)]) n) (fun y0 y1 => K (.exit 0) [EV.ptr 0 [], EV.bool y0] [some (EV.arr IntKind.u64 6 y1)]) x0 x1 x2 x3 x4 x5
    rw [← ih]
    exact wide_Right.l5X.stepEq _ K x0 x1 x2 x3 x4 x5
theorem wide_Right.l5X.ok : LoopEq E_wide_Right (loopAt Tryd.f109 0) := by
  intro L hL vs H
  have h1 : E_wide_Right.lp (firstRegion (loopAt Tryd.f109 0)) = some wide_Right.l5.entry := by kernel_rfl
  have h2 : L = wide_Right.l5.entry := Option.some.inj (hL.symm.trans h1)
  subst h2
  by_cases hx : ∃ (x0 : Bool) (x1 : Int) (x2 : Int) (x3 : Int) (x4 : Nat → Int) (x5 : Nat → Int), vs = [EV.ptr 0 [], EV.ptr 1 [], EV.bool x0, EV.int IntKind.i64 x1, EV.int IntKind.u64 x2, EV.int IntKind.i64 x3] ∧ H = [some (EV.arr IntKind.u64 6 x4), some (EV.arr IntKind.u64 6 x5)]
  · obtain ⟨x0, x1, x2, x3, x4, x5, rfl, rfl⟩ := hx
    right; intro K
    exact exists_congr fun n => iff_of_eq (wide_Right.l5X.eq K n x0 x1 x2 x3 x4 x5).symm
  · left; intro K h
    simp only [wide_Right.l5.entry] at h
    split at h
    · exact hx ⟨_, _, _, _, _, _, rfl, rfl⟩
    · exact h
theorem X_wide_Right.eq (a0 : Nat → Int) (a1 : Int) (K : EV → Heap → Prop) : evFn E_wide_Right Tryd.f109 false [.arr .u64 6 a0, .int .i64 a1] [] K = wide_Right a0 a1 (fun y0 y1 => K (EV.tuple [EV.arr IntKind.u64 6 y0, EV.bool y1]) []) := by
  have h : evFnQ E_wide_Right Tryd.f109 false [.arr .u64 6 a0, .int .i64 a1] [] K = wide_Right.d a0 a1 (fun y0 y1 => K (EV.tuple [EV.arr IntKind.u64 6 y0, EV.bool y1]) []) := by kernel_rfl
  rw [wide_Right.is]; exact (evFnQ_eq _ _ _ _ _ _).symm.trans h
theorem X_wide_Right.ok : SoundE Tryd.prog gl 109 e_wide_Right := by
  refine fnOK (E := E_wide_Right) (fn := Tryd.f109) rfl tys_ok rfl (show AllL _ [(114, e_wide_count), (140, e_wide_Low)] from ⟨X_wide_count.ok, X_wide_Low.ok, trivial⟩) mixed (by kernel_rfl) (by kernel_rfl) (by kernel_rfl) 1 (by kernel_rfl) false ⟨wide_Right.l5X.ok, trivial⟩ ?_
  intro args H
  by_cases hx : ∃ (a0 : Nat → Int) (a1 : Int), args = [.arr .u64 6 a0, .int .i64 a1] ∧ H = []
  · obtain ⟨a0, a1, rfl, rfl⟩ := hx
    right; intro K
    exact iff_of_eq (X_wide_Right.eq a0 a1 K).symm
  · left; intro K h
    simp only [e_wide_Right] at h
    split at h
    · exact hx ⟨_, _, rfl, rfl⟩
    · exact h
noncomputable def e_kind_fields : Entry := ⟨[none, none], false, fun args H K => match args, H with
  | [.int .u8 a0, .agg [.int .u64 a1_0, .int .u64 a1_1]], [] => kind_fields a0 a1_0 a1_1 (fun y0 y1 y2 => K (EV.tuple [EV.bool y0, EV.int IntKind.i64 y1, EV.arr IntKind.u64 6 y2]) [])
  | _, _ => False⟩
noncomputable def E_kind_fields : Env := ⟨look tys, look [(41, e_wide_Bit), (42, e_wide_OfBits), (43, e_shape_Width), (55, e_shape_Precision), (67, e_wide_And), (68, e_wide_Mask), (109, e_wide_Right)], look [], gl, lookL [], false⟩
theorem X_kind_fields.eq (a0 : Int) (a1_0 : Int) (a1_1 : Int) (K : EV → Heap → Prop) : evFn E_kind_fields Tryd.f56 false [.int .u8 a0, .agg [.int .u64 a1_0, .int .u64 a1_1]] [] K = kind_fields a0 a1_0 a1_1 (fun y0 y1 y2 => K (EV.tuple [EV.bool y0, EV.int IntKind.i64 y1, EV.arr IntKind.u64 6 y2]) []) := by
  have h : evFnQ E_kind_fields Tryd.f56 false [.int .u8 a0, .agg [.int .u64 a1_0, .int .u64 a1_1]] [] K = kind_fields.d a0 a1_0 a1_1 (fun y0 y1 y2 => K (EV.tuple [EV.bool y0, EV.int IntKind.i64 y1, EV.arr IntKind.u64 6 y2]) []) := by kernel_rfl
  rw [kind_fields.is]; exact (evFnQ_eq _ _ _ _ _ _).symm.trans h
theorem X_kind_fields.ok : SoundE Tryd.prog gl 56 e_kind_fields := by
  refine fnOK (E := E_kind_fields) (fn := Tryd.f56) rfl tys_ok rfl (show AllL _ [(41, e_wide_Bit), (42, e_wide_OfBits), (43, e_shape_Width), (55, e_shape_Precision), (67, e_wide_And), (68, e_wide_Mask), (109, e_wide_Right)] from ⟨X_wide_Bit.ok, X_wide_OfBits.ok, X_shape_Width.ok, X_shape_Precision.ok, X_wide_And.ok, X_wide_Mask.ok, X_wide_Right.ok, trivial⟩) mixed (by kernel_rfl) (by kernel_rfl) (by kernel_rfl) 0 (by kernel_rfl) false trivial ?_
  intro args H
  by_cases hx : ∃ (a0 : Int) (a1_0 : Int) (a1_1 : Int), args = [.int .u8 a0, .agg [.int .u64 a1_0, .int .u64 a1_1]] ∧ H = []
  · obtain ⟨a0, a1_0, a1_1, rfl, rfl⟩ := hx
    right; intro K
    exact iff_of_eq (X_kind_fields.eq a0 a1_0 a1_1 K).symm
  · left; intro K h
    simp only [e_kind_fields] at h
    split at h
    · exact hx ⟨_, _, _, rfl, rfl⟩
    · exact h
noncomputable def e_shape_Emax : Entry := ⟨[none], false, fun args H K => match args, H with
  | [.int .u8 a0], [] => shape_Emax a0 (fun y0 => K (EV.int IntKind.i64 y0) [])
  | _, _ => False⟩
noncomputable def E_shape_Emax : Env := ⟨look tys, look [(102, e_shape_numbers)], look [], gl, lookL [], false⟩
theorem X_shape_Emax.eq (a0 : Int) (K : EV → Heap → Prop) : evFn E_shape_Emax Tryd.f66 false [.int .u8 a0] [] K = shape_Emax a0 (fun y0 => K (EV.int IntKind.i64 y0) []) := by
  have h : evFnQ E_shape_Emax Tryd.f66 false [.int .u8 a0] [] K = shape_Emax.d a0 (fun y0 => K (EV.int IntKind.i64 y0) []) := by kernel_rfl
  rw [shape_Emax.is]; exact (evFnQ_eq _ _ _ _ _ _).symm.trans h
theorem X_shape_Emax.ok : SoundE Tryd.prog gl 66 e_shape_Emax := by
  refine fnOK (E := E_shape_Emax) (fn := Tryd.f66) rfl tys_ok rfl (show AllL _ [(102, e_shape_numbers)] from ⟨X_shape_numbers.ok, trivial⟩) mixed (by kernel_rfl) (by kernel_rfl) (by kernel_rfl) 0 (by kernel_rfl) false trivial ?_
  intro args H
  by_cases hx : ∃ (a0 : Int), args = [.int .u8 a0] ∧ H = []
  · obtain ⟨a0, rfl, rfl⟩ := hx
    right; intro K
    exact iff_of_eq (X_shape_Emax.eq a0 K).symm
  · left; intro K h
    simp only [e_shape_Emax] at h
    split at h
    · exact hx ⟨_, rfl, rfl⟩
    · exact h
noncomputable def e_kind_class : Entry := ⟨[none, none], false, fun args H K => match args, H with
  | [.int .u8 a0, .agg [.int .u64 a1_0, .int .u64 a1_1]], [] => kind_class a0 a1_0 a1_1 (fun y0 => K (EV.int IntKind.u8 y0) [])
  | _, _ => False⟩
noncomputable def E_kind_class : Env := ⟨look tys, look [(41, e_wide_Bit), (55, e_shape_Precision), (56, e_kind_fields), (66, e_shape_Emax)], look [], gl, lookL [], false⟩
theorem X_kind_class.eq (a0 : Int) (a1_0 : Int) (a1_1 : Int) (K : EV → Heap → Prop) : evFn E_kind_class Tryd.f47 false [.int .u8 a0, .agg [.int .u64 a1_0, .int .u64 a1_1]] [] K = kind_class a0 a1_0 a1_1 (fun y0 => K (EV.int IntKind.u8 y0) []) := by
  have h : evFnQ E_kind_class Tryd.f47 false [.int .u8 a0, .agg [.int .u64 a1_0, .int .u64 a1_1]] [] K = kind_class.d a0 a1_0 a1_1 (fun y0 => K (EV.int IntKind.u8 y0) []) := by kernel_rfl
  rw [kind_class.is]; exact (evFnQ_eq _ _ _ _ _ _).symm.trans h
theorem X_kind_class.ok : SoundE Tryd.prog gl 47 e_kind_class := by
  refine fnOK (E := E_kind_class) (fn := Tryd.f47) rfl tys_ok rfl (show AllL _ [(41, e_wide_Bit), (55, e_shape_Precision), (56, e_kind_fields), (66, e_shape_Emax)] from ⟨X_wide_Bit.ok, X_shape_Precision.ok, X_kind_fields.ok, X_shape_Emax.ok, trivial⟩) mixed (by kernel_rfl) (by kernel_rfl) (by kernel_rfl) 0 (by kernel_rfl) false trivial ?_
  intro args H
  by_cases hx : ∃ (a0 : Int) (a1_0 : Int) (a1_1 : Int), args = [.int .u8 a0, .agg [.int .u64 a1_0, .int .u64 a1_1]] ∧ H = []
  · obtain ⟨a0, a1_0, a1_1, rfl, rfl⟩ := hx
    right; intro K
    exact iff_of_eq (X_kind_class.eq a0 a1_0 a1_1 K).symm
  · left; intro K h
    simp only [e_kind_class] at h
    split at h
    · exact hx ⟨_, _, _, rfl, rfl⟩
    · exact h
noncomputable def e_kind_Next : Entry := ⟨[none, none], false, fun args H K => match args, H with
  | [.int .u8 a0, .agg [.int .u64 a1_0, .int .u64 a1_1]], [] => kind_Next a0 a1_0 a1_1 (fun y0 y1 y2 => K (EV.tuple [EV.agg [EV.int IntKind.u64 y0, EV.int IntKind.u64 y1], EV.int IntKind.i64 y2]) [])
  | _, _ => False⟩
noncomputable def E_kind_Next : Env := ⟨look tys, look [(35, e_shape_Least), (40, e_shape_Fits), (47, e_kind_class)], look [], gl, lookL [], false⟩
theorem X_kind_Next.eq (a0 : Int) (a1_0 : Int) (a1_1 : Int) (K : EV → Heap → Prop) : evFn E_kind_Next Tryd.f14 false [.int .u8 a0, .agg [.int .u64 a1_0, .int .u64 a1_1]] [] K = kind_Next a0 a1_0 a1_1 (fun y0 y1 y2 => K (EV.tuple [EV.agg [EV.int IntKind.u64 y0, EV.int IntKind.u64 y1], EV.int IntKind.i64 y2]) []) := by
  have h : evFnQ E_kind_Next Tryd.f14 false [.int .u8 a0, .agg [.int .u64 a1_0, .int .u64 a1_1]] [] K = kind_Next.d a0 a1_0 a1_1 (fun y0 y1 y2 => K (EV.tuple [EV.agg [EV.int IntKind.u64 y0, EV.int IntKind.u64 y1], EV.int IntKind.i64 y2]) []) := by kernel_rfl
  rw [kind_Next.is]; exact (evFnQ_eq _ _ _ _ _ _).symm.trans h
theorem X_kind_Next.ok : SoundE Tryd.prog gl 14 e_kind_Next := by
  refine fnOK (E := E_kind_Next) (fn := Tryd.f14) rfl tys_ok rfl (show AllL _ [(35, e_shape_Least), (40, e_shape_Fits), (47, e_kind_class)] from ⟨X_shape_Least.ok, X_shape_Fits.ok, X_kind_class.ok, trivial⟩) mixed (by kernel_rfl) (by kernel_rfl) (by kernel_rfl) 0 (by kernel_rfl) false trivial ?_
  intro args H
  by_cases hx : ∃ (a0 : Int) (a1_0 : Int) (a1_1 : Int), args = [.int .u8 a0, .agg [.int .u64 a1_0, .int .u64 a1_1]] ∧ H = []
  · obtain ⟨a0, a1_0, a1_1, rfl, rfl⟩ := hx
    right; intro K
    exact iff_of_eq (X_kind_Next.eq a0 a1_0 a1_1 K).symm
  · left; intro K h
    simp only [e_kind_Next] at h
    split at h
    · exact hx ⟨_, _, _, rfl, rfl⟩
    · exact h
noncomputable def e_kind_Class : Entry := ⟨[none, none], false, fun args H K => match args, H with
  | [.int .u8 a0, .agg [.int .u64 a1_0, .int .u64 a1_1]], [] => kind_Class a0 a1_0 a1_1 (fun y0 y1 => K (EV.tuple [EV.int IntKind.u8 y0, EV.int IntKind.i64 y1]) [])
  | _, _ => False⟩
noncomputable def E_kind_Class : Env := ⟨look tys, look [(40, e_shape_Fits), (47, e_kind_class)], look [], gl, lookL [], false⟩
theorem X_kind_Class.eq (a0 : Int) (a1_0 : Int) (a1_1 : Int) (K : EV → Heap → Prop) : evFn E_kind_Class Tryd.f18 false [.int .u8 a0, .agg [.int .u64 a1_0, .int .u64 a1_1]] [] K = kind_Class a0 a1_0 a1_1 (fun y0 y1 => K (EV.tuple [EV.int IntKind.u8 y0, EV.int IntKind.i64 y1]) []) := by
  have h : evFnQ E_kind_Class Tryd.f18 false [.int .u8 a0, .agg [.int .u64 a1_0, .int .u64 a1_1]] [] K = kind_Class.d a0 a1_0 a1_1 (fun y0 y1 => K (EV.tuple [EV.int IntKind.u8 y0, EV.int IntKind.i64 y1]) []) := by kernel_rfl
  rw [kind_Class.is]; exact (evFnQ_eq _ _ _ _ _ _).symm.trans h
theorem X_kind_Class.ok : SoundE Tryd.prog gl 18 e_kind_Class := by
  refine fnOK (E := E_kind_Class) (fn := Tryd.f18) rfl tys_ok rfl (show AllL _ [(40, e_shape_Fits), (47, e_kind_class)] from ⟨X_shape_Fits.ok, X_kind_class.ok, trivial⟩) mixed (by kernel_rfl) (by kernel_rfl) (by kernel_rfl) 0 (by kernel_rfl) false trivial ?_
  intro args H
  by_cases hx : ∃ (a0 : Int) (a1_0 : Int) (a1_1 : Int), args = [.int .u8 a0, .agg [.int .u64 a1_0, .int .u64 a1_1]] ∧ H = []
  · obtain ⟨a0, a1_0, a1_1, rfl, rfl⟩ := hx
    right; intro K
    exact iff_of_eq (X_kind_Class.eq a0 a1_0 a1_1 K).symm
  · left; intro K h
    simp only [e_kind_Class] at h
    split at h
    · exact hx ⟨_, _, _, rfl, rfl⟩
    · exact h
noncomputable def e_shape_Emin : Entry := ⟨[none], false, fun args H K => match args, H with
  | [.int .u8 a0], [] => shape_Emin a0 (fun y0 => K (EV.int IntKind.i64 y0) [])
  | _, _ => False⟩
noncomputable def E_shape_Emin : Env := ⟨look tys, look [(63, e_shape_Check), (66, e_shape_Emax)], look [], gl, lookL [], false⟩
theorem X_shape_Emin.eq (a0 : Int) (K : EV → Heap → Prop) : evFn E_shape_Emin Tryd.f57 false [.int .u8 a0] [] K = shape_Emin a0 (fun y0 => K (EV.int IntKind.i64 y0) []) := by
  have h : evFnQ E_shape_Emin Tryd.f57 false [.int .u8 a0] [] K = shape_Emin.d a0 (fun y0 => K (EV.int IntKind.i64 y0) []) := by kernel_rfl
  rw [shape_Emin.is]; exact (evFnQ_eq _ _ _ _ _ _).symm.trans h
theorem X_shape_Emin.ok : SoundE Tryd.prog gl 57 e_shape_Emin := by
  refine fnOK (E := E_shape_Emin) (fn := Tryd.f57) rfl tys_ok rfl (show AllL _ [(63, e_shape_Check), (66, e_shape_Emax)] from ⟨X_shape_Check.ok, X_shape_Emax.ok, trivial⟩) mixed (by kernel_rfl) (by kernel_rfl) (by kernel_rfl) 0 (by kernel_rfl) false trivial ?_
  intro args H
  by_cases hx : ∃ (a0 : Int), args = [.int .u8 a0] ∧ H = []
  · obtain ⟨a0, rfl, rfl⟩ := hx
    right; intro K
    exact iff_of_eq (X_shape_Emin.eq a0 K).symm
  · left; intro K h
    simp only [e_shape_Emin] at h
    split at h
    · exact hx ⟨_, rfl, rfl⟩
    · exact h
noncomputable def e_kind_Unpack : Entry := ⟨[none, none], false, fun args H K => match args, H with
  | [.int .u8 a0, .agg [.int .u64 a1_0, .int .u64 a1_1]], [] => kind_Unpack a0 a1_0 a1_1 (fun y0 y1 y2 y3 y4 => K (EV.tuple [EV.agg [EV.int IntKind.u8 y0, EV.arr IntKind.u64 6 y1, EV.int IntKind.i64 y2, EV.arr IntKind.u64 6 y3], EV.int IntKind.i64 y4]) [])
  | _, _ => False⟩
noncomputable def E_kind_Unpack : Env := ⟨look tys, look [(40, e_shape_Fits), (47, e_kind_class), (55, e_shape_Precision), (56, e_kind_fields), (57, e_shape_Emin)], look [], gl, lookL [], false⟩
theorem X_kind_Unpack.eq (a0 : Int) (a1_0 : Int) (a1_1 : Int) (K : EV → Heap → Prop) : evFn E_kind_Unpack Tryd.f19 false [.int .u8 a0, .agg [.int .u64 a1_0, .int .u64 a1_1]] [] K = kind_Unpack a0 a1_0 a1_1 (fun y0 y1 y2 y3 y4 => K (EV.tuple [EV.agg [EV.int IntKind.u8 y0, EV.arr IntKind.u64 6 y1, EV.int IntKind.i64 y2, EV.arr IntKind.u64 6 y3], EV.int IntKind.i64 y4]) []) := by
  have h : evFnQ E_kind_Unpack Tryd.f19 false [.int .u8 a0, .agg [.int .u64 a1_0, .int .u64 a1_1]] [] K = kind_Unpack.d a0 a1_0 a1_1 (fun y0 y1 y2 y3 y4 => K (EV.tuple [EV.agg [EV.int IntKind.u8 y0, EV.arr IntKind.u64 6 y1, EV.int IntKind.i64 y2, EV.arr IntKind.u64 6 y3], EV.int IntKind.i64 y4]) []) := by kernel_rfl
  rw [kind_Unpack.is]; exact (evFnQ_eq _ _ _ _ _ _).symm.trans h
theorem X_kind_Unpack.ok : SoundE Tryd.prog gl 19 e_kind_Unpack := by
  refine fnOK (E := E_kind_Unpack) (fn := Tryd.f19) rfl tys_ok rfl (show AllL _ [(40, e_shape_Fits), (47, e_kind_class), (55, e_shape_Precision), (56, e_kind_fields), (57, e_shape_Emin)] from ⟨X_shape_Fits.ok, X_kind_class.ok, X_shape_Precision.ok, X_kind_fields.ok, X_shape_Emin.ok, trivial⟩) mixed (by kernel_rfl) (by kernel_rfl) (by kernel_rfl) 0 (by kernel_rfl) false trivial ?_
  intro args H
  by_cases hx : ∃ (a0 : Int) (a1_0 : Int) (a1_1 : Int), args = [.int .u8 a0, .agg [.int .u64 a1_0, .int .u64 a1_1]] ∧ H = []
  · obtain ⟨a0, a1_0, a1_1, rfl, rfl⟩ := hx
    right; intro K
    exact iff_of_eq (X_kind_Unpack.eq a0 a1_0 a1_1 K).symm
  · left; intro K h
    simp only [e_kind_Unpack] at h
    split at h
    · exact hx ⟨_, _, _, rfl, rfl⟩
    · exact h
noncomputable def e_law08_alive : Entry := ⟨[], false, fun args H K => match args, H with
  | [], [] => law08_alive  (fun y0 => K (EV.bool y0) [])
  | _, _ => False⟩
noncomputable def E_law08_alive : Env := ⟨look tys, look [(18, e_kind_Class), (19, e_kind_Unpack)], look [], gl, lookL [], false⟩
theorem X_law08_alive.eq (K : EV → Heap → Prop) : evFn E_law08_alive Tryd.f16 false [] [] K = law08_alive  (fun y0 => K (EV.bool y0) []) := by
  have h : evFnQ E_law08_alive Tryd.f16 false [] [] K = law08_alive.d  (fun y0 => K (EV.bool y0) []) := by kernel_rfl
  rw [law08_alive.is]; exact (evFnQ_eq _ _ _ _ _ _).symm.trans h
theorem X_law08_alive.ok : SoundE Tryd.prog gl 16 e_law08_alive := by
  refine fnOK (E := E_law08_alive) (fn := Tryd.f16) rfl tys_ok rfl (show AllL _ [(18, e_kind_Class), (19, e_kind_Unpack)] from ⟨X_kind_Class.ok, X_kind_Unpack.ok, trivial⟩) mixed (by kernel_rfl) (by kernel_rfl) (by kernel_rfl) 0 (by kernel_rfl) false trivial ?_
  intro args H
  by_cases hx : args = [] ∧ H = []
  · obtain ⟨rfl, rfl⟩ := hx
    right; intro K
    exact iff_of_eq (X_law08_alive.eq  K).symm
  · left; intro K h
    simp only [e_law08_alive] at h
    split at h
    · exact hx ⟨rfl, rfl⟩
    · exact h
noncomputable def e_exact_within : Entry := ⟨[none], false, fun args H K => match args, H with
  | [.int .i64 a0], [] => exact_within a0 (fun y0 => K (EV.bool y0) [])
  | _, _ => False⟩
noncomputable def E_exact_within : Env := ⟨look tys, look [], look [], gl, lookL [], false⟩
theorem X_exact_within.eq (a0 : Int) (K : EV → Heap → Prop) : evFn E_exact_within Tryd.f98 false [.int .i64 a0] [] K = exact_within a0 (fun y0 => K (EV.bool y0) []) := by
  have h : evFnQ E_exact_within Tryd.f98 false [.int .i64 a0] [] K = exact_within.d a0 (fun y0 => K (EV.bool y0) []) := by kernel_rfl
  rw [exact_within.is]; exact (evFnQ_eq _ _ _ _ _ _).symm.trans h
theorem X_exact_within.ok : SoundE Tryd.prog gl 98 e_exact_within := by
  refine fnOK (E := E_exact_within) (fn := Tryd.f98) rfl tys_ok rfl (show AllL _ [] from trivial) mixed (by kernel_rfl) (by kernel_rfl) (by kernel_rfl) 0 (by kernel_rfl) false trivial ?_
  intro args H
  by_cases hx : ∃ (a0 : Int), args = [.int .i64 a0] ∧ H = []
  · obtain ⟨a0, rfl, rfl⟩ := hx
    right; intro K
    exact iff_of_eq (X_exact_within.eq a0 K).symm
  · left; intro K h
    simp only [e_exact_within] at h
    split at h
    · exact hx ⟨_, rfl, rfl⟩
    · exact h
noncomputable def e_nat_Check : Entry := ⟨[none], false, fun args H K => match args, H with
  | [.str a0], [] => nat_Check a0 (fun y0 => K (EV.int IntKind.i64 y0) [])
  | _, _ => False⟩
noncomputable def E_nat_Check : Env := ⟨look tys, look [], look [], gl, lookL [], false⟩
theorem X_nat_Check.eq (a0 : List UInt8) (K : EV → Heap → Prop) : evFn E_nat_Check Tryd.f121 false [.str a0] [] K = nat_Check a0 (fun y0 => K (EV.int IntKind.i64 y0) []) := by
  have h : evFnQ E_nat_Check Tryd.f121 false [.str a0] [] K = nat_Check.d a0 (fun y0 => K (EV.int IntKind.i64 y0) []) := by kernel_rfl
  rw [nat_Check.is]; exact (evFnQ_eq _ _ _ _ _ _).symm.trans h
theorem X_nat_Check.ok : SoundE Tryd.prog gl 121 e_nat_Check := by
  refine fnOK (E := E_nat_Check) (fn := Tryd.f121) rfl tys_ok rfl (show AllL _ [] from trivial) mixed (by kernel_rfl) (by kernel_rfl) (by kernel_rfl) 0 (by kernel_rfl) false trivial ?_
  intro args H
  by_cases hx : ∃ (a0 : List UInt8), args = [.str a0] ∧ H = []
  · obtain ⟨a0, rfl, rfl⟩ := hx
    right; intro K
    exact iff_of_eq (X_nat_Check.eq a0 K).symm
  · left; intro K h
    simp only [e_nat_Check] at h
    split at h
    · exact hx ⟨_, rfl, rfl⟩
    · exact h
noncomputable def e_exact_null : Entry := ⟨[], false, fun args H K => match args, H with
  | [], [] => exact_null  (fun y0 y1 y2 y3 => K (EV.agg [EV.bool y0, EV.str y1, EV.str y2, EV.int IntKind.i64 y3]) [])
  | _, _ => False⟩
noncomputable def E_exact_null : Env := ⟨look tys, look [], look [], gl, lookL [], false⟩
theorem X_exact_null.eq (K : EV → Heap → Prop) : evFn E_exact_null Tryd.f122 false [] [] K = exact_null  (fun y0 y1 y2 y3 => K (EV.agg [EV.bool y0, EV.str y1, EV.str y2, EV.int IntKind.i64 y3]) []) := by
  have h : evFnQ E_exact_null Tryd.f122 false [] [] K = exact_null.d  (fun y0 y1 y2 y3 => K (EV.agg [EV.bool y0, EV.str y1, EV.str y2, EV.int IntKind.i64 y3]) []) := by kernel_rfl
  rw [exact_null.is]; exact (evFnQ_eq _ _ _ _ _ _).symm.trans h
theorem X_exact_null.ok : SoundE Tryd.prog gl 122 e_exact_null := by
  refine fnOK (E := E_exact_null) (fn := Tryd.f122) rfl tys_ok rfl (show AllL _ [] from trivial) mixed (by kernel_rfl) (by kernel_rfl) (by kernel_rfl) 0 (by kernel_rfl) false trivial ?_
  intro args H
  by_cases hx : args = [] ∧ H = []
  · obtain ⟨rfl, rfl⟩ := hx
    right; intro K
    exact iff_of_eq (X_exact_null.eq  K).symm
  · left; intro K h
    simp only [e_exact_null] at h
    split at h
    · exact hx ⟨rfl, rfl⟩
    · exact h
noncomputable def e_nat_Low : Entry := ⟨[none], false, fun args H K => match args, H with
  | [.str a0], [] => nat_Low a0 (fun y0 => K (EV.int IntKind.i64 y0) [])
  | _, _ => False⟩
noncomputable def E_nat_Low : Env := ⟨look tys, look [(121, e_nat_Check), (144, e_word_Low)], look [(4, nat_Low.l4.entry)], gl, lookL [], false⟩
theorem nat_Low.l4X.stepEq (R : List EV → Heap → Prop) (K : Ex → List EV → Heap → Prop) (x0 : List UInt8) (x1 : Int) : loopStep (evCode E_nat_Low (loopAt Tryd.f123 0) { (LV.mk 0 [(0, 0)] 4 0 false) with nx := live (.loop (loopAt Tryd.f123 0)) (LV.mk 0 [(0, 0)] 4 0 false) }) (live (.loop (loopAt Tryd.f123 0)) (LV.mk 0 [(0, 0)] 4 0 false)) (LV.mk 0 [(0, 0)] 4 0 false) 0 30 R [EV.str x0, EV.int IntKind.i64 x1] [] K = nat_Low.l4.step (fun x0 x1 => R [EV.str x0, EV.int IntKind.i64 x1] []) (fun y0 => K .ret [EV.int IntKind.i64 y0] []) (K (.exit 0) [] []) x0 x1 := (stepQ_eq _ _ _ _ _ _ _ _ _ _ _).symm.trans (by kernel_rfl)
theorem nat_Low.l4X.eq (K : Ex → List EV → Heap → Prop) : ∀ (n : Nat) (x0 : List UInt8) (x1 : Int), loopE E_nat_Low (loopAt Tryd.f123 0) (LV.mk 0 [(0, 0)] 4 0 false) 0 30 K n [EV.str x0, EV.int IntKind.i64 x1] [] = nat_Low.l4 (fun y0 => K .ret [EV.int IntKind.i64 y0] []) (K (.exit 0) [] []) n x0 x1
  | 0, _, _ => rfl
  | n + 1, x0, x1 => by
    have ih : (fun (x0 : List UInt8) (x1 : Int) => loopE E_nat_Low (loopAt Tryd.f123 0) (LV.mk 0 [(0, 0)] 4 0 false) 0 30 K n [EV.str x0, EV.int IntKind.i64 x1] []) = nat_Low.l4 (fun y0 => K .ret [EV.int IntKind.i64 y0] []) (K (.exit 0) [] []) n := by funext x0 x1; exact nat_Low.l4X.eq K n x0 x1
    show loopStep _ _ _ _ _ (loopE E_nat_Low (loopAt Tryd.f123 0) (LV.mk 0 [(0, 0)] 4 0 false) 0 30 K n) [EV.str x0, EV.int IntKind.i64 x1] [] K = nat_Low.l4.step (nat_Low.l4 (fun y0 => K .ret [EV.int IntKind.i64 y0] []) (K (.exit 0) [] []) n) (fun y0 => K .ret [EV.int IntKind.i64 y0] []) (K (.exit 0) [] []) x0 x1
    rw [← ih]
    exact nat_Low.l4X.stepEq _ K x0 x1
theorem nat_Low.l4X.ok : LoopEq E_nat_Low (loopAt Tryd.f123 0) := by
  intro L hL vs H
  have h1 : E_nat_Low.lp (firstRegion (loopAt Tryd.f123 0)) = some nat_Low.l4.entry := by kernel_rfl
  have h2 : L = nat_Low.l4.entry := Option.some.inj (hL.symm.trans h1)
  subst h2
  by_cases hx : ∃ (x0 : List UInt8) (x1 : Int), vs = [EV.str x0, EV.int IntKind.i64 x1] ∧ H = []
  · obtain ⟨x0, x1, rfl, rfl⟩ := hx
    right; intro K
    exact exists_congr fun n => iff_of_eq (nat_Low.l4X.eq K n x0 x1).symm
  · left; intro K h
    simp only [nat_Low.l4.entry] at h
    split at h
    · exact hx ⟨_, _, rfl, rfl⟩
    · exact h
theorem X_nat_Low.eq (a0 : List UInt8) (K : EV → Heap → Prop) : evFn E_nat_Low Tryd.f123 false [.str a0] [] K = nat_Low a0 (fun y0 => K (EV.int IntKind.i64 y0) []) := by
  have h : evFnQ E_nat_Low Tryd.f123 false [.str a0] [] K = nat_Low.d a0 (fun y0 => K (EV.int IntKind.i64 y0) []) := by kernel_rfl
  rw [nat_Low.is]; exact (evFnQ_eq _ _ _ _ _ _).symm.trans h
theorem X_nat_Low.ok : SoundE Tryd.prog gl 123 e_nat_Low := by
  refine fnOK (E := E_nat_Low) (fn := Tryd.f123) rfl tys_ok rfl (show AllL _ [(121, e_nat_Check), (144, e_word_Low)] from ⟨X_nat_Check.ok, X_word_Low.ok, trivial⟩) mixed (by kernel_rfl) (by kernel_rfl) (by kernel_rfl) 1 (by kernel_rfl) false ⟨nat_Low.l4X.ok, trivial⟩ ?_
  intro args H
  by_cases hx : ∃ (a0 : List UInt8), args = [.str a0] ∧ H = []
  · obtain ⟨a0, rfl, rfl⟩ := hx
    right; intro K
    exact iff_of_eq (X_nat_Low.eq a0 K).symm
  · left; intro K h
    simp only [e_nat_Low] at h
    split at h
    · exact hx ⟨_, rfl, rfl⟩
    · exact h
noncomputable def e_nat_cut_r : Entry := ⟨[none], true, fun args H K => match args, H with
  | [.rsI .u32 a0n a0], [] => nat_cut_r a0n a0 (fun y0 y1 => K (EV.rsI IntKind.u32 y0 y1) [])
  | _, _ => False⟩
noncomputable def e_nat_cut_o : Entry := ⟨[none], true, fun args H K => match args, H with
  | [.slice 0 0 a0l (some a0c) 1], [some (.arr .u32 a0n a0)] => nat_cut_o a0l a0c a0n a0 (fun y0 y1 y2 y3 => K (EV.slice 0 0 y0 (some y1) 1) [some (EV.arr IntKind.u32 y2 y3)])
  | _, _ => False⟩
noncomputable def e_nat_cut_n : Entry := ⟨[none], true, fun args H K => match args, H with
  | [.slice 0 0 a0l none 1], [some (.arr .u32 a0n a0)] => nat_cut_n a0l a0n a0 (fun y0 y1 y2 => K (EV.slice 0 0 y0 none 1) [some (EV.arr IntKind.u32 y1 y2)])
  | _, _ => False⟩
noncomputable def e_nat_cut : Entry := Entry.pick (fun args H => match args, H with | [.rsI .u32 a0n a0], [] => true | _, _ => false) e_nat_cut_r (Entry.pick (fun args H => match args, H with | [.slice 0 0 a0l (some a0c) 1], [some (.arr .u32 a0n a0)] => true | _, _ => false) e_nat_cut_o (e_nat_cut_n))
noncomputable def E_nat_cut_r : Env := ⟨look tys, look [], look [(1, nat_cut_r.l1.entry)], gl, lookL [], false⟩
theorem nat_cut_r.l1X.stepEq (R : List EV → Heap → Prop) (K : Ex → List EV → Heap → Prop) (x0 : Nat) (x1 : Nat → Int) : loopStep (evCode E_nat_cut_r (loopAt Tryd.f147 0) { (LV.mk 1 [(0, 1)] 4 0 false) with nx := live (.loop (loopAt Tryd.f147 0)) (LV.mk 1 [(0, 1)] 4 0 false) }) (live (.loop (loopAt Tryd.f147 0)) (LV.mk 1 [(0, 1)] 4 0 false)) (LV.mk 1 [(0, 1)] 4 0 false) 0 21 R [EV.rsI IntKind.u32 x0 x1] [] K = nat_cut_r.l1.step (fun x0 x1 => R [EV.rsI IntKind.u32 x0 x1] []) (fun y0 y1 => K (.exit 0) [EV.rsI IntKind.u32 y0 y1] []) x0 x1 := (stepQ_eq _ _ _ _ _ _ _ _ _ _ _).symm.trans (by kernel_rfl)
theorem nat_cut_r.l1X.eq (K : Ex → List EV → Heap → Prop) : ∀ (n : Nat) (x0 : Nat) (x1 : Nat → Int), loopE E_nat_cut_r (loopAt Tryd.f147 0) (LV.mk 1 [(0, 1)] 4 0 false) 0 21 K n [EV.rsI IntKind.u32 x0 x1] [] = nat_cut_r.l1 (fun y0 y1 => K (.exit 0) [EV.rsI IntKind.u32 y0 y1] []) n x0 x1
  | 0, _, _ => rfl
  | n + 1, x0, x1 => by
    have ih : (fun (x0 : Nat) (x1 : Nat → Int) => loopE E_nat_cut_r (loopAt Tryd.f147 0) (LV.mk 1 [(0, 1)] 4 0 false) 0 21 K n [EV.rsI IntKind.u32 x0 x1] []) = nat_cut_r.l1 (fun y0 y1 => K (.exit 0) [EV.rsI IntKind.u32 y0 y1] []) n := by funext x0 x1; exact nat_cut_r.l1X.eq K n x0 x1
    show loopStep _ _ _ _ _ (loopE E_nat_cut_r (loopAt Tryd.f147 0) (LV.mk 1 [(0, 1)] 4 0 false) 0 21 K n) [EV.rsI IntKind.u32 x0 x1] [] K = nat_cut_r.l1.step (nat_cut_r.l1 (fun y0 y1 => K (.exit 0) [EV.rsI IntKind.u32 y0 y1] []) n) (fun y0 y1 => K (.exit 0) [EV.rsI IntKind.u32 y0 y1] []) x0 x1
    rw [← ih]
    exact nat_cut_r.l1X.stepEq _ K x0 x1
theorem nat_cut_r.l1X.ok : LoopEq E_nat_cut_r (loopAt Tryd.f147 0) := by
  intro L hL vs H
  have h1 : E_nat_cut_r.lp (firstRegion (loopAt Tryd.f147 0)) = some nat_cut_r.l1.entry := by kernel_rfl
  have h2 : L = nat_cut_r.l1.entry := Option.some.inj (hL.symm.trans h1)
  subst h2
  by_cases hx : ∃ (x0 : Nat) (x1 : Nat → Int), vs = [EV.rsI IntKind.u32 x0 x1] ∧ H = []
  · obtain ⟨x0, x1, rfl, rfl⟩ := hx
    right; intro K
    exact exists_congr fun n => iff_of_eq (nat_cut_r.l1X.eq K n x0 x1).symm
  · left; intro K h
    simp only [nat_cut_r.l1.entry] at h
    split at h
    · exact hx ⟨_, _, rfl, rfl⟩
    · exact h
theorem X_nat_cut_r.eq (a0n : Nat) (a0 : Nat → Int) (K : EV → Heap → Prop) : evFn E_nat_cut_r Tryd.f147 true [.rsI .u32 a0n a0] [] K = nat_cut_r a0n a0 (fun y0 y1 => K (EV.rsI IntKind.u32 y0 y1) []) := by
  have h : evFnQ E_nat_cut_r Tryd.f147 true [.rsI .u32 a0n a0] [] K = nat_cut_r.d a0n a0 (fun y0 y1 => K (EV.rsI IntKind.u32 y0 y1) []) := by kernel_rfl
  rw [nat_cut_r.is]; exact (evFnQ_eq _ _ _ _ _ _).symm.trans h
theorem X_nat_cut_r.ok : SoundE Tryd.prog gl 147 e_nat_cut_r := by
  refine fnOK (E := E_nat_cut_r) (fn := Tryd.f147) rfl tys_ok rfl (show AllL _ [] from trivial) mixed (by kernel_rfl) (by kernel_rfl) (by kernel_rfl) 1 (by kernel_rfl) true ⟨nat_cut_r.l1X.ok, trivial⟩ ?_
  intro args H
  by_cases hx : ∃ (a0n : Nat) (a0 : Nat → Int), args = [.rsI .u32 a0n a0] ∧ H = []
  · obtain ⟨a0n, a0, rfl, rfl⟩ := hx
    right; intro K
    exact iff_of_eq (X_nat_cut_r.eq a0n a0 K).symm
  · left; intro K h
    simp only [e_nat_cut_r] at h
    split at h
    · exact hx ⟨_, _, rfl, rfl⟩
    · exact h
noncomputable def E_nat_cut_o : Env := ⟨look tys, look [], look [(1, nat_cut_o.l1.entry)], gl, lookL [], false⟩
theorem nat_cut_o.l1X.stepEq (R : List EV → Heap → Prop) (K : Ex → List EV → Heap → Prop) (x0 : Nat) (x1 : Nat) (x2 : Nat) (x3 : Nat → Int) : loopStep (evCode E_nat_cut_o (loopAt Tryd.f147 0) { (LV.mk 1 [(0, 1)] 4 1 false) with nx := live (.loop (loopAt Tryd.f147 0)) (LV.mk 1 [(0, 1)] 4 1 false) }) (live (.loop (loopAt Tryd.f147 0)) (LV.mk 1 [(0, 1)] 4 1 false)) (LV.mk 1 [(0, 1)] 4 1 false) 1 21 R [EV.slice 0 0 x0 (some x1) 1] [some (EV.arr IntKind.u32 x2 x3)] K = nat_cut_o.l1.step (fun x0 x1 x2 x3 => R [EV.slice 0 0 x0 (some x1) 1] [some (EV.arr IntKind.u32 x2 x3)]) (fun y0 y1 y2 y3 => K (.exit 0) [EV.slice 0 0 y0 (some y1) 1] [some (EV.arr IntKind.u32 y2 y3)]) x0 x1 x2 x3 := (stepQ_eq _ _ _ _ _ _ _ _ _ _ _).symm.trans (by kernel_rfl)
theorem nat_cut_o.l1X.eq (K : Ex → List EV → Heap → Prop) : ∀ (n : Nat) (x0 : Nat) (x1 : Nat) (x2 : Nat) (x3 : Nat → Int), loopE E_nat_cut_o (loopAt Tryd.f147 0) (LV.mk 1 [(0, 1)] 4 1 false) 1 21 K n [EV.slice 0 0 x0 (some x1) 1] [some (EV.arr IntKind.u32 x2 x3)] = nat_cut_o.l1 (fun y0 y1 y2 y3 => K (.exit 0) [EV.slice 0 0 y0 (some y1) 1] [some (EV.arr IntKind.u32 y2 y3)]) n x0 x1 x2 x3
  | 0, _, _, _, _ => rfl
  | n + 1, x0, x1, x2, x3 => by
    have ih : (fun (x0 : Nat) (x1 : Nat) (x2 : Nat) (x3 : Nat → Int) => loopE E_nat_cut_o (loopAt Tryd.f147 0) (LV.mk 1 [(0, 1)] 4 1 false) 1 21 K n [EV.slice 0 0 x0 (some x1) 1] [some (EV.arr IntKind.u32 x2 x3)]) = nat_cut_o.l1 (fun y0 y1 y2 y3 => K (.exit 0) [EV.slice 0 0 y0 (some y1) 1] [some (EV.arr IntKind.u32 y2 y3)]) n := by funext x0 x1 x2 x3; exact nat_cut_o.l1X.eq K n x0 x1 x2 x3
    show loopStep _ _ _ _ _ (loopE E_nat_cut_o (loopAt Tryd.f147 0) (LV.mk 1 [(0, 1)] 4 1 false) 1 21 K n) [EV.slice 0 0 x0 (some x1) 1] [some (EV.arr IntKind.u32 x2 x3)] K = nat_cut_o.l1.step (nat_cut_o.l1 (fun y0 y1 y2 y3 => K (.exit 0) [EV.slice 0 0 y0 (some y1) 1] [some (EV.arr IntKind.u32 y2 y3)]) n) (fun y0 y1 y2 y3 => K (.exit 0) [EV.slice 0 0 y0 (some y1) 1] [some (EV.arr IntKind.u32 y2 y3)]) x0 x1 x2 x3
    rw [← ih]
    exact nat_cut_o.l1X.stepEq _ K x0 x1 x2 x3
theorem nat_cut_o.l1X.ok : LoopEq E_nat_cut_o (loopAt Tryd.f147 0) := by
  intro L hL vs H
  have h1 : E_nat_cut_o.lp (firstRegion (loopAt Tryd.f147 0)) = some nat_cut_o.l1.entry := by kernel_rfl
  have h2 : L = nat_cut_o.l1.entry := Option.some.inj (hL.symm.trans h1)
  subst h2
  by_cases hx : ∃ (x0 : Nat) (x1 : Nat) (x2 : Nat) (x3 : Nat → Int), vs = [EV.slice 0 0 x0 (some x1) 1] ∧ H = [some (EV.arr IntKind.u32 x2 x3)]
  · obtain ⟨x0, x1, x2, x3, rfl, rfl⟩ := hx
    right; intro K
    exact exists_congr fun n => iff_of_eq (nat_cut_o.l1X.eq K n x0 x1 x2 x3).symm
  · left; intro K h
    simp only [nat_cut_o.l1.entry] at h
    split at h
    · exact hx ⟨_, _, _, _, rfl, rfl⟩
    · exact h
theorem X_nat_cut_o.eq (a0l : Nat) (a0c : Nat) (a0n : Nat) (a0 : Nat → Int) (K : EV → Heap → Prop) : evFn E_nat_cut_o Tryd.f147 true [.slice 0 0 a0l (some a0c) 1] [some (.arr .u32 a0n a0)] K = nat_cut_o a0l a0c a0n a0 (fun y0 y1 y2 y3 => K (EV.slice 0 0 y0 (some y1) 1) [some (EV.arr IntKind.u32 y2 y3)]) := by
  have h : evFnQ E_nat_cut_o Tryd.f147 true [.slice 0 0 a0l (some a0c) 1] [some (.arr .u32 a0n a0)] K = nat_cut_o.d a0l a0c a0n a0 (fun y0 y1 y2 y3 => K (EV.slice 0 0 y0 (some y1) 1) [some (EV.arr IntKind.u32 y2 y3)]) := by kernel_rfl
  rw [nat_cut_o.is]; exact (evFnQ_eq _ _ _ _ _ _).symm.trans h
theorem X_nat_cut_o.ok : SoundE Tryd.prog gl 147 e_nat_cut_o := by
  refine fnOK (E := E_nat_cut_o) (fn := Tryd.f147) rfl tys_ok rfl (show AllL _ [] from trivial) mixed (by kernel_rfl) (by kernel_rfl) (by kernel_rfl) 1 (by kernel_rfl) true ⟨nat_cut_o.l1X.ok, trivial⟩ ?_
  intro args H
  by_cases hx : ∃ (a0l : Nat) (a0c : Nat) (a0n : Nat) (a0 : Nat → Int), args = [.slice 0 0 a0l (some a0c) 1] ∧ H = [some (.arr .u32 a0n a0)]
  · obtain ⟨a0l, a0c, a0n, a0, rfl, rfl⟩ := hx
    right; intro K
    exact iff_of_eq (X_nat_cut_o.eq a0l a0c a0n a0 K).symm
  · left; intro K h
    simp only [e_nat_cut_o] at h
    split at h
    · exact hx ⟨_, _, _, _, rfl, rfl⟩
    · exact h
noncomputable def E_nat_cut_n : Env := ⟨look tys, look [], look [(1, nat_cut_n.l1.entry)], gl, lookL [], false⟩
theorem nat_cut_n.l1X.stepEq (R : List EV → Heap → Prop) (K : Ex → List EV → Heap → Prop) (x0 : Nat) (x1 : Nat) (x2 : Nat → Int) : loopStep (evCode E_nat_cut_n (loopAt Tryd.f147 0) { (LV.mk 1 [(0, 1)] 4 1 false) with nx := live (.loop (loopAt Tryd.f147 0)) (LV.mk 1 [(0, 1)] 4 1 false) }) (live (.loop (loopAt Tryd.f147 0)) (LV.mk 1 [(0, 1)] 4 1 false)) (LV.mk 1 [(0, 1)] 4 1 false) 1 21 R [EV.slice 0 0 x0 none 1] [some (EV.arr IntKind.u32 x1 x2)] K = nat_cut_n.l1.step (fun x0 x1 x2 => R [EV.slice 0 0 x0 none 1] [some (EV.arr IntKind.u32 x1 x2)]) (fun y0 y1 y2 => K (.exit 0) [EV.slice 0 0 y0 none 1] [some (EV.arr IntKind.u32 y1 y2)]) x0 x1 x2 := (stepQ_eq _ _ _ _ _ _ _ _ _ _ _).symm.trans (by kernel_rfl)
theorem nat_cut_n.l1X.eq (K : Ex → List EV → Heap → Prop) : ∀ (n : Nat) (x0 : Nat) (x1 : Nat) (x2 : Nat → Int), loopE E_nat_cut_n (loopAt Tryd.f147 0) (LV.mk 1 [(0, 1)] 4 1 false) 1 21 K n [EV.slice 0 0 x0 none 1] [some (EV.arr IntKind.u32 x1 x2)] = nat_cut_n.l1 (fun y0 y1 y2 => K (.exit 0) [EV.slice 0 0 y0 none 1] [some (EV.arr IntKind.u32 y1 y2)]) n x0 x1 x2
  | 0, _, _, _ => rfl
  | n + 1, x0, x1, x2 => by
    have ih : (fun (x0 : Nat) (x1 : Nat) (x2 : Nat → Int) => loopE E_nat_cut_n (loopAt Tryd.f147 0) (LV.mk 1 [(0, 1)] 4 1 false) 1 21 K n [EV.slice 0 0 x0 none 1] [some (EV.arr IntKind.u32 x1 x2)]) = nat_cut_n.l1 (fun y0 y1 y2 => K (.exit 0) [EV.slice 0 0 y0 none 1] [some (EV.arr IntKind.u32 y1 y2)]) n := by funext x0 x1 x2; exact nat_cut_n.l1X.eq K n x0 x1 x2
    show loopStep _ _ _ _ _ (loopE E_nat_cut_n (loopAt Tryd.f147 0) (LV.mk 1 [(0, 1)] 4 1 false) 1 21 K n) [EV.slice 0 0 x0 none 1] [some (EV.arr IntKind.u32 x1 x2)] K = nat_cut_n.l1.step (nat_cut_n.l1 (fun y0 y1 y2 => K (.exit 0) [EV.slice 0 0 y0 none 1] [some (EV.arr IntKind.u32 y1 y2)]) n) (fun y0 y1 y2 => K (.exit 0) [EV.slice 0 0 y0 none 1] [some (EV.arr IntKind.u32 y1 y2)]) x0 x1 x2
    rw [← ih]
    exact nat_cut_n.l1X.stepEq _ K x0 x1 x2
theorem nat_cut_n.l1X.ok : LoopEq E_nat_cut_n (loopAt Tryd.f147 0) := by
  intro L hL vs H
  have h1 : E_nat_cut_n.lp (firstRegion (loopAt Tryd.f147 0)) = some nat_cut_n.l1.entry := by kernel_rfl
  have h2 : L = nat_cut_n.l1.entry := Option.some.inj (hL.symm.trans h1)
  subst h2
  by_cases hx : ∃ (x0 : Nat) (x1 : Nat) (x2 : Nat → Int), vs = [EV.slice 0 0 x0 none 1] ∧ H = [some (EV.arr IntKind.u32 x1 x2)]
  · obtain ⟨x0, x1, x2, rfl, rfl⟩ := hx
    right; intro K
    exact exists_congr fun n => iff_of_eq (nat_cut_n.l1X.eq K n x0 x1 x2).symm
  · left; intro K h
    simp only [nat_cut_n.l1.entry] at h
    split at h
    · exact hx ⟨_, _, _, rfl, rfl⟩
    · exact h
theorem X_nat_cut_n.eq (a0l : Nat) (a0n : Nat) (a0 : Nat → Int) (K : EV → Heap → Prop) : evFn E_nat_cut_n Tryd.f147 true [.slice 0 0 a0l none 1] [some (.arr .u32 a0n a0)] K = nat_cut_n a0l a0n a0 (fun y0 y1 y2 => K (EV.slice 0 0 y0 none 1) [some (EV.arr IntKind.u32 y1 y2)]) := by
  have h : evFnQ E_nat_cut_n Tryd.f147 true [.slice 0 0 a0l none 1] [some (.arr .u32 a0n a0)] K = nat_cut_n.d a0l a0n a0 (fun y0 y1 y2 => K (EV.slice 0 0 y0 none 1) [some (EV.arr IntKind.u32 y1 y2)]) := by kernel_rfl
  rw [nat_cut_n.is]; exact (evFnQ_eq _ _ _ _ _ _).symm.trans h
theorem X_nat_cut_n.ok : SoundE Tryd.prog gl 147 e_nat_cut_n := by
  refine fnOK (E := E_nat_cut_n) (fn := Tryd.f147) rfl tys_ok rfl (show AllL _ [] from trivial) mixed (by kernel_rfl) (by kernel_rfl) (by kernel_rfl) 1 (by kernel_rfl) true ⟨nat_cut_n.l1X.ok, trivial⟩ ?_
  intro args H
  by_cases hx : ∃ (a0l : Nat) (a0n : Nat) (a0 : Nat → Int), args = [.slice 0 0 a0l none 1] ∧ H = [some (.arr .u32 a0n a0)]
  · obtain ⟨a0l, a0n, a0, rfl, rfl⟩ := hx
    right; intro K
    exact iff_of_eq (X_nat_cut_n.eq a0l a0n a0 K).symm
  · left; intro K h
    simp only [e_nat_cut_n] at h
    split at h
    · exact hx ⟨_, _, _, rfl, rfl⟩
    · exact h
theorem X_nat_cut.ok : SoundE Tryd.prog gl 147 e_nat_cut := SoundE.pick X_nat_cut_r.ok (SoundE.pick X_nat_cut_o.ok (X_nat_cut_n.ok))
noncomputable def e_nat_number : Entry := ⟨[some .u32], false, fun args H K => match args, H with
  | [.rsI .u32 a0n a0], [] => nat_number a0n a0 (fun y0 => K (EV.str y0) [])
  | _, _ => False⟩
noncomputable def E_nat_number : Env := ⟨look tys, look [(147, e_nat_cut)], look [(4, nat_number.l4.entry), (8, nat_number.l8.entry)], gl, lookL [], false⟩
theorem nat_number.l4X.stepEq (R : List EV → Heap → Prop) (K : Ex → List EV → Heap → Prop) (x0 : Nat) (x1 : Nat → Int) (x2 : Nat) (x3 : Nat) (x4 : Int) (x5 : Int) (x6 : Nat) (x7 : Nat → Int) : loopStep (evCode E_nat_number (loopAt Tryd.f127 0) { (LV.mk 8 [(0, 8)] 4 0 false) with nx := live (.loop (loopAt Tryd.f127 0)) (LV.mk 8 [(0, 8)] 4 0 false) }) (live (.loop (loopAt Tryd.f127 0)) (LV.mk 8 [(0, 8)] 4 0 false)) (LV.mk 8 [(0, 8)] 4 0 false) 0 48 R [EV.rsI IntKind.u32 x0 x1, EV.slice 0 0 x2 (some x3) 1, EV.int IntKind.i64 x4, EV.int IntKind.i64 x5] [some (EV.arr IntKind.u8 x6 x7)] K = nat_number.l4.step (fun x0 x1 x2 x3 x4 x5 x6 x7 => R [EV.rsI IntKind.u32 x0 x1, EV.slice 0 0 x2 (some x3) 1, EV.int IntKind.i64 x4, EV.int IntKind.i64 x5] [some (EV.arr IntKind.u8 x6 x7)]) (fun y0 y1 y2 y3 => K (.exit 0) [EV.slice 0 0 y0 (some y1) 1] [some (EV.arr IntKind.u8 y2 y3)]) x0 x1 x2 x3 x4 x5 x6 x7 := (stepQ_eq _ _ _ _ _ _ _ _ _ _ _).symm.trans (by kernel_rfl)
theorem nat_number.l4X.eq (K : Ex → List EV → Heap → Prop) : ∀ (n : Nat) (x0 : Nat) (x1 : Nat → Int) (x2 : Nat) (x3 : Nat) (x4 : Int) (x5 : Int) (x6 : Nat) (x7 : Nat → Int), loopE E_nat_number (loopAt Tryd.f127 0) (LV.mk 8 [(0, 8)] 4 0 false) 0 48 K n [EV.rsI IntKind.u32 x0 x1, EV.slice 0 0 x2 (some x3) 1, EV.int IntKind.i64 x4, EV.int IntKind.i64 x5] [some (EV.arr IntKind.u8 x6 x7)] = nat_number.l4 (fun y0 y1 y2 y3 => K (.exit 0) [EV.slice 0 0 y0 (some y1) 1] [some (EV.arr IntKind.u8 y2 y3)]) n x0 x1 x2 x3 x4 x5 x6 x7
  | 0, _, _, _, _, _, _, _, _ => rfl
  | n + 1, x0, x1, x2, x3, x4, x5, x6, x7 => by
    have ih : (fun (x0 : Nat) (x1 : Nat → Int) (x2 : Nat) (x3 : Nat) (x4 : Int) (x5 : Int) (x6 : Nat) (x7 : Nat → Int) => loopE E_nat_number (loopAt Tryd.f127 0) (LV.mk 8 [(0, 8)] 4 0 false) 0 48 K n [EV.rsI IntKind.u32 x0 x1, EV.slice 0 0 x2 (some x3) 1, EV.int IntKind.i64 x4, EV.int IntKind.i64 x5] [some (EV.arr IntKind.u8 x6 x7)]) = nat_number.l4 (fun y0 y1 y2 y3 => K (.exit 0) [EV.slice 0 0 y0 (some y1) 1] [some (EV.arr IntKind.u8 y2 y3)]) n := by funext x0 x1 x2 x3 x4 x5 x6 x7; exact nat_number.l4X.eq K n x0 x1 x2 x3 x4 x5 x6 x7
    show loopStep _ _ _ _ _ (loopE E_nat_number (loopAt Tryd.f127 0) (LV.mk 8 [(0, 8)] 4 0 false) 0 48 K n) [EV.rsI IntKind.u32 x0 x1, EV.slice 0 0 x2 (some x3) 1, EV.int IntKind.i64 x4, EV.int IntKind.i64 x5] [some (EV.arr IntKind.u8 x6 x7)] K = nat_number.l4.step (nat_number.l4 (fun y0 y1 y2 y3 => K (.exit 0) [EV.slice 0 0 y0 (some y1) 1] [some (EV.arr IntKind.u8 y2 y3)]) n) (fun y0 y1 y2 y3 => K (.exit 0) [EV.slice 0 0 y0 (some y1) 1] [some (EV.arr IntKind.u8 y2 y3)]) x0 x1 x2 x3 x4 x5 x6 x7
    rw [← ih]
    exact nat_number.l4X.stepEq _ K x0 x1 x2 x3 x4 x5 x6 x7
theorem nat_number.l4X.ok : LoopEq E_nat_number (loopAt Tryd.f127 0) := by
  intro L hL vs H
  have h1 : E_nat_number.lp (firstRegion (loopAt Tryd.f127 0)) = some nat_number.l4.entry := by kernel_rfl
  have h2 : L = nat_number.l4.entry := Option.some.inj (hL.symm.trans h1)
  subst h2
  by_cases hx : ∃ (x0 : Nat) (x1 : Nat → Int) (x2 : Nat) (x3 : Nat) (x4 : Int) (x5 : Int) (x6 : Nat) (x7 : Nat → Int), vs = [EV.rsI IntKind.u32 x0 x1, EV.slice 0 0 x2 (some x3) 1, EV.int IntKind.i64 x4, EV.int IntKind.i64 x5] ∧ H = [some (EV.arr IntKind.u8 x6 x7)]
  · obtain ⟨x0, x1, x2, x3, x4, x5, x6, x7, rfl, rfl⟩ := hx
    right; intro K
    exact exists_congr fun n => iff_of_eq (nat_number.l4X.eq K n x0 x1 x2 x3 x4 x5 x6 x7).symm
  · left; intro K h
    simp only [nat_number.l4.entry] at h
    split at h
    · exact hx ⟨_, _, _, _, _, _, _, _, rfl, rfl⟩
    · exact h
theorem nat_number.l8X.stepEq (R : List EV → Heap → Prop) (K : Ex → List EV → Heap → Prop) (x0 : Nat) (x1 : Nat) (x2 : Nat) (x3 : Nat) (x4 : Nat → Int) : loopStep (evCode E_nat_number (loopAt Tryd.f127 1) { (LV.mk 8 [(2, 8)] 4 0 false) with nx := live (.loop (loopAt Tryd.f127 1)) (LV.mk 8 [(2, 8)] 4 0 false) }) (live (.loop (loopAt Tryd.f127 1)) (LV.mk 8 [(2, 8)] 4 0 false)) (LV.mk 8 [(2, 8)] 4 0 false) 0 48 R [EV.slice 0 x0 x1 (some x2) 1] [some (EV.arr IntKind.u8 x3 x4)] K = nat_number.l8.step (fun x0 x1 x2 x3 x4 => R [EV.slice 0 x0 x1 (some x2) 1] [some (EV.arr IntKind.u8 x3 x4)]) (fun y0 y1 y2 y3 y4 => K (.exit 2) [EV.slice 0 y0 y1 (some y2) 1] [some (EV.arr IntKind.u8 y3 y4)]) x0 x1 x2 x3 x4 := (stepQ_eq _ _ _ _ _ _ _ _ _ _ _).symm.trans (by kernel_rfl)
theorem nat_number.l8X.eq (K : Ex → List EV → Heap → Prop) : ∀ (n : Nat) (x0 : Nat) (x1 : Nat) (x2 : Nat) (x3 : Nat) (x4 : Nat → Int), loopE E_nat_number (loopAt Tryd.f127 1) (LV.mk 8 [(2, 8)] 4 0 false) 0 48 K n [EV.slice 0 x0 x1 (some x2) 1] [some (EV.arr IntKind.u8 x3 x4)] = nat_number.l8 (fun y0 y1 y2 y3 y4 => K (.exit 2) [EV.slice 0 y0 y1 (some y2) 1] [some (EV.arr IntKind.u8 y3 y4)]) n x0 x1 x2 x3 x4
  | 0, _, _, _, _, _ => rfl
  | n + 1, x0, x1, x2, x3, x4 => by
    have ih : (fun (x0 : Nat) (x1 : Nat) (x2 : Nat) (x3 : Nat) (x4 : Nat → Int) => loopE E_nat_number (loopAt Tryd.f127 1) (LV.mk 8 [(2, 8)] 4 0 false) 0 48 K n [EV.slice 0 x0 x1 (some x2) 1] [some (EV.arr IntKind.u8 x3 x4)]) = nat_number.l8 (fun y0 y1 y2 y3 y4 => K (.exit 2) [EV.slice 0 y0 y1 (some y2) 1] [some (EV.arr IntKind.u8 y3 y4)]) n := by funext x0 x1 x2 x3 x4; exact nat_number.l8X.eq K n x0 x1 x2 x3 x4
    show loopStep _ _ _ _ _ (loopE E_nat_number (loopAt Tryd.f127 1) (LV.mk 8 [(2, 8)] 4 0 false) 0 48 K n) [EV.slice 0 x0 x1 (some x2) 1] [some (EV.arr IntKind.u8 x3 x4)] K = nat_number.l8.step (nat_number.l8 (fun y0 y1 y2 y3 y4 => K (.exit 2) [EV.slice 0 y0 y1 (some y2) 1] [some (EV.arr IntKind.u8 y3 y4)]) n) (fun y0 y1 y2 y3 y4 => K (.exit 2) [EV.slice 0 y0 y1 (some y2) 1] [some (EV.arr IntKind.u8 y3 y4)]) x0 x1 x2 x3 x4
    rw [← ih]
    exact nat_number.l8X.stepEq _ K x0 x1 x2 x3 x4
theorem nat_number.l8X.ok : LoopEq E_nat_number (loopAt Tryd.f127 1) := by
  intro L hL vs H
  have h1 : E_nat_number.lp (firstRegion (loopAt Tryd.f127 1)) = some nat_number.l8.entry := by kernel_rfl
  have h2 : L = nat_number.l8.entry := Option.some.inj (hL.symm.trans h1)
  subst h2
  by_cases hx : ∃ (x0 : Nat) (x1 : Nat) (x2 : Nat) (x3 : Nat) (x4 : Nat → Int), vs = [EV.slice 0 x0 x1 (some x2) 1] ∧ H = [some (EV.arr IntKind.u8 x3 x4)]
  · obtain ⟨x0, x1, x2, x3, x4, rfl, rfl⟩ := hx
    right; intro K
    exact exists_congr fun n => iff_of_eq (nat_number.l8X.eq K n x0 x1 x2 x3 x4).symm
  · left; intro K h
    simp only [nat_number.l8.entry] at h
    split at h
    · exact hx ⟨_, _, _, _, _, rfl, rfl⟩
    · exact h
theorem X_nat_number.eq (a0n : Nat) (a0 : Nat → Int) (K : EV → Heap → Prop) : evFn E_nat_number Tryd.f127 false [.rsI .u32 a0n a0] [] K = nat_number a0n a0 (fun y0 => K (EV.str y0) []) := by
  have h : evFnQ E_nat_number Tryd.f127 false [.rsI .u32 a0n a0] [] K = nat_number.d a0n a0 (fun y0 => K (EV.str y0) []) := by kernel_rfl
  rw [nat_number.is]; exact (evFnQ_eq _ _ _ _ _ _).symm.trans h
theorem X_nat_number.ok : SoundE Tryd.prog gl 127 e_nat_number := by
  refine fnOK (E := E_nat_number) (fn := Tryd.f127) rfl tys_ok rfl (show AllL _ [(147, e_nat_cut)] from ⟨X_nat_cut.ok, trivial⟩) mixed (by kernel_rfl) (by kernel_rfl) (by kernel_rfl) 2 (by kernel_rfl) false ⟨nat_number.l4X.ok, nat_number.l8X.ok, trivial⟩ ?_
  intro args H
  by_cases hx : ∃ (a0n : Nat) (a0 : Nat → Int), args = [.rsI .u32 a0n a0] ∧ H = []
  · obtain ⟨a0n, a0, rfl, rfl⟩ := hx
    right; intro K
    exact iff_of_eq (X_nat_number.eq a0n a0 K).symm
  · left; intro K h
    simp only [e_nat_number] at h
    split at h
    · exact hx ⟨_, _, rfl, rfl⟩
    · exact h
noncomputable def e_nat_words : Entry := ⟨[none], false, fun args H K => match args, H with
  | [.str a0], [] => nat_words a0 (fun y0 y1 => K (EV.rsI IntKind.u32 y0 y1) [])
  | _, _ => False⟩
noncomputable def E_nat_words : Env := ⟨look tys, look [], look [(3, nat_words.l3.entry)], gl, lookL [], false⟩
theorem nat_words.l3X.stepEq (R : List EV → Heap → Prop) (K : Ex → List EV → Heap → Prop) (x0 : List UInt8) (x1 : Nat) (x2 : Nat) (x3 : Int) (x4 : Int) (x5 : Nat) (x6 : Nat → Int) : loopStep (evCode E_nat_words (loopAt Tryd.f131 0) { (LV.mk 8 [(0, 8)] 4 0 false) with nx := live (.loop (loopAt Tryd.f131 0)) (LV.mk 8 [(0, 8)] 4 0 false) }) (live (.loop (loopAt Tryd.f131 0)) (LV.mk 8 [(0, 8)] 4 0 false)) (LV.mk 8 [(0, 8)] 4 0 false) 0 37 R [EV.str x0, EV.slice 0 0 x1 (some x2) 1, EV.int IntKind.i64 x3, EV.int IntKind.i64 x4] [some (EV.arr IntKind.u32 x5 x6)] K = nat_words.l3.step (fun x0 x1 x2 x3 x4 x5 x6 => R [EV.str x0, EV.slice 0 0 x1 (some x2) 1, EV.int IntKind.i64 x3, EV.int IntKind.i64 x4] [some (EV.arr IntKind.u32 x5 x6)]) (fun y0 y1 y2 y3 => K (.exit 0) [EV.slice 0 0 y0 (some y1) 1] [some (EV.arr IntKind.u32 y2 y3)]) x0 x1 x2 x3 x4 x5 x6 := (stepQ_eq _ _ _ _ _ _ _ _ _ _ _).symm.trans (by kernel_rfl)
theorem nat_words.l3X.eq (K : Ex → List EV → Heap → Prop) : ∀ (n : Nat) (x0 : List UInt8) (x1 : Nat) (x2 : Nat) (x3 : Int) (x4 : Int) (x5 : Nat) (x6 : Nat → Int), loopE E_nat_words (loopAt Tryd.f131 0) (LV.mk 8 [(0, 8)] 4 0 false) 0 37 K n [EV.str x0, EV.slice 0 0 x1 (some x2) 1, EV.int IntKind.i64 x3, EV.int IntKind.i64 x4] [some (EV.arr IntKind.u32 x5 x6)] = nat_words.l3 (fun y0 y1 y2 y3 => K (.exit 0) [EV.slice 0 0 y0 (some y1) 1] [some (EV.arr IntKind.u32 y2 y3)]) n x0 x1 x2 x3 x4 x5 x6
  | 0, _, _, _, _, _, _, _ => rfl
  | n + 1, x0, x1, x2, x3, x4, x5, x6 => by
    have ih : (fun (x0 : List UInt8) (x1 : Nat) (x2 : Nat) (x3 : Int) (x4 : Int) (x5 : Nat) (x6 : Nat → Int) => loopE E_nat_words (loopAt Tryd.f131 0) (LV.mk 8 [(0, 8)] 4 0 false) 0 37 K n [EV.str x0, EV.slice 0 0 x1 (some x2) 1, EV.int IntKind.i64 x3, EV.int IntKind.i64 x4] [some (EV.arr IntKind.u32 x5 x6)]) = nat_words.l3 (fun y0 y1 y2 y3 => K (.exit 0) [EV.slice 0 0 y0 (some y1) 1] [some (EV.arr IntKind.u32 y2 y3)]) n := by funext x0 x1 x2 x3 x4 x5 x6; exact nat_words.l3X.eq K n x0 x1 x2 x3 x4 x5 x6
    show loopStep _ _ _ _ _ (loopE E_nat_words (loopAt Tryd.f131 0) (LV.mk 8 [(0, 8)] 4 0 false) 0 37 K n) [EV.str x0, EV.slice 0 0 x1 (some x2) 1, EV.int IntKind.i64 x3, EV.int IntKind.i64 x4] [some (EV.arr IntKind.u32 x5 x6)] K = nat_words.l3.step (nat_words.l3 (fun y0 y1 y2 y3 => K (.exit 0) [EV.slice 0 0 y0 (some y1) 1] [some (EV.arr IntKind.u32 y2 y3)]) n) (fun y0 y1 y2 y3 => K (.exit 0) [EV.slice 0 0 y0 (some y1) 1] [some (EV.arr IntKind.u32 y2 y3)]) x0 x1 x2 x3 x4 x5 x6
    rw [← ih]
    exact nat_words.l3X.stepEq _ K x0 x1 x2 x3 x4 x5 x6
theorem nat_words.l3X.ok : LoopEq E_nat_words (loopAt Tryd.f131 0) := by
  intro L hL vs H
  have h1 : E_nat_words.lp (firstRegion (loopAt Tryd.f131 0)) = some nat_words.l3.entry := by kernel_rfl
  have h2 : L = nat_words.l3.entry := Option.some.inj (hL.symm.trans h1)
  subst h2
  by_cases hx : ∃ (x0 : List UInt8) (x1 : Nat) (x2 : Nat) (x3 : Int) (x4 : Int) (x5 : Nat) (x6 : Nat → Int), vs = [EV.str x0, EV.slice 0 0 x1 (some x2) 1, EV.int IntKind.i64 x3, EV.int IntKind.i64 x4] ∧ H = [some (EV.arr IntKind.u32 x5 x6)]
  · obtain ⟨x0, x1, x2, x3, x4, x5, x6, rfl, rfl⟩ := hx
    right; intro K
    exact exists_congr fun n => iff_of_eq (nat_words.l3X.eq K n x0 x1 x2 x3 x4 x5 x6).symm
  · left; intro K h
    simp only [nat_words.l3.entry] at h
    split at h
    · exact hx ⟨_, _, _, _, _, _, _, rfl, rfl⟩
    · exact h
theorem X_nat_words.eq (a0 : List UInt8) (K : EV → Heap → Prop) : evFn E_nat_words Tryd.f131 false [.str a0] [] K = nat_words a0 (fun y0 y1 => K (EV.rsI IntKind.u32 y0 y1) []) := by
  have h : evFnQ E_nat_words Tryd.f131 false [.str a0] [] K = nat_words.d a0 (fun y0 y1 => K (EV.rsI IntKind.u32 y0 y1) []) := by kernel_rfl
  rw [nat_words.is]; exact (evFnQ_eq _ _ _ _ _ _).symm.trans h
theorem X_nat_words.ok : SoundE Tryd.prog gl 131 e_nat_words := by
  refine fnOK (E := E_nat_words) (fn := Tryd.f131) rfl tys_ok rfl (show AllL _ [] from trivial) mixed (by kernel_rfl) (by kernel_rfl) (by kernel_rfl) 1 (by kernel_rfl) false ⟨nat_words.l3X.ok, trivial⟩ ?_
  intro args H
  by_cases hx : ∃ (a0 : List UInt8), args = [.str a0] ∧ H = []
  · obtain ⟨a0, rfl, rfl⟩ := hx
    right; intro K
    exact iff_of_eq (X_nat_words.eq a0 K).symm
  · left; intro K h
    simp only [e_nat_words] at h
    split at h
    · exact hx ⟨_, rfl, rfl⟩
    · exact h
noncomputable def e_nat_down : Entry := ⟨[some .u32, none], false, fun args H K => match args, H with
  | [.rsI .u32 a0n a0, .int .i64 a1], [] => nat_down a0n a0 a1 (fun y0 y1 => K (EV.rsI IntKind.u32 y0 y1) [])
  | _, _ => False⟩
noncomputable def E_nat_down : Env := ⟨look tys, look [(147, e_nat_cut)], look [(5, nat_down.l5.entry)], gl, lookL [], false⟩
theorem nat_down.l5X.stepEq (R : List EV → Heap → Prop) (K : Ex → List EV → Heap → Prop) (x0 : Nat) (x1 : Nat → Int) (x2 : Int) (x3 : Nat) (x4 : Nat) (x5 : Int) (x6 : Int) (x7 : Nat) (x8 : Nat → Int) : loopStep (evCode E_nat_down (loopAt Tryd.f145 0) { (LV.mk 32 [(0, 32)] 16 0 false) with nx := live (.loop (loopAt Tryd.f145 0)) (LV.mk 32 [(0, 32)] 16 0 false) }) (live (.loop (loopAt Tryd.f145 0)) (LV.mk 32 [(0, 32)] 16 0 false)) (LV.mk 32 [(0, 32)] 16 0 false) 0 64 R [EV.rsI IntKind.u32 x0 x1, EV.int IntKind.i64 x2, EV.slice 0 0 x3 (some x4) 1, EV.int IntKind.i64 x5, EV.int IntKind.i64 x6] [some (EV.arr IntKind.u32 x7 x8)] K = nat_down.l5.step (fun x0 x1 x2 x3 x4 x5 x6 x7 x8 => R [EV.rsI IntKind.u32 x0 x1, EV.int IntKind.i64 x2, EV.slice 0 0 x3 (some x4) 1, EV.int IntKind.i64 x5, EV.int IntKind.i64 x6] [some (EV.arr IntKind.u32 x7 x8)]) (fun y0 y1 y2 y3 => K (.exit 0) [EV.slice 0 0 y0 (some y1) 1] [some (EV.arr IntKind.u32 y2 y3)]) x0 x1 x2 x3 x4 x5 x6 x7 x8 := (stepQ_eq _ _ _ _ _ _ _ _ _ _ _).symm.trans (by kernel_rfl)
theorem nat_down.l5X.eq (K : Ex → List EV → Heap → Prop) : ∀ (n : Nat) (x0 : Nat) (x1 : Nat → Int) (x2 : Int) (x3 : Nat) (x4 : Nat) (x5 : Int) (x6 : Int) (x7 : Nat) (x8 : Nat → Int), loopE E_nat_down (loopAt Tryd.f145 0) (LV.mk 32 [(0, 32)] 16 0 false) 0 64 K n [EV.rsI IntKind.u32 x0 x1, EV.int IntKind.i64 x2, EV.slice 0 0 x3 (some x4) 1, EV.int IntKind.i64 x5, EV.int IntKind.i64 x6] [some (EV.arr IntKind.u32 x7 x8)] = nat_down.l5 (fun y0 y1 y2 y3 => K (.exit 0) [EV.slice 0 0 y0 (some y1) 1] [some (EV.arr IntKind.u32 y2 y3)]) n x0 x1 x2 x3 x4 x5 x6 x7 x8
  | 0, _, _, _, _, _, _, _, _, _ => rfl
  | n + 1, x0, x1, x2, x3, x4, x5, x6, x7, x8 => by
    have ih : (fun (x0 : Nat) (x1 : Nat → Int) (x2 : Int) (x3 : Nat) (x4 : Nat) (x5 : Int) (x6 : Int) (x7 : Nat) (x8 : Nat → Int) => loopE E_nat_down (loopAt Tryd.f145 0) (LV.mk 32 [(0, 32)] 16 0 false) 0 64 K n [EV.rsI IntKind.u32 x0 x1, EV.int IntKind.i64 x2, EV.slice 0 0 x3 (some x4) 1, EV.int IntKind.i64 x5, EV.int IntKind.i64 x6] [some (EV.arr IntKind.u32 x7 x8)]) = nat_down.l5 (fun y0 y1 y2 y3 => K (.exit 0) [EV.slice 0 0 y0 (some y1) 1] [some (EV.arr IntKind.u32 y2 y3)]) n := by funext x0 x1 x2 x3 x4 x5 x6 x7 x8; exact nat_down.l5X.eq K n x0 x1 x2 x3 x4 x5 x6 x7 x8
    show loopStep _ _ _ _ _ (loopE E_nat_down (loopAt Tryd.f145 0) (LV.mk 32 [(0, 32)] 16 0 false) 0 64 K n) [EV.rsI IntKind.u32 x0 x1, EV.int IntKind.i64 x2, EV.slice 0 0 x3 (some x4) 1, EV.int IntKind.i64 x5, EV.int IntKind.i64 x6] [some (EV.arr IntKind.u32 x7 x8)] K = nat_down.l5.step (nat_down.l5 (fun y0 y1 y2 y3 => K (.exit 0) [EV.slice 0 0 y0 (some y1) 1] [some (EV.arr IntKind.u32 y2 y3)]) n) (fun y0 y1 y2 y3 => K (.exit 0) [EV.slice 0 0 y0 (some y1) 1] [some (EV.arr IntKind.u32 y2 y3)]) x0 x1 x2 x3 x4 x5 x6 x7 x8
    rw [← ih]
    exact nat_down.l5X.stepEq _ K x0 x1 x2 x3 x4 x5 x6 x7 x8
theorem nat_down.l5X.ok : LoopEq E_nat_down (loopAt Tryd.f145 0) := by
  intro L hL vs H
  have h1 : E_nat_down.lp (firstRegion (loopAt Tryd.f145 0)) = some nat_down.l5.entry := by kernel_rfl
  have h2 : L = nat_down.l5.entry := Option.some.inj (hL.symm.trans h1)
  subst h2
  by_cases hx : ∃ (x0 : Nat) (x1 : Nat → Int) (x2 : Int) (x3 : Nat) (x4 : Nat) (x5 : Int) (x6 : Int) (x7 : Nat) (x8 : Nat → Int), vs = [EV.rsI IntKind.u32 x0 x1, EV.int IntKind.i64 x2, EV.slice 0 0 x3 (some x4) 1, EV.int IntKind.i64 x5, EV.int IntKind.i64 x6] ∧ H = [some (EV.arr IntKind.u32 x7 x8)]
  · obtain ⟨x0, x1, x2, x3, x4, x5, x6, x7, x8, rfl, rfl⟩ := hx
    right; intro K
    exact exists_congr fun n => iff_of_eq (nat_down.l5X.eq K n x0 x1 x2 x3 x4 x5 x6 x7 x8).symm
  · left; intro K h
    simp only [nat_down.l5.entry] at h
    split at h
    · exact hx ⟨_, _, _, _, _, _, _, _, _, rfl, rfl⟩
    · exact h
theorem X_nat_down.eq (a0n : Nat) (a0 : Nat → Int) (a1 : Int) (K : EV → Heap → Prop) : evFn E_nat_down Tryd.f145 false [.rsI .u32 a0n a0, .int .i64 a1] [] K = nat_down a0n a0 a1 (fun y0 y1 => K (EV.rsI IntKind.u32 y0 y1) []) := by
  have h : evFnQ E_nat_down Tryd.f145 false [.rsI .u32 a0n a0, .int .i64 a1] [] K = nat_down.d a0n a0 a1 (fun y0 y1 => K (EV.rsI IntKind.u32 y0 y1) []) := by kernel_rfl
  rw [nat_down.is]; exact (evFnQ_eq _ _ _ _ _ _).symm.trans h
theorem X_nat_down.ok : SoundE Tryd.prog gl 145 e_nat_down := by
  refine fnOK (E := E_nat_down) (fn := Tryd.f145) rfl tys_ok rfl (show AllL _ [(147, e_nat_cut)] from ⟨X_nat_cut.ok, trivial⟩) mixed (by kernel_rfl) (by kernel_rfl) (by kernel_rfl) 1 (by kernel_rfl) false ⟨nat_down.l5X.ok, trivial⟩ ?_
  intro args H
  by_cases hx : ∃ (a0n : Nat) (a0 : Nat → Int) (a1 : Int), args = [.rsI .u32 a0n a0, .int .i64 a1] ∧ H = []
  · obtain ⟨a0n, a0, a1, rfl, rfl⟩ := hx
    right; intro K
    exact iff_of_eq (X_nat_down.eq a0n a0 a1 K).symm
  · left; intro K h
    simp only [e_nat_down] at h
    split at h
    · exact hx ⟨_, _, _, rfl, rfl⟩
    · exact h
noncomputable def e_nat_Right : Entry := ⟨[none, none], false, fun args H K => match args, H with
  | [.str a0, .int .i64 a1], [] => nat_Right a0 a1 (fun y0 y1 y2 => K (EV.tuple [EV.str y0, EV.bool y1, EV.int IntKind.i64 y2]) [])
  | _, _ => False⟩
noncomputable def E_nat_Right : Env := ⟨look tys, look [(121, e_nat_Check), (123, e_nat_Low), (127, e_nat_number), (131, e_nat_words), (145, e_nat_down)], look [], gl, lookL [], false⟩
theorem X_nat_Right.eq (a0 : List UInt8) (a1 : Int) (K : EV → Heap → Prop) : evFn E_nat_Right Tryd.f124 false [.str a0, .int .i64 a1] [] K = nat_Right a0 a1 (fun y0 y1 y2 => K (EV.tuple [EV.str y0, EV.bool y1, EV.int IntKind.i64 y2]) []) := by
  have h : evFnQ E_nat_Right Tryd.f124 false [.str a0, .int .i64 a1] [] K = nat_Right.d a0 a1 (fun y0 y1 y2 => K (EV.tuple [EV.str y0, EV.bool y1, EV.int IntKind.i64 y2]) []) := by kernel_rfl
  rw [nat_Right.is]; exact (evFnQ_eq _ _ _ _ _ _).symm.trans h
theorem X_nat_Right.ok : SoundE Tryd.prog gl 124 e_nat_Right := by
  refine fnOK (E := E_nat_Right) (fn := Tryd.f124) rfl tys_ok rfl (show AllL _ [(121, e_nat_Check), (123, e_nat_Low), (127, e_nat_number), (131, e_nat_words), (145, e_nat_down)] from ⟨X_nat_Check.ok, X_nat_Low.ok, X_nat_number.ok, X_nat_words.ok, X_nat_down.ok, trivial⟩) mixed (by kernel_rfl) (by kernel_rfl) (by kernel_rfl) 0 (by kernel_rfl) false trivial ?_
  intro args H
  by_cases hx : ∃ (a0 : List UInt8) (a1 : Int), args = [.str a0, .int .i64 a1] ∧ H = []
  · obtain ⟨a0, a1, rfl, rfl⟩ := hx
    right; intro K
    exact iff_of_eq (X_nat_Right.eq a0 a1 K).symm
  · left; intro K h
    simp only [e_nat_Right] at h
    split at h
    · exact hx ⟨_, _, rfl, rfl⟩
    · exact h
noncomputable def e_nat_right : Entry := ⟨[none, none], false, fun args H K => match args, H with
  | [.str a0, .str a1], [] => nat_right a0 a1 (fun y0 => K (EV.bool y0) [])
  | _, _ => False⟩
noncomputable def E_nat_right : Env := ⟨look tys, look [(121, e_nat_Check)], look [], gl, lookL [], false⟩
theorem X_nat_right.eq (a0 : List UInt8) (a1 : List UInt8) (K : EV → Heap → Prop) : evFn E_nat_right Tryd.f129 false [.str a0, .str a1] [] K = nat_right a0 a1 (fun y0 => K (EV.bool y0) []) := by
  have h : evFnQ E_nat_right Tryd.f129 false [.str a0, .str a1] [] K = nat_right.d a0 a1 (fun y0 => K (EV.bool y0) []) := by kernel_rfl
  rw [nat_right.is]; exact (evFnQ_eq _ _ _ _ _ _).symm.trans h
theorem X_nat_right.ok : SoundE Tryd.prog gl 129 e_nat_right := by
  refine fnOK (E := E_nat_right) (fn := Tryd.f129) rfl tys_ok rfl (show AllL _ [(121, e_nat_Check)] from ⟨X_nat_Check.ok, trivial⟩) mixed (by kernel_rfl) (by kernel_rfl) (by kernel_rfl) 0 (by kernel_rfl) false trivial ?_
  intro args H
  by_cases hx : ∃ (a0 : List UInt8) (a1 : List UInt8), args = [.str a0, .str a1] ∧ H = []
  · obtain ⟨a0, a1, rfl, rfl⟩ := hx
    right; intro K
    exact iff_of_eq (X_nat_right.eq a0 a1 K).symm
  · left; intro K h
    simp only [e_nat_right] at h
    split at h
    · exact hx ⟨_, _, rfl, rfl⟩
    · exact h
noncomputable def e_bits_Len64 : Entry := ⟨[none], false, fun args H K => match args, H with
  | [.int .u64 a0], [] => bits_Len64 a0 (fun y0 => K (EV.int IntKind.i64 y0) [])
  | _, _ => False⟩
noncomputable def E_bits_Len64 : Env := ⟨look tys, look [], look [], gl, lookL [], false⟩
theorem X_bits_Len64.eq (a0 : Int) (K : EV → Heap → Prop) : evFn E_bits_Len64 Tryd.f141 false [.int .u64 a0] [] K = bits_Len64 a0 (fun y0 => K (EV.int IntKind.i64 y0) []) := by
  have h : evFnQ E_bits_Len64 Tryd.f141 false [.int .u64 a0] [] K = bits_Len64.d a0 (fun y0 => K (EV.int IntKind.i64 y0) []) := by kernel_rfl
  rw [bits_Len64.is]; exact (evFnQ_eq _ _ _ _ _ _).symm.trans h
theorem X_bits_Len64.ok : SoundE Tryd.prog gl 141 e_bits_Len64 := by
  refine fnOK (E := E_bits_Len64) (fn := Tryd.f141) rfl tys_ok rfl (show AllL _ [] from trivial) mixed (by kernel_rfl) (by kernel_rfl) (by kernel_rfl) 0 (by kernel_rfl) false trivial ?_
  intro args H
  by_cases hx : ∃ (a0 : Int), args = [.int .u64 a0] ∧ H = []
  · obtain ⟨a0, rfl, rfl⟩ := hx
    right; intro K
    exact iff_of_eq (X_bits_Len64.eq a0 K).symm
  · left; intro K h
    simp only [e_bits_Len64] at h
    split at h
    · exact hx ⟨_, rfl, rfl⟩
    · exact h
noncomputable def e_word_Len : Entry := ⟨[none], false, fun args H K => match args, H with
  | [.int .u64 a0], [] => word_Len a0 (fun y0 => K (EV.int IntKind.i64 y0) [])
  | _, _ => False⟩
noncomputable def E_word_Len : Env := ⟨look tys, look [(141, e_bits_Len64)], look [], gl, lookL [], false⟩
theorem X_word_Len.eq (a0 : Int) (K : EV → Heap → Prop) : evFn E_word_Len Tryd.f112 false [.int .u64 a0] [] K = word_Len a0 (fun y0 => K (EV.int IntKind.i64 y0) []) := by
  have h : evFnQ E_word_Len Tryd.f112 false [.int .u64 a0] [] K = word_Len.d a0 (fun y0 => K (EV.int IntKind.i64 y0) []) := by kernel_rfl
  rw [word_Len.is]; exact (evFnQ_eq _ _ _ _ _ _).symm.trans h
theorem X_word_Len.ok : SoundE Tryd.prog gl 112 e_word_Len := by
  refine fnOK (E := E_word_Len) (fn := Tryd.f112) rfl tys_ok rfl (show AllL _ [(141, e_bits_Len64)] from ⟨X_bits_Len64.ok, trivial⟩) mixed (by kernel_rfl) (by kernel_rfl) (by kernel_rfl) 0 (by kernel_rfl) false trivial ?_
  intro args H
  by_cases hx : ∃ (a0 : Int), args = [.int .u64 a0] ∧ H = []
  · obtain ⟨a0, rfl, rfl⟩ := hx
    right; intro K
    exact iff_of_eq (X_word_Len.eq a0 K).symm
  · left; intro K h
    simp only [e_word_Len] at h
    split at h
    · exact hx ⟨_, rfl, rfl⟩
    · exact h
noncomputable def e_nat_cmp : Entry := ⟨[some .u32, some .u32], false, fun args H K => match args, H with
  | [.rsI .u32 a0n a0, .rsI .u32 a1n a1], [] => nat_cmp a0n a0 a1n a1 (fun y0 => K (EV.int IntKind.i64 y0) [])
  | _, _ => False⟩
noncomputable def E_nat_cmp : Env := ⟨look tys, look [], look [(6, nat_cmp.l6.entry)], gl, lookL [], false⟩
theorem nat_cmp.l6X.stepEq (R : List EV → Heap → Prop) (K : Ex → List EV → Heap → Prop) (x0 : Nat) (x1 : Nat → Int) (x2 : Nat) (x3 : Nat → Int) (x4 : Int) : loopStep (evCode E_nat_cmp (loopAt Tryd.f130 0) { (LV.mk 0 [(1, 0)] 16 0 false) with nx := live (.loop (loopAt Tryd.f130 0)) (LV.mk 0 [(1, 0)] 16 0 false) }) (live (.loop (loopAt Tryd.f130 0)) (LV.mk 0 [(1, 0)] 16 0 false)) (LV.mk 0 [(1, 0)] 16 0 false) 0 45 R [EV.rsI IntKind.u32 x0 x1, EV.rsI IntKind.u32 x2 x3, EV.int IntKind.i64 x4] [] K = nat_cmp.l6.step (fun x0 x1 x2 x3 x4 => R [EV.rsI IntKind.u32 x0 x1, EV.rsI IntKind.u32 x2 x3, EV.int IntKind.i64 x4] []) (fun y0 => K .ret [EV.int IntKind.i64 y0] []) (K (.exit 1) [] []) x0 x1 x2 x3 x4 := (stepQ_eq _ _ _ _ _ _ _ _ _ _ _).symm.trans (by kernel_rfl)
theorem nat_cmp.l6X.eq (K : Ex → List EV → Heap → Prop) : ∀ (n : Nat) (x0 : Nat) (x1 : Nat → Int) (x2 : Nat) (x3 : Nat → Int) (x4 : Int), loopE E_nat_cmp (loopAt Tryd.f130 0) (LV.mk 0 [(1, 0)] 16 0 false) 0 45 K n [EV.rsI IntKind.u32 x0 x1, EV.rsI IntKind.u32 x2 x3, EV.int IntKind.i64 x4] [] = nat_cmp.l6 (fun y0 => K .ret [EV.int IntKind.i64 y0] []) (K (.exit 1) [] []) n x0 x1 x2 x3 x4
  | 0, _, _, _, _, _ => rfl
  | n + 1, x0, x1, x2, x3, x4 => by
    have ih : (fun (x0 : Nat) (x1 : Nat → Int) (x2 : Nat) (x3 : Nat → Int) (x4 : Int) => loopE E_nat_cmp (loopAt Tryd.f130 0) (LV.mk 0 [(1, 0)] 16 0 false) 0 45 K n [EV.rsI IntKind.u32 x0 x1, EV.rsI IntKind.u32 x2 x3, EV.int IntKind.i64 x4] []) = nat_cmp.l6 (fun y0 => K .ret [EV.int IntKind.i64 y0] []) (K (.exit 1) [] []) n := by funext x0 x1 x2 x3 x4; exact nat_cmp.l6X.eq K n x0 x1 x2 x3 x4
    show loopStep _ _ _ _ _ (loopE E_nat_cmp (loopAt Tryd.f130 0) (LV.mk 0 [(1, 0)] 16 0 false) 0 45 K n) [EV.rsI IntKind.u32 x0 x1, EV.rsI IntKind.u32 x2 x3, EV.int IntKind.i64 x4] [] K = nat_cmp.l6.step (nat_cmp.l6 (fun y0 => K .ret [EV.int IntKind.i64 y0] []) (K (.exit 1) [] []) n) (fun y0 => K .ret [EV.int IntKind.i64 y0] []) (K (.exit 1) [] []) x0 x1 x2 x3 x4
    rw [← ih]
    exact nat_cmp.l6X.stepEq _ K x0 x1 x2 x3 x4
theorem nat_cmp.l6X.ok : LoopEq E_nat_cmp (loopAt Tryd.f130 0) := by
  intro L hL vs H
  have h1 : E_nat_cmp.lp (firstRegion (loopAt Tryd.f130 0)) = some nat_cmp.l6.entry := by kernel_rfl
  have h2 : L = nat_cmp.l6.entry := Option.some.inj (hL.symm.trans h1)
  subst h2
  by_cases hx : ∃ (x0 : Nat) (x1 : Nat → Int) (x2 : Nat) (x3 : Nat → Int) (x4 : Int), vs = [EV.rsI IntKind.u32 x0 x1, EV.rsI IntKind.u32 x2 x3, EV.int IntKind.i64 x4] ∧ H = []
  · obtain ⟨x0, x1, x2, x3, x4, rfl, rfl⟩ := hx
    right; intro K
    exact exists_congr fun n => iff_of_eq (nat_cmp.l6X.eq K n x0 x1 x2 x3 x4).symm
  · left; intro K h
    simp only [nat_cmp.l6.entry] at h
    split at h
    · exact hx ⟨_, _, _, _, _, rfl, rfl⟩
    · exact h
theorem X_nat_cmp.eq (a0n : Nat) (a0 : Nat → Int) (a1n : Nat) (a1 : Nat → Int) (K : EV → Heap → Prop) : evFn E_nat_cmp Tryd.f130 false [.rsI .u32 a0n a0, .rsI .u32 a1n a1] [] K = nat_cmp a0n a0 a1n a1 (fun y0 => K (EV.int IntKind.i64 y0) []) := by
  have h : evFnQ E_nat_cmp Tryd.f130 false [.rsI .u32 a0n a0, .rsI .u32 a1n a1] [] K = nat_cmp.d a0n a0 a1n a1 (fun y0 => K (EV.int IntKind.i64 y0) []) := by kernel_rfl
  rw [nat_cmp.is]; exact (evFnQ_eq _ _ _ _ _ _).symm.trans h
theorem X_nat_cmp.ok : SoundE Tryd.prog gl 130 e_nat_cmp := by
  refine fnOK (E := E_nat_cmp) (fn := Tryd.f130) rfl tys_ok rfl (show AllL _ [] from trivial) mixed (by kernel_rfl) (by kernel_rfl) (by kernel_rfl) 1 (by kernel_rfl) false ⟨nat_cmp.l6X.ok, trivial⟩ ?_
  intro args H
  by_cases hx : ∃ (a0n : Nat) (a0 : Nat → Int) (a1n : Nat) (a1 : Nat → Int), args = [.rsI .u32 a0n a0, .rsI .u32 a1n a1] ∧ H = []
  · obtain ⟨a0n, a0, a1n, a1, rfl, rfl⟩ := hx
    right; intro K
    exact iff_of_eq (X_nat_cmp.eq a0n a0 a1n a1 K).symm
  · left; intro K h
    simp only [e_nat_cmp] at h
    split at h
    · exact hx ⟨_, _, _, _, rfl, rfl⟩
    · exact h
noncomputable def e_nat_up : Entry := ⟨[some .u32, none], true, fun args H K => match args, H with
  | [.rsI .u32 a0n a0, .int .i64 a1], [] => nat_up a0n a0 a1 (K (EV.nilSlice) []) (fun y0 y1 y2 y3 => K (EV.slice 0 0 y0 (some y1) 1) [some (EV.arr IntKind.u32 y2 y3)])
  | _, _ => False⟩
noncomputable def E_nat_up : Env := ⟨look tys, look [(147, e_nat_cut)], look [(5, nat_up.l5.entry)], gl, lookL [], false⟩
theorem nat_up.l5X.stepEq (R : List EV → Heap → Prop) (K : Ex → List EV → Heap → Prop) (x0 : Int) (x1 : Nat) (x2 : Nat) (x3 : Nat) (x4 : Nat → Int) (x5 : Int) (x6 : Int) (x7 : Nat) (x8 : Nat → Int) : loopStep (evCode E_nat_up (loopAt Tryd.f148 0) { (LV.mk 32 [(0, 32)] 16 0 false) with nx := live (.loop (loopAt Tryd.f148 0)) (LV.mk 32 [(0, 32)] 16 0 false) }) (live (.loop (loopAt Tryd.f148 0)) (LV.mk 32 [(0, 32)] 16 0 false)) (LV.mk 32 [(0, 32)] 16 0 false) 0 59 R [EV.int IntKind.i64 x0, EV.slice 0 0 x1 (some x2) 1, EV.rsI IntKind.u32 x3 x4, EV.int IntKind.i64 x5, EV.int IntKind.i64 x6] [some (EV.arr IntKind.u32 x7 x8)] K = nat_up.l5.step (fun x0 x1 x2 x3 x4 x5 x6 x7 x8 => R [EV.int IntKind.i64 x0, EV.slice 0 0 x1 (some x2) 1, EV.rsI IntKind.u32 x3 x4, EV.int IntKind.i64 x5, EV.int IntKind.i64 x6] [some (EV.arr IntKind.u32 x7 x8)]) (fun y0 y1 y2 y3 => K (.exit 0) [EV.slice 0 0 y0 (some y1) 1] [some (EV.arr IntKind.u32 y2 y3)]) x0 x1 x2 x3 x4 x5 x6 x7 x8 := (stepQ_eq _ _ _ _ _ _ _ _ _ _ _).symm.trans (by kernel_rfl)
theorem nat_up.l5X.eq (K : Ex → List EV → Heap → Prop) : ∀ (n : Nat) (x0 : Int) (x1 : Nat) (x2 : Nat) (x3 : Nat) (x4 : Nat → Int) (x5 : Int) (x6 : Int) (x7 : Nat) (x8 : Nat → Int), loopE E_nat_up (loopAt Tryd.f148 0) (LV.mk 32 [(0, 32)] 16 0 false) 0 59 K n [EV.int IntKind.i64 x0, EV.slice 0 0 x1 (some x2) 1, EV.rsI IntKind.u32 x3 x4, EV.int IntKind.i64 x5, EV.int IntKind.i64 x6] [some (EV.arr IntKind.u32 x7 x8)] = nat_up.l5 (fun y0 y1 y2 y3 => K (.exit 0) [EV.slice 0 0 y0 (some y1) 1] [some (EV.arr IntKind.u32 y2 y3)]) n x0 x1 x2 x3 x4 x5 x6 x7 x8
  | 0, _, _, _, _, _, _, _, _, _ => rfl
  | n + 1, x0, x1, x2, x3, x4, x5, x6, x7, x8 => by
    have ih : (fun (x0 : Int) (x1 : Nat) (x2 : Nat) (x3 : Nat) (x4 : Nat → Int) (x5 : Int) (x6 : Int) (x7 : Nat) (x8 : Nat → Int) => loopE E_nat_up (loopAt Tryd.f148 0) (LV.mk 32 [(0, 32)] 16 0 false) 0 59 K n [EV.int IntKind.i64 x0, EV.slice 0 0 x1 (some x2) 1, EV.rsI IntKind.u32 x3 x4, EV.int IntKind.i64 x5, EV.int IntKind.i64 x6] [some (EV.arr IntKind.u32 x7 x8)]) = nat_up.l5 (fun y0 y1 y2 y3 => K (.exit 0) [EV.slice 0 0 y0 (some y1) 1] [some (EV.arr IntKind.u32 y2 y3)]) n := by funext x0 x1 x2 x3 x4 x5 x6 x7 x8; exact nat_up.l5X.eq K n x0 x1 x2 x3 x4 x5 x6 x7 x8
    show loopStep _ _ _ _ _ (loopE E_nat_up (loopAt Tryd.f148 0) (LV.mk 32 [(0, 32)] 16 0 false) 0 59 K n) [EV.int IntKind.i64 x0, EV.slice 0 0 x1 (some x2) 1, EV.rsI IntKind.u32 x3 x4, EV.int IntKind.i64 x5, EV.int IntKind.i64 x6] [some (EV.arr IntKind.u32 x7 x8)] K = nat_up.l5.step (nat_up.l5 (fun y0 y1 y2 y3 => K (.exit 0) [EV.slice 0 0 y0 (some y1) 1] [some (EV.arr IntKind.u32 y2 y3)]) n) (fun y0 y1 y2 y3 => K (.exit 0) [EV.slice 0 0 y0 (some y1) 1] [some (EV.arr IntKind.u32 y2 y3)]) x0 x1 x2 x3 x4 x5 x6 x7 x8
    rw [← ih]
    exact nat_up.l5X.stepEq _ K x0 x1 x2 x3 x4 x5 x6 x7 x8
theorem nat_up.l5X.ok : LoopEq E_nat_up (loopAt Tryd.f148 0) := by
  intro L hL vs H
  have h1 : E_nat_up.lp (firstRegion (loopAt Tryd.f148 0)) = some nat_up.l5.entry := by kernel_rfl
  have h2 : L = nat_up.l5.entry := Option.some.inj (hL.symm.trans h1)
  subst h2
  by_cases hx : ∃ (x0 : Int) (x1 : Nat) (x2 : Nat) (x3 : Nat) (x4 : Nat → Int) (x5 : Int) (x6 : Int) (x7 : Nat) (x8 : Nat → Int), vs = [EV.int IntKind.i64 x0, EV.slice 0 0 x1 (some x2) 1, EV.rsI IntKind.u32 x3 x4, EV.int IntKind.i64 x5, EV.int IntKind.i64 x6] ∧ H = [some (EV.arr IntKind.u32 x7 x8)]
  · obtain ⟨x0, x1, x2, x3, x4, x5, x6, x7, x8, rfl, rfl⟩ := hx
    right; intro K
    exact exists_congr fun n => iff_of_eq (nat_up.l5X.eq K n x0 x1 x2 x3 x4 x5 x6 x7 x8).symm
  · left; intro K h
    simp only [nat_up.l5.entry] at h
    split at h
    · exact hx ⟨_, _, _, _, _, _, _, _, _, rfl, rfl⟩
    · exact h
theorem X_nat_up.eq (a0n : Nat) (a0 : Nat → Int) (a1 : Int) (K : EV → Heap → Prop) : evFn E_nat_up Tryd.f148 true [.rsI .u32 a0n a0, .int .i64 a1] [] K = nat_up a0n a0 a1 (K (EV.nilSlice) []) (fun y0 y1 y2 y3 => K (EV.slice 0 0 y0 (some y1) 1) [some (EV.arr IntKind.u32 y2 y3)]) := by
  have h : evFnQ E_nat_up Tryd.f148 true [.rsI .u32 a0n a0, .int .i64 a1] [] K = nat_up.d a0n a0 a1 (K (EV.nilSlice) []) (fun y0 y1 y2 y3 => K (EV.slice 0 0 y0 (some y1) 1) [some (EV.arr IntKind.u32 y2 y3)]) := by kernel_rfl
  rw [nat_up.is]; exact (evFnQ_eq _ _ _ _ _ _).symm.trans h
theorem X_nat_up.ok : SoundE Tryd.prog gl 148 e_nat_up := by
  refine fnOK (E := E_nat_up) (fn := Tryd.f148) rfl tys_ok rfl (show AllL _ [(147, e_nat_cut)] from ⟨X_nat_cut.ok, trivial⟩) mixed (by kernel_rfl) (by kernel_rfl) (by kernel_rfl) 1 (by kernel_rfl) true ⟨nat_up.l5X.ok, trivial⟩ ?_
  intro args H
  by_cases hx : ∃ (a0n : Nat) (a0 : Nat → Int) (a1 : Int), args = [.rsI .u32 a0n a0, .int .i64 a1] ∧ H = []
  · obtain ⟨a0n, a0, a1, rfl, rfl⟩ := hx
    right; intro K
    exact iff_of_eq (X_nat_up.eq a0n a0 a1 K).symm
  · left; intro K h
    simp only [e_nat_up] at h
    split at h
    · exact hx ⟨_, _, _, rfl, rfl⟩
    · exact h
noncomputable def e_nat_upN : Entry := Entry.nonil e_nat_up
theorem X_nat_upN.ok : SoundE Tryd.prog gl 148 e_nat_upN := SoundE.nonil X_nat_up.ok
noncomputable def e_nat_parts : Entry := ⟨[some .u32, some .u32], false, fun args H K => match args, H with
  | [.rsI .u32 a0n a0, .rsI .u32 a1n a1], [] => nat_parts a0n a0 a1n a1 (fun y0 y1 y2 y3 => K (EV.tuple [EV.rsI IntKind.u32 y0 y1, EV.rsI IntKind.u32 y2 y3]) [])
  | _, _ => False⟩
noncomputable def E_nat_parts : Env := ⟨look tys, look [(112, e_word_Len), (130, e_nat_cmp), (145, e_nat_down), (147, e_nat_cut), (148, e_nat_upN)], look [(7, nat_parts.l7.entry), (16, nat_parts.l16.entry), (20, nat_parts.l20.entry), (24, nat_parts.l24.entry), (31, nat_parts.l31.entry), (45, nat_parts.l45.entry)], gl, lookL [], true⟩
theorem nat_parts.l7X.stepEq (R : List EV → Heap → Prop) (K : Ex → List EV → Heap → Prop) (x0 : Nat) (x1 : Nat → Int) (x2 : Nat) (x3 : Nat → Int) (x4 : Nat) (x5 : Int) (x6 : Int) (x7 : Nat) (x8 : Nat → Int) : loopStep (evCode E_nat_parts (loopAt Tryd.f146 0) { (LV.mk 80 [(0, 80)] 48 0 true) with nx := live (.loop (loopAt Tryd.f146 0)) (LV.mk 80 [(0, 80)] 48 0 true) }) (live (.loop (loopAt Tryd.f146 0)) (LV.mk 80 [(0, 80)] 48 0 true)) (LV.mk 80 [(0, 80)] 48 0 true) 0 285 R [EV.rsI IntKind.u32 x0 x1, EV.rsI IntKind.u32 x2 x3, EV.slice 0 0 x4 none 1, EV.int IntKind.u64 x5, EV.int IntKind.i64 x6] [some (EV.arr IntKind.u32 x7 x8)] K = nat_parts.l7.step (fun x0 x1 x2 x3 x4 x5 x6 x7 x8 => R [EV.rsI IntKind.u32 x0 x1, EV.rsI IntKind.u32 x2 x3, EV.slice 0 0 x4 none 1, EV.int IntKind.u64 x5, EV.int IntKind.i64 x6] [some (EV.arr IntKind.u32 x7 x8)]) (fun y0 y1 y2 y3 => K (.exit 0) [EV.slice 0 0 y0 none 1, EV.int IntKind.u64 y1] [some (EV.arr IntKind.u32 y2 y3)]) x0 x1 x2 x3 x4 x5 x6 x7 x8 := (stepQ_eq _ _ _ _ _ _ _ _ _ _ _).symm.trans (by kernel_rfl)
theorem nat_parts.l7X.eq (K : Ex → List EV → Heap → Prop) : ∀ (n : Nat) (x0 : Nat) (x1 : Nat → Int) (x2 : Nat) (x3 : Nat → Int) (x4 : Nat) (x5 : Int) (x6 : Int) (x7 : Nat) (x8 : Nat → Int), loopE E_nat_parts (loopAt Tryd.f146 0) (LV.mk 80 [(0, 80)] 48 0 true) 0 285 K n [EV.rsI IntKind.u32 x0 x1, EV.rsI IntKind.u32 x2 x3, EV.slice 0 0 x4 none 1, EV.int IntKind.u64 x5, EV.int IntKind.i64 x6] [some (EV.arr IntKind.u32 x7 x8)] = nat_parts.l7 (fun y0 y1 y2 y3 => K (.exit 0) [EV.slice 0 0 y0 none 1, EV.int IntKind.u64 y1] [some (EV.arr IntKind.u32 y2 y3)]) n x0 x1 x2 x3 x4 x5 x6 x7 x8
  | 0, _, _, _, _, _, _, _, _, _ => rfl
  | n + 1, x0, x1, x2, x3, x4, x5, x6, x7, x8 => by
    have ih : (fun (x0 : Nat) (x1 : Nat → Int) (x2 : Nat) (x3 : Nat → Int) (x4 : Nat) (x5 : Int) (x6 : Int) (x7 : Nat) (x8 : Nat → Int) => loopE E_nat_parts (loopAt Tryd.f146 0) (LV.mk 80 [(0, 80)] 48 0 true) 0 285 K n [EV.rsI IntKind.u32 x0 x1, EV.rsI IntKind.u32 x2 x3, EV.slice 0 0 x4 none 1, EV.int IntKind.u64 x5, EV.int IntKind.i64 x6] [some (EV.arr IntKind.u32 x7 x8)]) = nat_parts.l7 (fun y0 y1 y2 y3 => K (.exit 0) [EV.slice 0 0 y0 none 1, EV.int IntKind.u64 y1] [some (EV.arr IntKind.u32 y2 y3)]) n := by funext x0 x1 x2 x3 x4 x5 x6 x7 x8; exact nat_parts.l7X.eq K n x0 x1 x2 x3 x4 x5 x6 x7 x8
    show loopStep _ _ _ _ _ (loopE E_nat_parts (loopAt Tryd.f146 0) (LV.mk 80 [(0, 80)] 48 0 true) 0 285 K n) [EV.rsI IntKind.u32 x0 x1, EV.rsI IntKind.u32 x2 x3, EV.slice 0 0 x4 none 1, EV.int IntKind.u64 x5, EV.int IntKind.i64 x6] [some (EV.arr IntKind.u32 x7 x8)] K = nat_parts.l7.step (nat_parts.l7 (fun y0 y1 y2 y3 => K (.exit 0) [EV.slice 0 0 y0 none 1, EV.int IntKind.u64 y1] [some (EV.arr IntKind.u32 y2 y3)]) n) (fun y0 y1 y2 y3 => K (.exit 0) [EV.slice 0 0 y0 none 1, EV.int IntKind.u64 y1] [some (EV.arr IntKind.u32 y2 y3)]) x0 x1 x2 x3 x4 x5 x6 x7 x8
    rw [← ih]
    exact nat_parts.l7X.stepEq _ K x0 x1 x2 x3 x4 x5 x6 x7 x8
theorem nat_parts.l7X.ok : LoopEq E_nat_parts (loopAt Tryd.f146 0) := by
  intro L hL vs H
  have h1 : E_nat_parts.lp (firstRegion (loopAt Tryd.f146 0)) = some nat_parts.l7.entry := by kernel_rfl
  have h2 : L = nat_parts.l7.entry := Option.some.inj (hL.symm.trans h1)
  subst h2
  by_cases hx : ∃ (x0 : Nat) (x1 : Nat → Int) (x2 : Nat) (x3 : Nat → Int) (x4 : Nat) (x5 : Int) (x6 : Int) (x7 : Nat) (x8 : Nat → Int), vs = [EV.rsI IntKind.u32 x0 x1, EV.rsI IntKind.u32 x2 x3, EV.slice 0 0 x4 none 1, EV.int IntKind.u64 x5, EV.int IntKind.i64 x6] ∧ H = [some (EV.arr IntKind.u32 x7 x8)]
  · obtain ⟨x0, x1, x2, x3, x4, x5, x6, x7, x8, rfl, rfl⟩ := hx
    right; intro K
    exact exists_congr fun n => iff_of_eq (nat_parts.l7X.eq K n x0 x1 x2 x3 x4 x5 x6 x7 x8).symm
  · left; intro K h
    simp only [nat_parts.l7.entry] at h
    split at h
    · exact hx ⟨_, _, _, _, _, _, _, _, _, rfl, rfl⟩
    · exact h
theorem nat_parts.l16X.stepEq (R : List EV → Heap → Prop) (K : Ex → List EV → Heap → Prop) (x0 : Nat) (x1 : Nat → Int) (x2 : Nat) (x3 : Int) (x4 : Nat) (x5 : Nat) (x6 : Nat) (x7 : Nat → Int) (x8 : Nat) (x9 : Nat → Int) (x10 : Nat) (x11 : Nat → Int) : loopStep (evCode E_nat_parts (loopAt Tryd.f146 1) { (LV.mk 1808 [(2, 1808)] 48 0 true) with nx := live (.loop (loopAt Tryd.f146 1)) (LV.mk 1808 [(2, 1808)] 48 0 true) }) (live (.loop (loopAt Tryd.f146 1)) (LV.mk 1808 [(2, 1808)] 48 0 true)) (LV.mk 1808 [(2, 1808)] 48 0 true) 0 285 R [EV.rsI IntKind.u32 x0 x1, EV.slice 0 0 x2 none 1, EV.int IntKind.i64 x3, EV.slice 1 0 x4 none 1, EV.slice 2 0 x5 none 1] [some (EV.arr IntKind.u32 x6 x7), some (EV.arr IntKind.u32 x8 x9), some (EV.arr IntKind.u32 x10 x11)] K = nat_parts.l16.step (fun x0 x1 x2 x3 x4 x5 x6 x7 x8 x9 x10 x11 => R [EV.rsI IntKind.u32 x0 x1, EV.slice 0 0 x2 none 1, EV.int IntKind.i64 x3, EV.slice 1 0 x4 none 1, EV.slice 2 0 x5 none 1] [some (EV.arr IntKind.u32 x6 x7), some (EV.arr IntKind.u32 x8 x9), some (EV.arr IntKind.u32 x10 x11)]) (fun y0 y1 y2 y3 y4 y5 y6 y7 y8 y9 => K (.exit 2) [EV.slice 0 0 y0 none 1, EV.int IntKind.i64 y1, EV.slice 1 0 y2 none 1, EV.slice 2 0 y3 none 1] [some (EV.arr IntKind.u32 y4 y5), some (EV.arr IntKind.u32 y6 y7), some (EV.arr IntKind.u32 y8 y9)]) x0 x1 x2 x3 x4 x5 x6 x7 x8 x9 x10 x11 := (stepQ_eq _ _ _ _ _ _ _ _ _ _ _).symm.trans (by kernel_rfl)
theorem nat_parts.l16X.eq (K : Ex → List EV → Heap → Prop) : ∀ (n : Nat) (x0 : Nat) (x1 : Nat → Int) (x2 : Nat) (x3 : Int) (x4 : Nat) (x5 : Nat) (x6 : Nat) (x7 : Nat → Int) (x8 : Nat) (x9 : Nat → Int) (x10 : Nat) (x11 : Nat → Int), loopE E_nat_parts (loopAt Tryd.f146 1) (LV.mk 1808 [(2, 1808)] 48 0 true) 0 285 K n [EV.rsI IntKind.u32 x0 x1, EV.slice 0 0 x2 none 1, EV.int IntKind.i64 x3, EV.slice 1 0 x4 none 1, EV.slice 2 0 x5 none 1] [some (EV.arr IntKind.u32 x6 x7), some (EV.arr IntKind.u32 x8 x9), some (EV.arr IntKind.u32 x10 x11)] = nat_parts.l16 (fun y0 y1 y2 y3 y4 y5 y6 y7 y8 y9 => K (.exit 2) [EV.slice 0 0 y0 none 1, EV.int IntKind.i64 y1, EV.slice 1 0 y2 none 1, EV.slice 2 0 y3 none 1] [some (EV.arr IntKind.u32 y4 y5), some (EV.arr IntKind.u32 y6 y7), some (EV.arr IntKind.u32 y8 y9)]) n x0 x1 x2 x3 x4 x5 x6 x7 x8 x9 x10 x11
  | 0, _, _, _, _, _, _, _, _, _, _, _, _ => rfl
  | n + 1, x0, x1, x2, x3, x4, x5, x6, x7, x8, x9, x10, x11 => by
    have ih : (fun (x0 : Nat) (x1 : Nat → Int) (x2 : Nat) (x3 : Int) (x4 : Nat) (x5 : Nat) (x6 : Nat) (x7 : Nat → Int) (x8 : Nat) (x9 : Nat → Int) (x10 : Nat) (x11 : Nat → Int) => loopE E_nat_parts (loopAt Tryd.f146 1) (LV.mk 1808 [(2, 1808)] 48 0 true) 0 285 K n [EV.rsI IntKind.u32 x0 x1, EV.slice 0 0 x2 none 1, EV.int IntKind.i64 x3, EV.slice 1 0 x4 none 1, EV.slice 2 0 x5 none 1] [some (EV.arr IntKind.u32 x6 x7), some (EV.arr IntKind.u32 x8 x9), some (EV.arr IntKind.u32 x10 x11)]) = nat_parts.l16 (fun y0 y1 y2 y3 y4 y5 y6 y7 y8 y9 => K (.exit 2) [EV.slice 0 0 y0 none 1, EV.int IntKind.i64 y1, EV.slice 1 0 y2 none 1, EV.slice 2 0 y3 none 1] [some (EV.arr IntKind.u32 y4 y5), some (EV.arr IntKind.u32 y6 y7), some (EV.arr IntKind.u32 y8 y9)]) n := by funext x0 x1 x2 x3 x4 x5 x6 x7 x8 x9 x10 x11; exact nat_parts.l16X.eq K n x0 x1 x2 x3 x4 x5 x6 x7 x8 x9 x10 x11
    show loopStep _ _ _ _ _ (loopE E_nat_parts (loopAt Tryd.f146 1) (LV.mk 1808 [(2, 1808)] 48 0 true) 0 285 K n) [EV.rsI IntKind.u32 x0 x1, EV.slice 0 0 x2 none 1, EV.int IntKind.i64 x3, EV.slice 1 0 x4 none 1, EV.slice 2 0 x5 none 1] [some (EV.arr IntKind.u32 x6 x7), some (EV.arr IntKind.u32 x8 x9), some (EV.arr IntKind.u32 x10 x11)] K = nat_parts.l16.step (nat_parts.l16 (fun y0 y1 y2 y3 y4 y5 y6 y7 y8 y9 => K (.exit 2) [EV.slice 0 0 y0 none 1, EV.int IntKind.i64 y1, EV.slice 1 0 y2 none 1, EV.slice 2 0 y3 none 1] [some (EV.arr IntKind.u32 y4 y5), some (EV.arr IntKind.u32 y6 y7), some (EV.arr IntKind.u32 y8 y9)]) n) (fun y0 y1 y2 y3 y4 y5 y6 y7 y8 y9 => K (.exit 2) [EV.slice 0 0 y0 none 1, EV.int IntKind.i64 y1, EV.slice 1 0 y2 none 1, EV.slice 2 0 y3 none 1] [some (EV.arr IntKind.u32 y4 y5), some (EV.arr IntKind.u32 y6 y7), some (EV.arr IntKind.u32 y8 y9)]) x0 x1 x2 x3 x4 x5 x6 x7 x8 x9 x10 x11
    rw [← ih]
    exact nat_parts.l16X.stepEq _ K x0 x1 x2 x3 x4 x5 x6 x7 x8 x9 x10 x11
theorem nat_parts.l16X.ok : LoopEq E_nat_parts (loopAt Tryd.f146 1) := by
  intro L hL vs H
  have h1 : E_nat_parts.lp (firstRegion (loopAt Tryd.f146 1)) = some nat_parts.l16.entry := by kernel_rfl
  have h2 : L = nat_parts.l16.entry := Option.some.inj (hL.symm.trans h1)
  subst h2
  by_cases hx : ∃ (x0 : Nat) (x1 : Nat → Int) (x2 : Nat) (x3 : Int) (x4 : Nat) (x5 : Nat) (x6 : Nat) (x7 : Nat → Int) (x8 : Nat) (x9 : Nat → Int) (x10 : Nat) (x11 : Nat → Int), vs = [EV.rsI IntKind.u32 x0 x1, EV.slice 0 0 x2 none 1, EV.int IntKind.i64 x3, EV.slice 1 0 x4 none 1, EV.slice 2 0 x5 none 1] ∧ H = [some (EV.arr IntKind.u32 x6 x7), some (EV.arr IntKind.u32 x8 x9), some (EV.arr IntKind.u32 x10 x11)]
  · obtain ⟨x0, x1, x2, x3, x4, x5, x6, x7, x8, x9, x10, x11, rfl, rfl⟩ := hx
    right; intro K
    exact exists_congr fun n => iff_of_eq (nat_parts.l16X.eq K n x0 x1 x2 x3 x4 x5 x6 x7 x8 x9 x10 x11).symm
  · left; intro K h
    simp only [nat_parts.l16.entry] at h
    split at h
    · exact hx ⟨_, _, _, _, _, _, _, _, _, _, _, _, rfl, rfl⟩
    · exact h
theorem nat_parts.l20X.stepEq (R : List EV → Heap → Prop) (K : Ex → List EV → Heap → Prop) (x0 : Nat) (x1 : Int) (x2 : Nat) (x3 : Nat) (x4 : Int) (x5 : Int) (x6 : Nat) (x7 : Nat → Int) (x8 : Nat) (x9 : Nat → Int) (x10 : Nat) (x11 : Nat → Int) : loopStep (evCode E_nat_parts (loopAt Tryd.f146 2) { (LV.mk 1296 [(4, 1296)] 48 0 true) with nx := live (.loop (loopAt Tryd.f146 2)) (LV.mk 1296 [(4, 1296)] 48 0 true) }) (live (.loop (loopAt Tryd.f146 2)) (LV.mk 1296 [(4, 1296)] 48 0 true)) (LV.mk 1296 [(4, 1296)] 48 0 true) 0 285 R [EV.slice 0 0 x0 none 1, EV.int IntKind.i64 x1, EV.slice 1 0 x2 none 1, EV.slice 2 0 x3 none 1, EV.int IntKind.i64 x4, EV.int IntKind.i64 x5] [some (EV.arr IntKind.u32 x6 x7), some (EV.arr IntKind.u32 x8 x9), some (EV.arr IntKind.u32 x10 x11)] K = nat_parts.l20.step (fun x0 x1 x2 x3 x4 x5 x6 x7 x8 x9 x10 x11 => R [EV.slice 0 0 x0 none 1, EV.int IntKind.i64 x1, EV.slice 1 0 x2 none 1, EV.slice 2 0 x3 none 1, EV.int IntKind.i64 x4, EV.int IntKind.i64 x5] [some (EV.arr IntKind.u32 x6 x7), some (EV.arr IntKind.u32 x8 x9), some (EV.arr IntKind.u32 x10 x11)]) (fun y0 y1 y2 y3 y4 y5 y6 => K (.exit 4) [EV.slice 0 0 y0 none 1, EV.int IntKind.i64 y1, EV.slice 1 0 y2 none 1] [some (EV.arr IntKind.u32 y3 y4), some (EV.arr IntKind.u32 y5 y6)]) x0 x1 x2 x3 x4 x5 x6 x7 x8 x9 x10 x11 := (stepQ_eq _ _ _ _ _ _ _ _ _ _ _).symm.trans (by kernel_rfl)
theorem nat_parts.l20X.eq (K : Ex → List EV → Heap → Prop) : ∀ (n : Nat) (x0 : Nat) (x1 : Int) (x2 : Nat) (x3 : Nat) (x4 : Int) (x5 : Int) (x6 : Nat) (x7 : Nat → Int) (x8 : Nat) (x9 : Nat → Int) (x10 : Nat) (x11 : Nat → Int), loopE E_nat_parts (loopAt Tryd.f146 2) (LV.mk 1296 [(4, 1296)] 48 0 true) 0 285 K n [EV.slice 0 0 x0 none 1, EV.int IntKind.i64 x1, EV.slice 1 0 x2 none 1, EV.slice 2 0 x3 none 1, EV.int IntKind.i64 x4, EV.int IntKind.i64 x5] [some (EV.arr IntKind.u32 x6 x7), some (EV.arr IntKind.u32 x8 x9), some (EV.arr IntKind.u32 x10 x11)] = nat_parts.l20 (fun y0 y1 y2 y3 y4 y5 y6 => K (.exit 4) [EV.slice 0 0 y0 none 1, EV.int IntKind.i64 y1, EV.slice 1 0 y2 none 1] [some (EV.arr IntKind.u32 y3 y4), some (EV.arr IntKind.u32 y5 y6)]) n x0 x1 x2 x3 x4 x5 x6 x7 x8 x9 x10 x11
  | 0, _, _, _, _, _, _, _, _, _, _, _, _ => rfl
  | n + 1, x0, x1, x2, x3, x4, x5, x6, x7, x8, x9, x10, x11 => by
    have ih : (fun (x0 : Nat) (x1 : Int) (x2 : Nat) (x3 : Nat) (x4 : Int) (x5 : Int) (x6 : Nat) (x7 : Nat → Int) (x8 : Nat) (x9 : Nat → Int) (x10 : Nat) (x11 : Nat → Int) => loopE E_nat_parts (loopAt Tryd.f146 2) (LV.mk 1296 [(4, 1296)] 48 0 true) 0 285 K n [EV.slice 0 0 x0 none 1, EV.int IntKind.i64 x1, EV.slice 1 0 x2 none 1, EV.slice 2 0 x3 none 1, EV.int IntKind.i64 x4, EV.int IntKind.i64 x5] [some (EV.arr IntKind.u32 x6 x7), some (EV.arr IntKind.u32 x8 x9), some (EV.arr IntKind.u32 x10 x11)]) = nat_parts.l20 (fun y0 y1 y2 y3 y4 y5 y6 => K (.exit 4) [EV.slice 0 0 y0 none 1, EV.int IntKind.i64 y1, EV.slice 1 0 y2 none 1] [some (EV.arr IntKind.u32 y3 y4), some (EV.arr IntKind.u32 y5 y6)]) n := by funext x0 x1 x2 x3 x4 x5 x6 x7 x8 x9 x10 x11; exact nat_parts.l20X.eq K n x0 x1 x2 x3 x4 x5 x6 x7 x8 x9 x10 x11
    show loopStep _ _ _ _ _ (loopE E_nat_parts (loopAt Tryd.f146 2) (LV.mk 1296 [(4, 1296)] 48 0 true) 0 285 K n) [EV.slice 0 0 x0 none 1, EV.int IntKind.i64 x1, EV.slice 1 0 x2 none 1, EV.slice 2 0 x3 none 1, EV.int IntKind.i64 x4, EV.int IntKind.i64 x5] [some (EV.arr IntKind.u32 x6 x7), some (EV.arr IntKind.u32 x8 x9), some (EV.arr IntKind.u32 x10 x11)] K = nat_parts.l20.step (nat_parts.l20 (fun y0 y1 y2 y3 y4 y5 y6 => K (.exit 4) [EV.slice 0 0 y0 none 1, EV.int IntKind.i64 y1, EV.slice 1 0 y2 none 1] [some (EV.arr IntKind.u32 y3 y4), some (EV.arr IntKind.u32 y5 y6)]) n) (fun y0 y1 y2 y3 y4 y5 y6 => K (.exit 4) [EV.slice 0 0 y0 none 1, EV.int IntKind.i64 y1, EV.slice 1 0 y2 none 1] [some (EV.arr IntKind.u32 y3 y4), some (EV.arr IntKind.u32 y5 y6)]) x0 x1 x2 x3 x4 x5 x6 x7 x8 x9 x10 x11
    rw [← ih]
    exact nat_parts.l20X.stepEq _ K x0 x1 x2 x3 x4 x5 x6 x7 x8 x9 x10 x11
theorem nat_parts.l20X.ok : LoopEq E_nat_parts (loopAt Tryd.f146 2) := by
  intro L hL vs H
  have h1 : E_nat_parts.lp (firstRegion (loopAt Tryd.f146 2)) = some nat_parts.l20.entry := by kernel_rfl
  have h2 : L = nat_parts.l20.entry := Option.some.inj (hL.symm.trans h1)
  subst h2
  by_cases hx : ∃ (x0 : Nat) (x1 : Int) (x2 : Nat) (x3 : Nat) (x4 : Int) (x5 : Int) (x6 : Nat) (x7 : Nat → Int) (x8 : Nat) (x9 : Nat → Int) (x10 : Nat) (x11 : Nat → Int), vs = [EV.slice 0 0 x0 none 1, EV.int IntKind.i64 x1, EV.slice 1 0 x2 none 1, EV.slice 2 0 x3 none 1, EV.int IntKind.i64 x4, EV.int IntKind.i64 x5] ∧ H = [some (EV.arr IntKind.u32 x6 x7), some (EV.arr IntKind.u32 x8 x9), some (EV.arr IntKind.u32 x10 x11)]
  · obtain ⟨x0, x1, x2, x3, x4, x5, x6, x7, x8, x9, x10, x11, rfl, rfl⟩ := hx
    right; intro K
    exact exists_congr fun n => iff_of_eq (nat_parts.l20X.eq K n x0 x1 x2 x3 x4 x5 x6 x7 x8 x9 x10 x11).symm
  · left; intro K h
    simp only [nat_parts.l20.entry] at h
    split at h
    · exact hx ⟨_, _, _, _, _, _, _, _, _, _, _, _, rfl, rfl⟩
    · exact h
theorem nat_parts.l24X.stepEq (R : List EV → Heap → Prop) (K : Ex → List EV → Heap → Prop) (x0 : Nat) (x1 : Int) (x2 : Nat) (x3 : Nat) (x4 : Int) (x5 : Int) (x6 : Int) (x7 : Int) (x8 : Nat) (x9 : Nat → Int) (x10 : Nat) (x11 : Nat → Int) (x12 : Nat) (x13 : Nat → Int) : loopStep (evCode E_nat_parts (loopAt Tryd.f146 3) { (LV.mk 24336 [(6, 24336), (5, 7952), (4, 1296)] 48 0 true) with nx := live (.loop (loopAt Tryd.f146 3)) (LV.mk 24336 [(6, 24336), (5, 7952), (4, 1296)] 48 0 true) }) (live (.loop (loopAt Tryd.f146 3)) (LV.mk 24336 [(6, 24336), (5, 7952), (4, 1296)] 48 0 true)) (LV.mk 24336 [(6, 24336), (5, 7952), (4, 1296)] 48 0 true) 0 285 R [EV.slice 0 0 x0 none 1, EV.int IntKind.i64 x1, EV.slice 1 0 x2 none 1, EV.slice 2 0 x3 none 1, EV.int IntKind.i64 x4, EV.int IntKind.i64 x5, EV.int IntKind.u64 x6, EV.int IntKind.u64 x7] [some (EV.arr IntKind.u32 x8 x9), some (EV.arr IntKind.u32 x10 x11), some (EV.arr IntKind.u32 x12 x13)] K = nat_parts.l24.step (fun x0 x1 x2 x3 x4 x5 x6 x7 x8 x9 x10 x11 x12 x13 => R [EV.slice 0 0 x0 none 1, EV.int IntKind.i64 x1, EV.slice 1 0 x2 none 1, EV.slice 2 0 x3 none 1, EV.int IntKind.i64 x4, EV.int IntKind.i64 x5, EV.int IntKind.u64 x6, EV.int IntKind.u64 x7] [some (EV.arr IntKind.u32 x8 x9), some (EV.arr IntKind.u32 x10 x11), some (EV.arr IntKind.u32 x12 x13)]) (fun y0 y1 y2 y3 y4 y5 y6 y7 y8 y9 y10 y11 y12 => K (.exit 6) [EV.slice 0 0 y0 none 1, EV.int IntKind.i64 y1, EV.slice 1 0 y2 none 1, EV.slice 2 0 y3 none 1, EV.int IntKind.i64 y4, EV.int IntKind.i64 y5, EV.int IntKind.u64 y6] [some (EV.arr IntKind.u32 y7 y8), some (EV.arr IntKind.u32 y9 y10), some (EV.arr IntKind.u32 y11 y12)]) x0 x1 x2 x3 x4 x5 x6 x7 x8 x9 x10 x11 x12 x13 := (stepQ_eq _ _ _ _ _ _ _ _ _ _ _).symm.trans (by kernel_rfl)
theorem nat_parts.l24X.eq (K : Ex → List EV → Heap → Prop) : ∀ (n : Nat) (x0 : Nat) (x1 : Int) (x2 : Nat) (x3 : Nat) (x4 : Int) (x5 : Int) (x6 : Int) (x7 : Int) (x8 : Nat) (x9 : Nat → Int) (x10 : Nat) (x11 : Nat → Int) (x12 : Nat) (x13 : Nat → Int), loopE E_nat_parts (loopAt Tryd.f146 3) (LV.mk 24336 [(6, 24336), (5, 7952), (4, 1296)] 48 0 true) 0 285 K n [EV.slice 0 0 x0 none 1, EV.int IntKind.i64 x1, EV.slice 1 0 x2 none 1, EV.slice 2 0 x3 none 1, EV.int IntKind.i64 x4, EV.int IntKind.i64 x5, EV.int IntKind.u64 x6, EV.int IntKind.u64 x7] [some (EV.arr IntKind.u32 x8 x9), some (EV.arr IntKind.u32 x10 x11), some (EV.arr IntKind.u32 x12 x13)] = nat_parts.l24 (fun y0 y1 y2 y3 y4 y5 y6 y7 y8 y9 y10 y11 y12 => K (.exit 6) [EV.slice 0 0 y0 none 1, EV.int IntKind.i64 y1, EV.slice 1 0 y2 none 1, EV.slice 2 0 y3 none 1, EV.int IntKind.i64 y4, EV.int IntKind.i64 y5, EV.int IntKind.u64 y6] [some (EV.arr IntKind.u32 y7 y8), some (EV.arr IntKind.u32 y9 y10), some (EV.arr IntKind.u32 y11 y12)]) n x0 x1 x2 x3 x4 x5 x6 x7 x8 x9 x10 x11 x12 x13
  | 0, _, _, _, _, _, _, _, _, _, _, _, _, _, _ => rfl
  | n + 1, x0, x1, x2, x3, x4, x5, x6, x7, x8, x9, x10, x11, x12, x13 => by
    have ih : (fun (x0 : Nat) (x1 : Int) (x2 : Nat) (x3 : Nat) (x4 : Int) (x5 : Int) (x6 : Int) (x7 : Int) (x8 : Nat) (x9 : Nat → Int) (x10 : Nat) (x11 : Nat → Int) (x12 : Nat) (x13 : Nat → Int) => loopE E_nat_parts (loopAt Tryd.f146 3) (LV.mk 24336 [(6, 24336), (5, 7952), (4, 1296)] 48 0 true) 0 285 K n [EV.slice 0 0 x0 none 1, EV.int IntKind.i64 x1, EV.slice 1 0 x2 none 1, EV.slice 2 0 x3 none 1, EV.int IntKind.i64 x4, EV.int IntKind.i64 x5, EV.int IntKind.u64 x6, EV.int IntKind.u64 x7] [some (EV.arr IntKind.u32 x8 x9), some (EV.arr IntKind.u32 x10 x11), some (EV.arr IntKind.u32 x12 x13)]) = nat_parts.l24 (fun y0 y1 y2 y3 y4 y5 y6 y7 y8 y9 y10 y11 y12 => K (.exit 6) [EV.slice 0 0 y0 none 1, EV.int IntKind.i64 y1, EV.slice 1 0 y2 none 1, EV.slice 2 0 y3 none 1, EV.int IntKind.i64 y4, EV.int IntKind.i64 y5, EV.int IntKind.u64 y6] [some (EV.arr IntKind.u32 y7 y8), some (EV.arr IntKind.u32 y9 y10), some (EV.arr IntKind.u32 y11 y12)]) n := by funext x0 x1 x2 x3 x4 x5 x6 x7 x8 x9 x10 x11 x12 x13; exact nat_parts.l24X.eq K n x0 x1 x2 x3 x4 x5 x6 x7 x8 x9 x10 x11 x12 x13
    show loopStep _ _ _ _ _ (loopE E_nat_parts (loopAt Tryd.f146 3) (LV.mk 24336 [(6, 24336), (5, 7952), (4, 1296)] 48 0 true) 0 285 K n) [EV.slice 0 0 x0 none 1, EV.int IntKind.i64 x1, EV.slice 1 0 x2 none 1, EV.slice 2 0 x3 none 1, EV.int IntKind.i64 x4, EV.int IntKind.i64 x5, EV.int IntKind.u64 x6, EV.int IntKind.u64 x7] [some (EV.arr IntKind.u32 x8 x9), some (EV.arr IntKind.u32 x10 x11), some (EV.arr IntKind.u32 x12 x13)] K = nat_parts.l24.step (nat_parts.l24 (fun y0 y1 y2 y3 y4 y5 y6 y7 y8 y9 y10 y11 y12 => K (.exit 6) [EV.slice 0 0 y0 none 1, EV.int IntKind.i64 y1, EV.slice 1 0 y2 none 1, EV.slice 2 0 y3 none 1, EV.int IntKind.i64 y4, EV.int IntKind.i64 y5, EV.int IntKind.u64 y6] [some (EV.arr IntKind.u32 y7 y8), some (EV.arr IntKind.u32 y9 y10), some (EV.arr IntKind.u32 y11 y12)]) n) (fun y0 y1 y2 y3 y4 y5 y6 y7 y8 y9 y10 y11 y12 => K (.exit 6) [EV.slice 0 0 y0 none 1, EV.int IntKind.i64 y1, EV.slice 1 0 y2 none 1, EV.slice 2 0 y3 none 1, EV.int IntKind.i64 y4, EV.int IntKind.i64 y5, EV.int IntKind.u64 y6] [some (EV.arr IntKind.u32 y7 y8), some (EV.arr IntKind.u32 y9 y10), some (EV.arr IntKind.u32 y11 y12)]) x0 x1 x2 x3 x4 x5 x6 x7 x8 x9 x10 x11 x12 x13
    rw [← ih]
    exact nat_parts.l24X.stepEq _ K x0 x1 x2 x3 x4 x5 x6 x7 x8 x9 x10 x11 x12 x13
theorem nat_parts.l24X.ok : LoopEq E_nat_parts (loopAt Tryd.f146 3) := by
  intro L hL vs H
  have h1 : E_nat_parts.lp (firstRegion (loopAt Tryd.f146 3)) = some nat_parts.l24.entry := by kernel_rfl
  have h2 : L = nat_parts.l24.entry := Option.some.inj (hL.symm.trans h1)
  subst h2
  by_cases hx : ∃ (x0 : Nat) (x1 : Int) (x2 : Nat) (x3 : Nat) (x4 : Int) (x5 : Int) (x6 : Int) (x7 : Int) (x8 : Nat) (x9 : Nat → Int) (x10 : Nat) (x11 : Nat → Int) (x12 : Nat) (x13 : Nat → Int), vs = [EV.slice 0 0 x0 none 1, EV.int IntKind.i64 x1, EV.slice 1 0 x2 none 1, EV.slice 2 0 x3 none 1, EV.int IntKind.i64 x4, EV.int IntKind.i64 x5, EV.int IntKind.u64 x6, EV.int IntKind.u64 x7] ∧ H = [some (EV.arr IntKind.u32 x8 x9), some (EV.arr IntKind.u32 x10 x11), some (EV.arr IntKind.u32 x12 x13)]
  · obtain ⟨x0, x1, x2, x3, x4, x5, x6, x7, x8, x9, x10, x11, x12, x13, rfl, rfl⟩ := hx
    right; intro K
    exact exists_congr fun n => iff_of_eq (nat_parts.l24X.eq K n x0 x1 x2 x3 x4 x5 x6 x7 x8 x9 x10 x11 x12 x13).symm
  · left; intro K h
    simp only [nat_parts.l24.entry] at h
    split at h
    · exact hx ⟨_, _, _, _, _, _, _, _, _, _, _, _, _, _, rfl, rfl⟩
    · exact h
theorem nat_parts.l31X.stepEq (R : List EV → Heap → Prop) (K : Ex → List EV → Heap → Prop) (x0 : Nat) (x1 : Int) (x2 : Nat) (x3 : Nat) (x4 : Int) (x5 : Int) (x6 : Int) (x7 : Int) (x8 : Int) (x9 : Int) (x10 : Int) (x11 : Nat) (x12 : Nat → Int) (x13 : Nat) (x14 : Nat → Int) (x15 : Nat) (x16 : Nat → Int) : loopStep (evCode E_nat_parts (loopAt Tryd.f146 4) { (LV.mk 220944 [(8, 220944), (5, 7952), (4, 1296)] 48 0 true) with nx := live (.loop (loopAt Tryd.f146 4)) (LV.mk 220944 [(8, 220944), (5, 7952), (4, 1296)] 48 0 true) }) (live (.loop (loopAt Tryd.f146 4)) (LV.mk 220944 [(8, 220944), (5, 7952), (4, 1296)] 48 0 true)) (LV.mk 220944 [(8, 220944), (5, 7952), (4, 1296)] 48 0 true) 0 285 R [EV.slice 0 0 x0 none 1, EV.int IntKind.i64 x1, EV.slice 1 0 x2 none 1, EV.slice 2 0 x3 none 1, EV.int IntKind.i64 x4, EV.int IntKind.i64 x5, EV.int IntKind.u64 x6, EV.int IntKind.u64 x7, EV.int IntKind.i64 x8, EV.int IntKind.i64 x9, EV.int IntKind.i64 x10] [some (EV.arr IntKind.u32 x11 x12), some (EV.arr IntKind.u32 x13 x14), some (EV.arr IntKind.u32 x15 x16)] K = nat_parts.l31.step (fun x0 x1 x2 x3 x4 x5 x6 x7 x8 x9 x10 x11 x12 x13 x14 x15 x16 => R [EV.slice 0 0 x0 none 1, EV.int IntKind.i64 x1, EV.slice 1 0 x2 none 1, EV.slice 2 0 x3 none 1, EV.int IntKind.i64 x4, EV.int IntKind.i64 x5, EV.int IntKind.u64 x6, EV.int IntKind.u64 x7, EV.int IntKind.i64 x8, EV.int IntKind.i64 x9, EV.int IntKind.i64 x10] [some (EV.arr IntKind.u32 x11 x12), some (EV.arr IntKind.u32 x13 x14), some (EV.arr IntKind.u32 x15 x16)]) (fun y0 y1 y2 y3 y4 y5 y6 y7 y8 y9 y10 y11 y12 y13 y14 => K (.exit 8) [EV.slice 0 0 y0 none 1, EV.int IntKind.i64 y1, EV.slice 1 0 y2 none 1, EV.slice 2 0 y3 none 1, EV.int IntKind.i64 y4, EV.int IntKind.i64 y5, EV.int IntKind.u64 y6, EV.int IntKind.u64 y7, EV.int IntKind.i64 y8] [some (EV.arr IntKind.u32 y9 y10), some (EV.arr IntKind.u32 y11 y12), some (EV.arr IntKind.u32 y13 y14)]) x0 x1 x2 x3 x4 x5 x6 x7 x8 x9 x10 x11 x12 x13 x14 x15 x16 := (stepQ_eq _ _ _ _ _ _ _ _ _ _ _).symm.trans (by kernel_rfl)
theorem nat_parts.l31X.eq (K : Ex → List EV → Heap → Prop) : ∀ (n : Nat) (x0 : Nat) (x1 : Int) (x2 : Nat) (x3 : Nat) (x4 : Int) (x5 : Int) (x6 : Int) (x7 : Int) (x8 : Int) (x9 : Int) (x10 : Int) (x11 : Nat) (x12 : Nat → Int) (x13 : Nat) (x14 : Nat → Int) (x15 : Nat) (x16 : Nat → Int), loopE E_nat_parts (loopAt Tryd.f146 4) (LV.mk 220944 [(8, 220944), (5, 7952), (4, 1296)] 48 0 true) 0 285 K n [EV.slice 0 0 x0 none 1, EV.int IntKind.i64 x1, EV.slice 1 0 x2 none 1, EV.slice 2 0 x3 none 1, EV.int IntKind.i64 x4, EV.int IntKind.i64 x5, EV.int IntKind.u64 x6, EV.int IntKind.u64 x7, EV.int IntKind.i64 x8, EV.int IntKind.i64 x9, EV.int IntKind.i64 x10] [some (EV.arr IntKind.u32 x11 x12), some (EV.arr IntKind.u32 x13 x14), some (EV.arr IntKind.u32 x15 x16)] = nat_parts.l31 (fun y0 y1 y2 y3 y4 y5 y6 y7 y8 y9 y10 y11 y12 y13 y14 => K (.exit 8) [EV.slice 0 0 y0 none 1, EV.int IntKind.i64 y1, EV.slice 1 0 y2 none 1, EV.slice 2 0 y3 none 1, EV.int IntKind.i64 y4, EV.int IntKind.i64 y5, EV.int IntKind.u64 y6, EV.int IntKind.u64 y7, EV.int IntKind.i64 y8] [some (EV.arr IntKind.u32 y9 y10), some (EV.arr IntKind.u32 y11 y12), some (EV.arr IntKind.u32 y13 y14)]) n x0 x1 x2 x3 x4 x5 x6 x7 x8 x9 x10 x11 x12 x13 x14 x15 x16
  | 0, _, _, _, _, _, _, _, _, _, _, _, _, _, _, _, _, _ => rfl
  | n + 1, x0, x1, x2, x3, x4, x5, x6, x7, x8, x9, x10, x11, x12, x13, x14, x15, x16 => by
    have ih : (fun (x0 : Nat) (x1 : Int) (x2 : Nat) (x3 : Nat) (x4 : Int) (x5 : Int) (x6 : Int) (x7 : Int) (x8 : Int) (x9 : Int) (x10 : Int) (x11 : Nat) (x12 : Nat → Int) (x13 : Nat) (x14 : Nat → Int) (x15 : Nat) (x16 : Nat → Int) => loopE E_nat_parts (loopAt Tryd.f146 4) (LV.mk 220944 [(8, 220944), (5, 7952), (4, 1296)] 48 0 true) 0 285 K n [EV.slice 0 0 x0 none 1, EV.int IntKind.i64 x1, EV.slice 1 0 x2 none 1, EV.slice 2 0 x3 none 1, EV.int IntKind.i64 x4, EV.int IntKind.i64 x5, EV.int IntKind.u64 x6, EV.int IntKind.u64 x7, EV.int IntKind.i64 x8, EV.int IntKind.i64 x9, EV.int IntKind.i64 x10] [some (EV.arr IntKind.u32 x11 x12), some (EV.arr IntKind.u32 x13 x14), some (EV.arr IntKind.u32 x15 x16)]) = nat_parts.l31 (fun y0 y1 y2 y3 y4 y5 y6 y7 y8 y9 y10 y11 y12 y13 y14 => K (.exit 8) [EV.slice 0 0 y0 none 1, EV.int IntKind.i64 y1, EV.slice 1 0 y2 none 1, EV.slice 2 0 y3 none 1, EV.int IntKind.i64 y4, EV.int IntKind.i64 y5, EV.int IntKind.u64 y6, EV.int IntKind.u64 y7, EV.int IntKind.i64 y8] [some (EV.arr IntKind.u32 y9 y10), some (EV.arr IntKind.u32 y11 y12), some (EV.arr IntKind.u32 y13 y14)]) n := by funext x0 x1 x2 x3 x4 x5 x6 x7 x8 x9 x10 x11 x12 x13 x14 x15 x16; exact nat_parts.l31X.eq K n x0 x1 x2 x3 x4 x5 x6 x7 x8 x9 x10 x11 x12 x13 x14 x15 x16
    show loopStep _ _ _ _ _ (loopE E_nat_parts (loopAt Tryd.f146 4) (LV.mk 220944 [(8, 220944), (5, 7952), (4, 1296)] 48 0 true) 0 285 K n) [EV.slice 0 0 x0 none 1, EV.int IntKind.i64 x1, EV.slice 1 0 x2 none 1, EV.slice 2 0 x3 none 1, EV.int IntKind.i64 x4, EV.int IntKind.i64 x5, EV.int IntKind.u64 x6, EV.int IntKind.u64 x7, EV.int IntKind.i64 x8, EV.int IntKind.i64 x9, EV.int IntKind.i64 x10] [some (EV.arr IntKind.u32 x11 x12), some (EV.arr IntKind.u32 x13 x14), some (EV.arr IntKind.u32 x15 x16)] K = nat_parts.l31.step (nat_parts.l31 (fun y0 y1 y2 y3 y4 y5 y6 y7 y8 y9 y10 y11 y12 y13 y14 => K (.exit 8) [EV.slice 0 0 y0 none 1, EV.int IntKind.i64 y1, EV.slice 1 0 y2 none 1, EV.slice 2 0 y3 none 1, EV.int IntKind.i64 y4, EV.int IntKind.i64 y5, EV.int IntKind.u64 y6, EV.int IntKind.u64 y7, EV.int IntKind.i64 y8] [some (EV.arr IntKind.u32 y9 y10), some (EV.arr IntKind.u32 y11 y12), some (EV.arr IntKind.u32 y13 y14)]) n) (fun y0 y1 y2 y3 y4 y5 y6 y7 y8 y9 y10 y11 y12 y13 y14 => K (.exit 8) [EV.slice 0 0 y0 none 1, EV.int IntKind.i64 y1, EV.slice 1 0 y2 none 1, EV.slice 2 0 y3 none 1, EV.int IntKind.i64 y4, EV.int IntKind.i64 y5, EV.int IntKind.u64 y6, EV.int IntKind.u64 y7, EV.int IntKind.i64 y8] [some (EV.arr IntKind.u32 y9 y10), some (EV.arr IntKind.u32 y11 y12), some (EV.arr IntKind.u32 y13 y14)]) x0 x1 x2 x3 x4 x5 x6 x7 x8 x9 x10 x11 x12 x13 x14 x15 x16
    rw [← ih]
    exact nat_parts.l31X.stepEq _ K x0 x1 x2 x3 x4 x5 x6 x7 x8 x9 x10 x11 x12 x13 x14 x15 x16
theorem nat_parts.l31X.ok : LoopEq E_nat_parts (loopAt Tryd.f146 4) := by
  intro L hL vs H
  have h1 : E_nat_parts.lp (firstRegion (loopAt Tryd.f146 4)) = some nat_parts.l31.entry := by kernel_rfl
  have h2 : L = nat_parts.l31.entry := Option.some.inj (hL.symm.trans h1)
  subst h2
  by_cases hx : ∃ (x0 : Nat) (x1 : Int) (x2 : Nat) (x3 : Nat) (x4 : Int) (x5 : Int) (x6 : Int) (x7 : Int) (x8 : Int) (x9 : Int) (x10 : Int) (x11 : Nat) (x12 : Nat → Int) (x13 : Nat) (x14 : Nat → Int) (x15 : Nat) (x16 : Nat → Int), vs = [EV.slice 0 0 x0 none 1, EV.int IntKind.i64 x1, EV.slice 1 0 x2 none 1, EV.slice 2 0 x3 none 1, EV.int IntKind.i64 x4, EV.int IntKind.i64 x5, EV.int IntKind.u64 x6, EV.int IntKind.u64 x7, EV.int IntKind.i64 x8, EV.int IntKind.i64 x9, EV.int IntKind.i64 x10] ∧ H = [some (EV.arr IntKind.u32 x11 x12), some (EV.arr IntKind.u32 x13 x14), some (EV.arr IntKind.u32 x15 x16)]
  · obtain ⟨x0, x1, x2, x3, x4, x5, x6, x7, x8, x9, x10, x11, x12, x13, x14, x15, x16, rfl, rfl⟩ := hx
    right; intro K
    exact exists_congr fun n => iff_of_eq (nat_parts.l31X.eq K n x0 x1 x2 x3 x4 x5 x6 x7 x8 x9 x10 x11 x12 x13 x14 x15 x16).symm
  · left; intro K h
    simp only [nat_parts.l31.entry] at h
    split at h
    · exact hx ⟨_, _, _, _, _, _, _, _, _, _, _, _, _, _, _, _, _, rfl, rfl⟩
    · exact h
theorem nat_parts.l45X.stepEq (R : List EV → Heap → Prop) (K : Ex → List EV → Heap → Prop) (x0 : Nat) (x1 : Int) (x2 : Nat) (x3 : Nat) (x4 : Int) (x5 : Int) (x6 : Int) (x7 : Int) (x8 : Int) (x9 : Int) (x10 : Nat) (x11 : Nat → Int) (x12 : Nat) (x13 : Nat → Int) (x14 : Nat) (x15 : Nat → Int) : loopStep (evCode E_nat_parts (loopAt Tryd.f146 5) { (LV.mk 89872 [(10, 89872), (5, 7952), (4, 1296)] 48 0 true) with nx := live (.loop (loopAt Tryd.f146 5)) (LV.mk 89872 [(10, 89872), (5, 7952), (4, 1296)] 48 0 true) }) (live (.loop (loopAt Tryd.f146 5)) (LV.mk 89872 [(10, 89872), (5, 7952), (4, 1296)] 48 0 true)) (LV.mk 89872 [(10, 89872), (5, 7952), (4, 1296)] 48 0 true) 0 285 R [EV.slice 0 0 x0 none 1, EV.int IntKind.i64 x1, EV.slice 1 0 x2 none 1, EV.slice 2 0 x3 none 1, EV.int IntKind.i64 x4, EV.int IntKind.i64 x5, EV.int IntKind.u64 x6, EV.int IntKind.u64 x7, EV.int IntKind.i64 x8, EV.int IntKind.i64 x9] [some (EV.arr IntKind.u32 x10 x11), some (EV.arr IntKind.u32 x12 x13), some (EV.arr IntKind.u32 x14 x15)] K = nat_parts.l45.step (fun x0 x1 x2 x3 x4 x5 x6 x7 x8 x9 x10 x11 x12 x13 x14 x15 => R [EV.slice 0 0 x0 none 1, EV.int IntKind.i64 x1, EV.slice 1 0 x2 none 1, EV.slice 2 0 x3 none 1, EV.int IntKind.i64 x4, EV.int IntKind.i64 x5, EV.int IntKind.u64 x6, EV.int IntKind.u64 x7, EV.int IntKind.i64 x8, EV.int IntKind.i64 x9] [some (EV.arr IntKind.u32 x10 x11), some (EV.arr IntKind.u32 x12 x13), some (EV.arr IntKind.u32 x14 x15)]) (fun y0 y1 y2 y3 y4 y5 y6 y7 y8 y9 y10 y11 y12 y13 => K (.exit 10) [EV.slice 0 0 y0 none 1, EV.int IntKind.i64 y1, EV.slice 1 0 y2 none 1, EV.slice 2 0 y3 none 1, EV.int IntKind.i64 y4, EV.int IntKind.i64 y5, EV.int IntKind.u64 y6, EV.int IntKind.u64 y7] [some (EV.arr IntKind.u32 y8 y9), some (EV.arr IntKind.u32 y10 y11), some (EV.arr IntKind.u32 y12 y13)]) x0 x1 x2 x3 x4 x5 x6 x7 x8 x9 x10 x11 x12 x13 x14 x15 := (stepQ_eq _ _ _ _ _ _ _ _ _ _ _).symm.trans (by kernel_rfl)
theorem nat_parts.l45X.eq (K : Ex → List EV → Heap → Prop) : ∀ (n : Nat) (x0 : Nat) (x1 : Int) (x2 : Nat) (x3 : Nat) (x4 : Int) (x5 : Int) (x6 : Int) (x7 : Int) (x8 : Int) (x9 : Int) (x10 : Nat) (x11 : Nat → Int) (x12 : Nat) (x13 : Nat → Int) (x14 : Nat) (x15 : Nat → Int), loopE E_nat_parts (loopAt Tryd.f146 5) (LV.mk 89872 [(10, 89872), (5, 7952), (4, 1296)] 48 0 true) 0 285 K n [EV.slice 0 0 x0 none 1, EV.int IntKind.i64 x1, EV.slice 1 0 x2 none 1, EV.slice 2 0 x3 none 1, EV.int IntKind.i64 x4, EV.int IntKind.i64 x5, EV.int IntKind.u64 x6, EV.int IntKind.u64 x7, EV.int IntKind.i64 x8, EV.int IntKind.i64 x9] [some (EV.arr IntKind.u32 x10 x11), some (EV.arr IntKind.u32 x12 x13), some (EV.arr IntKind.u32 x14 x15)] = nat_parts.l45 (fun y0 y1 y2 y3 y4 y5 y6 y7 y8 y9 y10 y11 y12 y13 => K (.exit 10) [EV.slice 0 0 y0 none 1, EV.int IntKind.i64 y1, EV.slice 1 0 y2 none 1, EV.slice 2 0 y3 none 1, EV.int IntKind.i64 y4, EV.int IntKind.i64 y5, EV.int IntKind.u64 y6, EV.int IntKind.u64 y7] [some (EV.arr IntKind.u32 y8 y9), some (EV.arr IntKind.u32 y10 y11), some (EV.arr IntKind.u32 y12 y13)]) n x0 x1 x2 x3 x4 x5 x6 x7 x8 x9 x10 x11 x12 x13 x14 x15
  | 0, _, _, _, _, _, _, _, _, _, _, _, _, _, _, _, _ => rfl
  | n + 1, x0, x1, x2, x3, x4, x5, x6, x7, x8, x9, x10, x11, x12, x13, x14, x15 => by
    have ih : (fun (x0 : Nat) (x1 : Int) (x2 : Nat) (x3 : Nat) (x4 : Int) (x5 : Int) (x6 : Int) (x7 : Int) (x8 : Int) (x9 : Int) (x10 : Nat) (x11 : Nat → Int) (x12 : Nat) (x13 : Nat → Int) (x14 : Nat) (x15 : Nat → Int) => loopE E_nat_parts (loopAt Tryd.f146 5) (LV.mk 89872 [(10, 89872), (5, 7952), (4, 1296)] 48 0 true) 0 285 K n [EV.slice 0 0 x0 none 1, EV.int IntKind.i64 x1, EV.slice 1 0 x2 none 1, EV.slice 2 0 x3 none 1, EV.int IntKind.i64 x4, EV.int IntKind.i64 x5, EV.int IntKind.u64 x6, EV.int IntKind.u64 x7, EV.int IntKind.i64 x8, EV.int IntKind.i64 x9] [some (EV.arr IntKind.u32 x10 x11), some (EV.arr IntKind.u32 x12 x13), some (EV.arr IntKind.u32 x14 x15)]) = nat_parts.l45 (fun y0 y1 y2 y3 y4 y5 y6 y7 y8 y9 y10 y11 y12 y13 => K (.exit 10) [EV.slice 0 0 y0 none 1, EV.int IntKind.i64 y1, EV.slice 1 0 y2 none 1, EV.slice 2 0 y3 none 1, EV.int IntKind.i64 y4, EV.int IntKind.i64 y5, EV.int IntKind.u64 y6, EV.int IntKind.u64 y7] [some (EV.arr IntKind.u32 y8 y9), some (EV.arr IntKind.u32 y10 y11), some (EV.arr IntKind.u32 y12 y13)]) n := by funext x0 x1 x2 x3 x4 x5 x6 x7 x8 x9 x10 x11 x12 x13 x14 x15; exact nat_parts.l45X.eq K n x0 x1 x2 x3 x4 x5 x6 x7 x8 x9 x10 x11 x12 x13 x14 x15
    show loopStep _ _ _ _ _ (loopE E_nat_parts (loopAt Tryd.f146 5) (LV.mk 89872 [(10, 89872), (5, 7952), (4, 1296)] 48 0 true) 0 285 K n) [EV.slice 0 0 x0 none 1, EV.int IntKind.i64 x1, EV.slice 1 0 x2 none 1, EV.slice 2 0 x3 none 1, EV.int IntKind.i64 x4, EV.int IntKind.i64 x5, EV.int IntKind.u64 x6, EV.int IntKind.u64 x7, EV.int IntKind.i64 x8, EV.int IntKind.i64 x9] [some (EV.arr IntKind.u32 x10 x11), some (EV.arr IntKind.u32 x12 x13), some (EV.arr IntKind.u32 x14 x15)] K = nat_parts.l45.step (nat_parts.l45 (fun y0 y1 y2 y3 y4 y5 y6 y7 y8 y9 y10 y11 y12 y13 => K (.exit 10) [EV.slice 0 0 y0 none 1, EV.int IntKind.i64 y1, EV.slice 1 0 y2 none 1, EV.slice 2 0 y3 none 1, EV.int IntKind.i64 y4, EV.int IntKind.i64 y5, EV.int IntKind.u64 y6, EV.int IntKind.u64 y7] [some (EV.arr IntKind.u32 y8 y9), some (EV.arr IntKind.u32 y10 y11), some (EV.arr IntKind.u32 y12 y13)]) n) (fun y0 y1 y2 y3 y4 y5 y6 y7 y8 y9 y10 y11 y12 y13 => K (.exit 10) [EV.slice 0 0 y0 none 1, EV.int IntKind.i64 y1, EV.slice 1 0 y2 none 1, EV.slice 2 0 y3 none 1, EV.int IntKind.i64 y4, EV.int IntKind.i64 y5, EV.int IntKind.u64 y6, EV.int IntKind.u64 y7] [some (EV.arr IntKind.u32 y8 y9), some (EV.arr IntKind.u32 y10 y11), some (EV.arr IntKind.u32 y12 y13)]) x0 x1 x2 x3 x4 x5 x6 x7 x8 x9 x10 x11 x12 x13 x14 x15
    rw [← ih]
    exact nat_parts.l45X.stepEq _ K x0 x1 x2 x3 x4 x5 x6 x7 x8 x9 x10 x11 x12 x13 x14 x15
theorem nat_parts.l45X.ok : LoopEq E_nat_parts (loopAt Tryd.f146 5) := by
  intro L hL vs H
  have h1 : E_nat_parts.lp (firstRegion (loopAt Tryd.f146 5)) = some nat_parts.l45.entry := by kernel_rfl
  have h2 : L = nat_parts.l45.entry := Option.some.inj (hL.symm.trans h1)
  subst h2
  by_cases hx : ∃ (x0 : Nat) (x1 : Int) (x2 : Nat) (x3 : Nat) (x4 : Int) (x5 : Int) (x6 : Int) (x7 : Int) (x8 : Int) (x9 : Int) (x10 : Nat) (x11 : Nat → Int) (x12 : Nat) (x13 : Nat → Int) (x14 : Nat) (x15 : Nat → Int), vs = [EV.slice 0 0 x0 none 1, EV.int IntKind.i64 x1, EV.slice 1 0 x2 none 1, EV.slice 2 0 x3 none 1, EV.int IntKind.i64 x4, EV.int IntKind.i64 x5, EV.int IntKind.u64 x6, EV.int IntKind.u64 x7, EV.int IntKind.i64 x8, EV.int IntKind.i64 x9] ∧ H = [some (EV.arr IntKind.u32 x10 x11), some (EV.arr IntKind.u32 x12 x13), some (EV.arr IntKind.u32 x14 x15)]
  · obtain ⟨x0, x1, x2, x3, x4, x5, x6, x7, x8, x9, x10, x11, x12, x13, x14, x15, rfl, rfl⟩ := hx
    right; intro K
    exact exists_congr fun n => iff_of_eq (nat_parts.l45X.eq K n x0 x1 x2 x3 x4 x5 x6 x7 x8 x9 x10 x11 x12 x13 x14 x15).symm
  · left; intro K h
    simp only [nat_parts.l45.entry] at h
    split at h
    · exact hx ⟨_, _, _, _, _, _, _, _, _, _, _, _, _, _, _, _, rfl, rfl⟩
    · exact h
theorem X_nat_parts.eq (a0n : Nat) (a0 : Nat → Int) (a1n : Nat) (a1 : Nat → Int) (K : EV → Heap → Prop) : evFn E_nat_parts Tryd.f146 false [.rsI .u32 a0n a0, .rsI .u32 a1n a1] [] K = nat_parts a0n a0 a1n a1 (fun y0 y1 y2 y3 => K (EV.tuple [EV.rsI IntKind.u32 y0 y1, EV.rsI IntKind.u32 y2 y3]) []) := by
  have h : evFnQ E_nat_parts Tryd.f146 false [.rsI .u32 a0n a0, .rsI .u32 a1n a1] [] K = nat_parts.d a0n a0 a1n a1 (fun y0 y1 y2 y3 => K (EV.tuple [EV.rsI IntKind.u32 y0 y1, EV.rsI IntKind.u32 y2 y3]) []) := by kernel_rfl
  rw [nat_parts.is]; exact (evFnQ_eq _ _ _ _ _ _).symm.trans h
theorem X_nat_parts.ok : SoundE Tryd.prog gl 146 e_nat_parts := by
  refine fnOK (E := E_nat_parts) (fn := Tryd.f146) rfl tys_ok rfl (show AllL _ [(112, e_word_Len), (130, e_nat_cmp), (145, e_nat_down), (147, e_nat_cut), (148, e_nat_upN)] from ⟨X_word_Len.ok, X_nat_cmp.ok, X_nat_down.ok, X_nat_cut.ok, X_nat_upN.ok, trivial⟩) mixed (by kernel_rfl) (by kernel_rfl) (by kernel_rfl) 6 (by kernel_rfl) false ⟨nat_parts.l7X.ok, nat_parts.l16X.ok, nat_parts.l20X.ok, nat_parts.l24X.ok, nat_parts.l31X.ok, nat_parts.l45X.ok, trivial⟩ ?_
  intro args H
  by_cases hx : ∃ (a0n : Nat) (a0 : Nat → Int) (a1n : Nat) (a1 : Nat → Int), args = [.rsI .u32 a0n a0, .rsI .u32 a1n a1] ∧ H = []
  · obtain ⟨a0n, a0, a1n, a1, rfl, rfl⟩ := hx
    right; intro K
    exact iff_of_eq (X_nat_parts.eq a0n a0 a1n a1 K).symm
  · left; intro K h
    simp only [e_nat_parts] at h
    split at h
    · exact hx ⟨_, _, _, _, rfl, rfl⟩
    · exact h
noncomputable def e_nat_Gcd : Entry := ⟨[none, none], false, fun args H K => match args, H with
  | [.str a0, .str a1], [] => nat_Gcd a0 a1 (fun y0 y1 => K (EV.tuple [EV.str y0, EV.int IntKind.i64 y1]) [])
  | _, _ => False⟩
noncomputable def E_nat_Gcd : Env := ⟨look tys, look [(127, e_nat_number), (129, e_nat_right), (131, e_nat_words), (146, e_nat_parts)], look [(4, nat_Gcd.l4.entry)], gl, lookL [], false⟩
theorem nat_Gcd.l4X.stepEq (R : List EV → Heap → Prop) (K : Ex → List EV → Heap → Prop) (x0 : Nat) (x1 : Nat → Int) (x2 : Nat) (x3 : Nat → Int) : loopStep (evCode E_nat_Gcd (loopAt Tryd.f125 0) { (LV.mk 64 [(0, 64)] 48 0 false) with nx := live (.loop (loopAt Tryd.f125 0)) (LV.mk 64 [(0, 64)] 48 0 false) }) (live (.loop (loopAt Tryd.f125 0)) (LV.mk 64 [(0, 64)] 48 0 false)) (LV.mk 64 [(0, 64)] 48 0 false) 0 31 R [EV.rsI IntKind.u32 x0 x1, EV.rsI IntKind.u32 x2 x3] [] K = nat_Gcd.l4.step (fun x0 x1 x2 x3 => R [EV.rsI IntKind.u32 x0 x1, EV.rsI IntKind.u32 x2 x3] []) (fun y0 y1 => K (.exit 0) [EV.rsI IntKind.u32 y0 y1] []) x0 x1 x2 x3 := (stepQ_eq _ _ _ _ _ _ _ _ _ _ _).symm.trans (by kernel_rfl)
theorem nat_Gcd.l4X.eq (K : Ex → List EV → Heap → Prop) : ∀ (n : Nat) (x0 : Nat) (x1 : Nat → Int) (x2 : Nat) (x3 : Nat → Int), loopE E_nat_Gcd (loopAt Tryd.f125 0) (LV.mk 64 [(0, 64)] 48 0 false) 0 31 K n [EV.rsI IntKind.u32 x0 x1, EV.rsI IntKind.u32 x2 x3] [] = nat_Gcd.l4 (fun y0 y1 => K (.exit 0) [EV.rsI IntKind.u32 y0 y1] []) n x0 x1 x2 x3
  | 0, _, _, _, _ => rfl
  | n + 1, x0, x1, x2, x3 => by
    have ih : (fun (x0 : Nat) (x1 : Nat → Int) (x2 : Nat) (x3 : Nat → Int) => loopE E_nat_Gcd (loopAt Tryd.f125 0) (LV.mk 64 [(0, 64)] 48 0 false) 0 31 K n [EV.rsI IntKind.u32 x0 x1, EV.rsI IntKind.u32 x2 x3] []) = nat_Gcd.l4 (fun y0 y1 => K (.exit 0) [EV.rsI IntKind.u32 y0 y1] []) n := by funext x0 x1 x2 x3; exact nat_Gcd.l4X.eq K n x0 x1 x2 x3
    show loopStep _ _ _ _ _ (loopE E_nat_Gcd (loopAt Tryd.f125 0) (LV.mk 64 [(0, 64)] 48 0 false) 0 31 K n) [EV.rsI IntKind.u32 x0 x1, EV.rsI IntKind.u32 x2 x3] [] K = nat_Gcd.l4.step (nat_Gcd.l4 (fun y0 y1 => K (.exit 0) [EV.rsI IntKind.u32 y0 y1] []) n) (fun y0 y1 => K (.exit 0) [EV.rsI IntKind.u32 y0 y1] []) x0 x1 x2 x3
    rw [← ih]
    exact nat_Gcd.l4X.stepEq _ K x0 x1 x2 x3
theorem nat_Gcd.l4X.ok : LoopEq E_nat_Gcd (loopAt Tryd.f125 0) := by
  intro L hL vs H
  have h1 : E_nat_Gcd.lp (firstRegion (loopAt Tryd.f125 0)) = some nat_Gcd.l4.entry := by kernel_rfl
  have h2 : L = nat_Gcd.l4.entry := Option.some.inj (hL.symm.trans h1)
  subst h2
  by_cases hx : ∃ (x0 : Nat) (x1 : Nat → Int) (x2 : Nat) (x3 : Nat → Int), vs = [EV.rsI IntKind.u32 x0 x1, EV.rsI IntKind.u32 x2 x3] ∧ H = []
  · obtain ⟨x0, x1, x2, x3, rfl, rfl⟩ := hx
    right; intro K
    exact exists_congr fun n => iff_of_eq (nat_Gcd.l4X.eq K n x0 x1 x2 x3).symm
  · left; intro K h
    simp only [nat_Gcd.l4.entry] at h
    split at h
    · exact hx ⟨_, _, _, _, rfl, rfl⟩
    · exact h
theorem X_nat_Gcd.eq (a0 : List UInt8) (a1 : List UInt8) (K : EV → Heap → Prop) : evFn E_nat_Gcd Tryd.f125 false [.str a0, .str a1] [] K = nat_Gcd a0 a1 (fun y0 y1 => K (EV.tuple [EV.str y0, EV.int IntKind.i64 y1]) []) := by
  have h : evFnQ E_nat_Gcd Tryd.f125 false [.str a0, .str a1] [] K = nat_Gcd.d a0 a1 (fun y0 y1 => K (EV.tuple [EV.str y0, EV.int IntKind.i64 y1]) []) := by kernel_rfl
  rw [nat_Gcd.is]; exact (evFnQ_eq _ _ _ _ _ _).symm.trans h
theorem X_nat_Gcd.ok : SoundE Tryd.prog gl 125 e_nat_Gcd := by
  refine fnOK (E := E_nat_Gcd) (fn := Tryd.f125) rfl tys_ok rfl (show AllL _ [(127, e_nat_number), (129, e_nat_right), (131, e_nat_words), (146, e_nat_parts)] from ⟨X_nat_number.ok, X_nat_right.ok, X_nat_words.ok, X_nat_parts.ok, trivial⟩) mixed (by kernel_rfl) (by kernel_rfl) (by kernel_rfl) 1 (by kernel_rfl) false ⟨nat_Gcd.l4X.ok, trivial⟩ ?_
  intro args H
  by_cases hx : ∃ (a0 : List UInt8) (a1 : List UInt8), args = [.str a0, .str a1] ∧ H = []
  · obtain ⟨a0, a1, rfl, rfl⟩ := hx
    right; intro K
    exact iff_of_eq (X_nat_Gcd.eq a0 a1 K).symm
  · left; intro K h
    simp only [e_nat_Gcd] at h
    split at h
    · exact hx ⟨_, _, rfl, rfl⟩
    · exact h
noncomputable def e_nat_Div : Entry := ⟨[none, none], false, fun args H K => match args, H with
  | [.str a0, .str a1], [] => nat_Div a0 a1 (fun y0 y1 y2 => K (EV.tuple [EV.str y0, EV.str y1, EV.int IntKind.i64 y2]) [])
  | _, _ => False⟩
noncomputable def E_nat_Div : Env := ⟨look tys, look [(127, e_nat_number), (129, e_nat_right), (131, e_nat_words), (146, e_nat_parts)], look [], gl, lookL [], false⟩
theorem X_nat_Div.eq (a0 : List UInt8) (a1 : List UInt8) (K : EV → Heap → Prop) : evFn E_nat_Div Tryd.f126 false [.str a0, .str a1] [] K = nat_Div a0 a1 (fun y0 y1 y2 => K (EV.tuple [EV.str y0, EV.str y1, EV.int IntKind.i64 y2]) []) := by
  have h : evFnQ E_nat_Div Tryd.f126 false [.str a0, .str a1] [] K = nat_Div.d a0 a1 (fun y0 y1 y2 => K (EV.tuple [EV.str y0, EV.str y1, EV.int IntKind.i64 y2]) []) := by kernel_rfl
  rw [nat_Div.is]; exact (evFnQ_eq _ _ _ _ _ _).symm.trans h
theorem X_nat_Div.ok : SoundE Tryd.prog gl 126 e_nat_Div := by
  refine fnOK (E := E_nat_Div) (fn := Tryd.f126) rfl tys_ok rfl (show AllL _ [(127, e_nat_number), (129, e_nat_right), (131, e_nat_words), (146, e_nat_parts)] from ⟨X_nat_number.ok, X_nat_right.ok, X_nat_words.ok, X_nat_parts.ok, trivial⟩) mixed (by kernel_rfl) (by kernel_rfl) (by kernel_rfl) 0 (by kernel_rfl) false trivial ?_
  intro args H
  by_cases hx : ∃ (a0 : List UInt8) (a1 : List UInt8), args = [.str a0, .str a1] ∧ H = []
  · obtain ⟨a0, a1, rfl, rfl⟩ := hx
    right; intro K
    exact iff_of_eq (X_nat_Div.eq a0 a1 K).symm
  · left; intro K h
    simp only [e_nat_Div] at h
    split at h
    · exact hx ⟨_, _, rfl, rfl⟩
    · exact h
noncomputable def e_exact_Make : Entry := ⟨[none, none, none, none], false, fun args H K => match args, H with
  | [.bool a0, .str a1, .str a2, .int .i64 a3], [] => exact_Make a0 a1 a2 a3 (fun y0 y1 y2 y3 y4 => K (EV.tuple [EV.agg [EV.bool y0, EV.str y1, EV.str y2, EV.int IntKind.i64 y3], EV.int IntKind.i64 y4]) [])
  | _, _ => False⟩
noncomputable def E_exact_Make : Env := ⟨look tys, look [(98, e_exact_within), (121, e_nat_Check), (122, e_exact_null), (123, e_nat_Low), (124, e_nat_Right), (125, e_nat_Gcd), (126, e_nat_Div)], look [], gl, lookL [], false⟩
theorem X_exact_Make.eq (a0 : Bool) (a1 : List UInt8) (a2 : List UInt8) (a3 : Int) (K : EV → Heap → Prop) : evFn E_exact_Make Tryd.f85 false [.bool a0, .str a1, .str a2, .int .i64 a3] [] K = exact_Make a0 a1 a2 a3 (fun y0 y1 y2 y3 y4 => K (EV.tuple [EV.agg [EV.bool y0, EV.str y1, EV.str y2, EV.int IntKind.i64 y3], EV.int IntKind.i64 y4]) []) := by
  have h : evFnQ E_exact_Make Tryd.f85 false [.bool a0, .str a1, .str a2, .int .i64 a3] [] K = exact_Make.d a0 a1 a2 a3 (fun y0 y1 y2 y3 y4 => K (EV.tuple [EV.agg [EV.bool y0, EV.str y1, EV.str y2, EV.int IntKind.i64 y3], EV.int IntKind.i64 y4]) []) := by kernel_rfl
  rw [exact_Make.is]; exact (evFnQ_eq _ _ _ _ _ _).symm.trans h
theorem X_exact_Make.ok : SoundE Tryd.prog gl 85 e_exact_Make := by
  refine fnOK (E := E_exact_Make) (fn := Tryd.f85) rfl tys_ok rfl (show AllL _ [(98, e_exact_within), (121, e_nat_Check), (122, e_exact_null), (123, e_nat_Low), (124, e_nat_Right), (125, e_nat_Gcd), (126, e_nat_Div)] from ⟨X_exact_within.ok, X_nat_Check.ok, X_exact_null.ok, X_nat_Low.ok, X_nat_Right.ok, X_nat_Gcd.ok, X_nat_Div.ok, trivial⟩) mixed (by kernel_rfl) (by kernel_rfl) (by kernel_rfl) 0 (by kernel_rfl) false trivial ?_
  intro args H
  by_cases hx : ∃ (a0 : Bool) (a1 : List UInt8) (a2 : List UInt8) (a3 : Int), args = [.bool a0, .str a1, .str a2, .int .i64 a3] ∧ H = []
  · obtain ⟨a0, a1, a2, a3, rfl, rfl⟩ := hx
    right; intro K
    exact iff_of_eq (X_exact_Make.eq a0 a1 a2 a3 K).symm
  · left; intro K h
    simp only [e_exact_Make] at h
    split at h
    · exact hx ⟨_, _, _, _, rfl, rfl⟩
    · exact h
noncomputable def e_nat_OfWide : Entry := ⟨[none], false, fun args H K => match args, H with
  | [.arr .u64 6 a0], [] => nat_OfWide a0 (fun y0 => K (EV.str y0) [])
  | _, _ => False⟩
noncomputable def E_nat_OfWide : Env := ⟨look tys, look [(127, e_nat_number)], look [], gl, lookL [(3, 7)], false⟩
theorem nat_OfWide_u3.ok : LoopEq E_nat_OfWide (loopAt Tryd.f86 0) := LoopEq.none (by kernel_rfl)
theorem X_nat_OfWide.eq (a0 : Nat → Int) (K : EV → Heap → Prop) : evFn E_nat_OfWide Tryd.f86 false [.arr .u64 6 a0] [] K = nat_OfWide a0 (fun y0 => K (EV.str y0) []) := by
  have h : evFnQ E_nat_OfWide Tryd.f86 false [.arr .u64 6 a0] [] K = nat_OfWide.d a0 (fun y0 => K (EV.str y0) []) := by kernel_rfl
  rw [nat_OfWide.is]; exact (evFnQ_eq _ _ _ _ _ _).symm.trans h
theorem X_nat_OfWide.ok : SoundE Tryd.prog gl 86 e_nat_OfWide := by
  refine fnOK (E := E_nat_OfWide) (fn := Tryd.f86) rfl tys_ok rfl (show AllL _ [(127, e_nat_number)] from ⟨X_nat_number.ok, trivial⟩) mixed (by kernel_rfl) (by kernel_rfl) (by kernel_rfl) 1 (by kernel_rfl) false ⟨nat_OfWide_u3.ok, trivial⟩ ?_
  intro args H
  by_cases hx : ∃ (a0 : Nat → Int), args = [.arr .u64 6 a0] ∧ H = []
  · obtain ⟨a0, rfl, rfl⟩ := hx
    right; intro K
    exact iff_of_eq (X_nat_OfWide.eq a0 K).symm
  · left; intro K h
    simp only [e_nat_OfWide] at h
    split at h
    · exact hx ⟨_, rfl, rfl⟩
    · exact h
noncomputable def e_kind_Value : Entry := ⟨[none, none], false, fun args H K => match args, H with
  | [.int .u8 a0, .agg [.int .u64 a1_0, .int .u64 a1_1]], [] => kind_Value a0 a1_0 a1_1 (fun y0 y1 y2 y3 y4 => K (EV.tuple [EV.agg [EV.bool y0, EV.str y1, EV.str y2, EV.int IntKind.i64 y3], EV.int IntKind.i64 y4]) [])
  | _, _ => False⟩
noncomputable def E_kind_Value : Env := ⟨look tys, look [(19, e_kind_Unpack), (85, e_exact_Make), (86, e_nat_OfWide)], look [], gl, lookL [], false⟩
theorem X_kind_Value.eq (a0 : Int) (a1_0 : Int) (a1_1 : Int) (K : EV → Heap → Prop) : evFn E_kind_Value Tryd.f32 false [.int .u8 a0, .agg [.int .u64 a1_0, .int .u64 a1_1]] [] K = kind_Value a0 a1_0 a1_1 (fun y0 y1 y2 y3 y4 => K (EV.tuple [EV.agg [EV.bool y0, EV.str y1, EV.str y2, EV.int IntKind.i64 y3], EV.int IntKind.i64 y4]) []) := by
  have h : evFnQ E_kind_Value Tryd.f32 false [.int .u8 a0, .agg [.int .u64 a1_0, .int .u64 a1_1]] [] K = kind_Value.d a0 a1_0 a1_1 (fun y0 y1 y2 y3 y4 => K (EV.tuple [EV.agg [EV.bool y0, EV.str y1, EV.str y2, EV.int IntKind.i64 y3], EV.int IntKind.i64 y4]) []) := by kernel_rfl
  rw [kind_Value.is]; exact (evFnQ_eq _ _ _ _ _ _).symm.trans h
theorem X_kind_Value.ok : SoundE Tryd.prog gl 32 e_kind_Value := by
  refine fnOK (E := E_kind_Value) (fn := Tryd.f32) rfl tys_ok rfl (show AllL _ [(19, e_kind_Unpack), (85, e_exact_Make), (86, e_nat_OfWide)] from ⟨X_kind_Unpack.ok, X_exact_Make.ok, X_nat_OfWide.ok, trivial⟩) mixed (by kernel_rfl) (by kernel_rfl) (by kernel_rfl) 0 (by kernel_rfl) false trivial ?_
  intro args H
  by_cases hx : ∃ (a0 : Int) (a1_0 : Int) (a1_1 : Int), args = [.int .u8 a0, .agg [.int .u64 a1_0, .int .u64 a1_1]] ∧ H = []
  · obtain ⟨a0, a1_0, a1_1, rfl, rfl⟩ := hx
    right; intro K
    exact iff_of_eq (X_kind_Value.eq a0 a1_0 a1_1 K).symm
  · left; intro K h
    simp only [e_kind_Value] at h
    split at h
    · exact hx ⟨_, _, _, rfl, rfl⟩
    · exact h
noncomputable def e_shape_field : Entry := ⟨[none, none], false, fun args H K => match args, H with
  | [.int .u8 a0, .int .i64 a1], [] => shape_field a0 a1 (fun y0 y1 => K (EV.agg [EV.int IntKind.u64 y0, EV.int IntKind.u64 y1]) [])
  | _, _ => False⟩
noncomputable def E_shape_field : Env := ⟨look tys, look [(55, e_shape_Precision), (107, e_shape_at)], look [], gl, lookL [], false⟩
theorem X_shape_field.eq (a0 : Int) (a1 : Int) (K : EV → Heap → Prop) : evFn E_shape_field Tryd.f88 false [.int .u8 a0, .int .i64 a1] [] K = shape_field a0 a1 (fun y0 y1 => K (EV.agg [EV.int IntKind.u64 y0, EV.int IntKind.u64 y1]) []) := by
  have h : evFnQ E_shape_field Tryd.f88 false [.int .u8 a0, .int .i64 a1] [] K = shape_field.d a0 a1 (fun y0 y1 => K (EV.agg [EV.int IntKind.u64 y0, EV.int IntKind.u64 y1]) []) := by kernel_rfl
  rw [shape_field.is]; exact (evFnQ_eq _ _ _ _ _ _).symm.trans h
theorem X_shape_field.ok : SoundE Tryd.prog gl 88 e_shape_field := by
  refine fnOK (E := E_shape_field) (fn := Tryd.f88) rfl tys_ok rfl (show AllL _ [(55, e_shape_Precision), (107, e_shape_at)] from ⟨X_shape_Precision.ok, X_shape_at.ok, trivial⟩) mixed (by kernel_rfl) (by kernel_rfl) (by kernel_rfl) 0 (by kernel_rfl) false trivial ?_
  intro args H
  by_cases hx : ∃ (a0 : Int) (a1 : Int), args = [.int .u8 a0, .int .i64 a1] ∧ H = []
  · obtain ⟨a0, a1, rfl, rfl⟩ := hx
    right; intro K
    exact iff_of_eq (X_shape_field.eq a0 a1 K).symm
  · left; intro K h
    simp only [e_shape_field] at h
    split at h
    · exact hx ⟨_, _, rfl, rfl⟩
    · exact h
noncomputable def e_shape_Inf : Entry := ⟨[none, none], false, fun args H K => match args, H with
  | [.int .u8 a0, .bool a1], [] => shape_Inf a0 a1 (fun y0 y1 => K (EV.agg [EV.int IntKind.u64 y0, EV.int IntKind.u64 y1]) [])
  | _, _ => False⟩
noncomputable def E_shape_Inf : Env := ⟨look tys, look [(63, e_shape_Check), (66, e_shape_Emax), (87, e_shape_with), (88, e_shape_field)], look [], gl, lookL [], false⟩
theorem X_shape_Inf.eq (a0 : Int) (a1 : Bool) (K : EV → Heap → Prop) : evFn E_shape_Inf Tryd.f33 false [.int .u8 a0, .bool a1] [] K = shape_Inf a0 a1 (fun y0 y1 => K (EV.agg [EV.int IntKind.u64 y0, EV.int IntKind.u64 y1]) []) := by
  have h : evFnQ E_shape_Inf Tryd.f33 false [.int .u8 a0, .bool a1] [] K = shape_Inf.d a0 a1 (fun y0 y1 => K (EV.agg [EV.int IntKind.u64 y0, EV.int IntKind.u64 y1]) []) := by kernel_rfl
  rw [shape_Inf.is]; exact (evFnQ_eq _ _ _ _ _ _).symm.trans h
theorem X_shape_Inf.ok : SoundE Tryd.prog gl 33 e_shape_Inf := by
  refine fnOK (E := E_shape_Inf) (fn := Tryd.f33) rfl tys_ok rfl (show AllL _ [(63, e_shape_Check), (66, e_shape_Emax), (87, e_shape_with), (88, e_shape_field)] from ⟨X_shape_Check.ok, X_shape_Emax.ok, X_shape_with.ok, X_shape_field.ok, trivial⟩) mixed (by kernel_rfl) (by kernel_rfl) (by kernel_rfl) 0 (by kernel_rfl) false trivial ?_
  intro args H
  by_cases hx : ∃ (a0 : Int) (a1 : Bool), args = [.int .u8 a0, .bool a1] ∧ H = []
  · obtain ⟨a0, a1, rfl, rfl⟩ := hx
    right; intro K
    exact iff_of_eq (X_shape_Inf.eq a0 a1 K).symm
  · left; intro K h
    simp only [e_shape_Inf] at h
    split at h
    · exact hx ⟨_, _, rfl, rfl⟩
    · exact h
noncomputable def e_exact_odd : Entry := ⟨[none], false, fun args H K => match args, H with
  | [.str a0], [] => exact_odd a0 (fun y0 => K (EV.bool y0) [])
  | _, _ => False⟩
noncomputable def E_exact_odd : Env := ⟨look tys, look [], look [], gl, lookL [], false⟩
theorem X_exact_odd.eq (a0 : List UInt8) (K : EV → Heap → Prop) : evFn E_exact_odd Tryd.f136 false [.str a0] [] K = exact_odd a0 (fun y0 => K (EV.bool y0) []) := by
  have h : evFnQ E_exact_odd Tryd.f136 false [.str a0] [] K = exact_odd.d a0 (fun y0 => K (EV.bool y0) []) := by kernel_rfl
  rw [exact_odd.is]; exact (evFnQ_eq _ _ _ _ _ _).symm.trans h
theorem X_exact_odd.ok : SoundE Tryd.prog gl 136 e_exact_odd := by
  refine fnOK (E := E_exact_odd) (fn := Tryd.f136) rfl tys_ok rfl (show AllL _ [] from trivial) mixed (by kernel_rfl) (by kernel_rfl) (by kernel_rfl) 0 (by kernel_rfl) false trivial ?_
  intro args H
  by_cases hx : ∃ (a0 : List UInt8), args = [.str a0] ∧ H = []
  · obtain ⟨a0, rfl, rfl⟩ := hx
    right; intro K
    exact iff_of_eq (X_exact_odd.eq a0 K).symm
  · left; intro K h
    simp only [e_exact_odd] at h
    split at h
    · exact hx ⟨_, rfl, rfl⟩
    · exact h
noncomputable def e_exact_Check : Entry := ⟨[none], false, fun args H K => match args, H with
  | [.agg [.bool a0_0, .str a0_1, .str a0_2, .int .i64 a0_3]], [] => exact_Check a0_0 a0_1 a0_2 a0_3 (fun y0 => K (EV.int IntKind.i64 y0) [])
  | _, _ => False⟩
noncomputable def E_exact_Check : Env := ⟨look tys, look [(98, e_exact_within), (121, e_nat_Check), (122, e_exact_null), (125, e_nat_Gcd), (136, e_exact_odd)], look [], gl, lookL [], false⟩
theorem X_exact_Check.eq (a0_0 : Bool) (a0_1 : List UInt8) (a0_2 : List UInt8) (a0_3 : Int) (K : EV → Heap → Prop) : evFn E_exact_Check Tryd.f97 false [.agg [.bool a0_0, .str a0_1, .str a0_2, .int .i64 a0_3]] [] K = exact_Check a0_0 a0_1 a0_2 a0_3 (fun y0 => K (EV.int IntKind.i64 y0) []) := by
  have h : evFnQ E_exact_Check Tryd.f97 false [.agg [.bool a0_0, .str a0_1, .str a0_2, .int .i64 a0_3]] [] K = exact_Check.d a0_0 a0_1 a0_2 a0_3 (fun y0 => K (EV.int IntKind.i64 y0) []) := by kernel_rfl
  rw [exact_Check.is]; exact (evFnQ_eq _ _ _ _ _ _).symm.trans h
theorem X_exact_Check.ok : SoundE Tryd.prog gl 97 e_exact_Check := by
  refine fnOK (E := E_exact_Check) (fn := Tryd.f97) rfl tys_ok rfl (show AllL _ [(98, e_exact_within), (121, e_nat_Check), (122, e_exact_null), (125, e_nat_Gcd), (136, e_exact_odd)] from ⟨X_exact_within.ok, X_nat_Check.ok, X_exact_null.ok, X_nat_Gcd.ok, X_exact_odd.ok, trivial⟩) mixed (by kernel_rfl) (by kernel_rfl) (by kernel_rfl) 0 (by kernel_rfl) false trivial ?_
  intro args H
  by_cases hx : ∃ (a0_0 : Bool) (a0_1 : List UInt8) (a0_2 : List UInt8) (a0_3 : Int), args = [.agg [.bool a0_0, .str a0_1, .str a0_2, .int .i64 a0_3]] ∧ H = []
  · obtain ⟨a0_0, a0_1, a0_2, a0_3, rfl, rfl⟩ := hx
    right; intro K
    exact iff_of_eq (X_exact_Check.eq a0_0 a0_1 a0_2 a0_3 K).symm
  · left; intro K h
    simp only [e_exact_Check] at h
    split at h
    · exact hx ⟨_, _, _, _, rfl, rfl⟩
    · exact h
noncomputable def e_exact_right : Entry := ⟨[none, none], false, fun args H K => match args, H with
  | [.agg [.bool a0_0, .str a0_1, .str a0_2, .int .i64 a0_3], .agg [.bool a1_0, .str a1_1, .str a1_2, .int .i64 a1_3]], [] => exact_right a0_0 a0_1 a0_2 a0_3 a1_0 a1_1 a1_2 a1_3 (fun y0 => K (EV.bool y0) [])
  | _, _ => False⟩
noncomputable def E_exact_right : Env := ⟨look tys, look [(97, e_exact_Check)], look [], gl, lookL [], false⟩
theorem X_exact_right.eq (a0_0 : Bool) (a0_1 : List UInt8) (a0_2 : List UInt8) (a0_3 : Int) (a1_0 : Bool) (a1_1 : List UInt8) (a1_2 : List UInt8) (a1_3 : Int) (K : EV → Heap → Prop) : evFn E_exact_right Tryd.f89 false [.agg [.bool a0_0, .str a0_1, .str a0_2, .int .i64 a0_3], .agg [.bool a1_0, .str a1_1, .str a1_2, .int .i64 a1_3]] [] K = exact_right a0_0 a0_1 a0_2 a0_3 a1_0 a1_1 a1_2 a1_3 (fun y0 => K (EV.bool y0) []) := by
  have h : evFnQ E_exact_right Tryd.f89 false [.agg [.bool a0_0, .str a0_1, .str a0_2, .int .i64 a0_3], .agg [.bool a1_0, .str a1_1, .str a1_2, .int .i64 a1_3]] [] K = exact_right.d a0_0 a0_1 a0_2 a0_3 a1_0 a1_1 a1_2 a1_3 (fun y0 => K (EV.bool y0) []) := by kernel_rfl
  rw [exact_right.is]; exact (evFnQ_eq _ _ _ _ _ _).symm.trans h
theorem X_exact_right.ok : SoundE Tryd.prog gl 89 e_exact_right := by
  refine fnOK (E := E_exact_right) (fn := Tryd.f89) rfl tys_ok rfl (show AllL _ [(97, e_exact_Check)] from ⟨X_exact_Check.ok, trivial⟩) mixed (by kernel_rfl) (by kernel_rfl) (by kernel_rfl) 0 (by kernel_rfl) false trivial ?_
  intro args H
  by_cases hx : ∃ (a0_0 : Bool) (a0_1 : List UInt8) (a0_2 : List UInt8) (a0_3 : Int) (a1_0 : Bool) (a1_1 : List UInt8) (a1_2 : List UInt8) (a1_3 : Int), args = [.agg [.bool a0_0, .str a0_1, .str a0_2, .int .i64 a0_3], .agg [.bool a1_0, .str a1_1, .str a1_2, .int .i64 a1_3]] ∧ H = []
  · obtain ⟨a0_0, a0_1, a0_2, a0_3, a1_0, a1_1, a1_2, a1_3, rfl, rfl⟩ := hx
    right; intro K
    exact iff_of_eq (X_exact_right.eq a0_0 a0_1 a0_2 a0_3 a1_0 a1_1 a1_2 a1_3 K).symm
  · left; intro K h
    simp only [e_exact_right] at h
    split at h
    · exact hx ⟨_, _, _, _, _, _, _, _, rfl, rfl⟩
    · exact h
noncomputable def e_exact_Sign : Entry := ⟨[none], false, fun args H K => match args, H with
  | [.agg [.bool a0_0, .str a0_1, .str a0_2, .int .i64 a0_3]], [] => exact_Sign a0_0 a0_1 a0_2 a0_3 (fun y0 => K (EV.int IntKind.i64 y0) [])
  | _, _ => False⟩
noncomputable def E_exact_Sign : Env := ⟨look tys, look [(97, e_exact_Check)], look [], gl, lookL [], false⟩
theorem X_exact_Sign.eq (a0_0 : Bool) (a0_1 : List UInt8) (a0_2 : List UInt8) (a0_3 : Int) (K : EV → Heap → Prop) : evFn E_exact_Sign Tryd.f90 false [.agg [.bool a0_0, .str a0_1, .str a0_2, .int .i64 a0_3]] [] K = exact_Sign a0_0 a0_1 a0_2 a0_3 (fun y0 => K (EV.int IntKind.i64 y0) []) := by
  have h : evFnQ E_exact_Sign Tryd.f90 false [.agg [.bool a0_0, .str a0_1, .str a0_2, .int .i64 a0_3]] [] K = exact_Sign.d a0_0 a0_1 a0_2 a0_3 (fun y0 => K (EV.int IntKind.i64 y0) []) := by kernel_rfl
  rw [exact_Sign.is]; exact (evFnQ_eq _ _ _ _ _ _).symm.trans h
theorem X_exact_Sign.ok : SoundE Tryd.prog gl 90 e_exact_Sign := by
  refine fnOK (E := E_exact_Sign) (fn := Tryd.f90) rfl tys_ok rfl (show AllL _ [(97, e_exact_Check)] from ⟨X_exact_Check.ok, trivial⟩) mixed (by kernel_rfl) (by kernel_rfl) (by kernel_rfl) 0 (by kernel_rfl) false trivial ?_
  intro args H
  by_cases hx : ∃ (a0_0 : Bool) (a0_1 : List UInt8) (a0_2 : List UInt8) (a0_3 : Int), args = [.agg [.bool a0_0, .str a0_1, .str a0_2, .int .i64 a0_3]] ∧ H = []
  · obtain ⟨a0_0, a0_1, a0_2, a0_3, rfl, rfl⟩ := hx
    right; intro K
    exact iff_of_eq (X_exact_Sign.eq a0_0 a0_1 a0_2 a0_3 K).symm
  · left; intro K h
    simp only [e_exact_Sign] at h
    split at h
    · exact hx ⟨_, _, _, _, rfl, rfl⟩
    · exact h
noncomputable def e_exact_firm_nat : Entry := ⟨[none, none, none], true, fun args H K => match args, H with
  | [.ptr 0 [], .str a1, .int .i64 a2], [some (.agg [.int .i64 a0_0])] => exact_firm_nat a0_0 a1 a2 (fun y0 y1 => K (EV.str y0) [some (EV.agg [EV.int IntKind.i64 y1])])
  | _, _ => False⟩
noncomputable def E_exact_firm_nat : Env := ⟨look tys, look [], look [], gl, lookL [], false⟩
theorem X_exact_firm_nat.eq (a0_0 : Int) (a1 : List UInt8) (a2 : Int) (K : EV → Heap → Prop) : evFn E_exact_firm_nat Tryd.f93 false [.ptr 0 [], .str a1, .int .i64 a2] [some (.agg [.int .i64 a0_0])] K = exact_firm_nat a0_0 a1 a2 (fun y0 y1 => K (EV.str y0) [some (EV.agg [EV.int IntKind.i64 y1])]) := by
  have h : evFnQ E_exact_firm_nat Tryd.f93 false [.ptr 0 [], .str a1, .int .i64 a2] [some (.agg [.int .i64 a0_0])] K = exact_firm_nat.d a0_0 a1 a2 (fun y0 y1 => K (EV.str y0) [some (EV.agg [EV.int IntKind.i64 y1])]) := by kernel_rfl
  rw [exact_firm_nat.is]; exact (evFnQ_eq _ _ _ _ _ _).symm.trans h
theorem X_exact_firm_nat.ok : SoundE Tryd.prog gl 93 e_exact_firm_nat := by
  refine fnOK (E := E_exact_firm_nat) (fn := Tryd.f93) rfl tys_ok rfl (show AllL _ [] from trivial) mixed (by kernel_rfl) (by kernel_rfl) (by kernel_rfl) 0 (by kernel_rfl) false trivial ?_
  intro args H
  by_cases hx : ∃ (a0_0 : Int) (a1 : List UInt8) (a2 : Int), args = [.ptr 0 [], .str a1, .int .i64 a2] ∧ H = [some (.agg [.int .i64 a0_0])]
  · obtain ⟨a0_0, a1, a2, rfl, rfl⟩ := hx
    right; intro K
    exact iff_of_eq (X_exact_firm_nat.eq a0_0 a1 a2 K).symm
  · left; intro K h
    simp only [e_exact_firm_nat] at h
    split at h
    · exact hx ⟨_, _, _, rfl, rfl⟩
    · exact h
noncomputable def e_nat_told : Entry := ⟨[some .u32], false, fun args H K => match args, H with
  | [.rsI .u32 a0n a0], [] => nat_told a0n a0 (fun y0 y1 => K (EV.tuple [EV.str y0, EV.int IntKind.i64 y1]) [])
  | _, _ => False⟩
noncomputable def E_nat_told : Env := ⟨look tys, look [(127, e_nat_number)], look [], gl, lookL [], false⟩
theorem X_nat_told.eq (a0n : Nat) (a0 : Nat → Int) (K : EV → Heap → Prop) : evFn E_nat_told Tryd.f132 false [.rsI .u32 a0n a0] [] K = nat_told a0n a0 (fun y0 y1 => K (EV.tuple [EV.str y0, EV.int IntKind.i64 y1]) []) := by
  have h : evFnQ E_nat_told Tryd.f132 false [.rsI .u32 a0n a0] [] K = nat_told.d a0n a0 (fun y0 y1 => K (EV.tuple [EV.str y0, EV.int IntKind.i64 y1]) []) := by kernel_rfl
  rw [nat_told.is]; exact (evFnQ_eq _ _ _ _ _ _).symm.trans h
theorem X_nat_told.ok : SoundE Tryd.prog gl 132 e_nat_told := by
  refine fnOK (E := E_nat_told) (fn := Tryd.f132) rfl tys_ok rfl (show AllL _ [(127, e_nat_number)] from ⟨X_nat_number.ok, trivial⟩) mixed (by kernel_rfl) (by kernel_rfl) (by kernel_rfl) 0 (by kernel_rfl) false trivial ?_
  intro args H
  by_cases hx : ∃ (a0n : Nat) (a0 : Nat → Int), args = [.rsI .u32 a0n a0] ∧ H = []
  · obtain ⟨a0n, a0, rfl, rfl⟩ := hx
    right; intro K
    exact iff_of_eq (X_nat_told.eq a0n a0 K).symm
  · left; intro K h
    simp only [e_nat_told] at h
    split at h
    · exact hx ⟨_, _, rfl, rfl⟩
    · exact h
noncomputable def e_nat_times : Entry := ⟨[some .u32, some .u32], false, fun args H K => match args, H with
  | [.rsI .u32 a0n a0, .rsI .u32 a1n a1], [] => nat_times a0n a0 a1n a1 (fun y0 y1 => K (EV.rsI IntKind.u32 y0 y1) [])
  | _, _ => False⟩
noncomputable def E_nat_times : Env := ⟨look tys, look [(147, e_nat_cut)], look [(3, nat_times.l3.entry), (7, nat_times.l7.entry)], gl, lookL [], false⟩
theorem nat_times.l3X.stepEq (R : List EV → Heap → Prop) (K : Ex → List EV → Heap → Prop) (x0 : Nat) (x1 : Nat → Int) (x2 : Nat) (x3 : Nat) (x4 : Nat) (x5 : Nat → Int) (x6 : Int) (x7 : Int) (x8 : Nat) (x9 : Nat → Int) : loopStep (evCode E_nat_times (loopAt Tryd.f133 0) { (LV.mk 32 [(0, 32)] 16 0 false) with nx := live (.loop (loopAt Tryd.f133 0)) (LV.mk 32 [(0, 32)] 16 0 false) }) (live (.loop (loopAt Tryd.f133 0)) (LV.mk 32 [(0, 32)] 16 0 false)) (LV.mk 32 [(0, 32)] 16 0 false) 0 67 R [EV.rsI IntKind.u32 x0 x1, EV.slice 0 0 x2 (some x3) 1, EV.rsI IntKind.u32 x4 x5, EV.int IntKind.i64 x6, EV.int IntKind.i64 x7] [some (EV.arr IntKind.u32 x8 x9)] K = nat_times.l3.step (fun x0 x1 x2 x3 x4 x5 x6 x7 x8 x9 => R [EV.rsI IntKind.u32 x0 x1, EV.slice 0 0 x2 (some x3) 1, EV.rsI IntKind.u32 x4 x5, EV.int IntKind.i64 x6, EV.int IntKind.i64 x7] [some (EV.arr IntKind.u32 x8 x9)]) (fun y0 y1 y2 y3 => K (.exit 0) [EV.slice 0 0 y0 (some y1) 1] [some (EV.arr IntKind.u32 y2 y3)]) x0 x1 x2 x3 x4 x5 x6 x7 x8 x9 := (stepQ_eq _ _ _ _ _ _ _ _ _ _ _).symm.trans (by kernel_rfl)
theorem nat_times.l3X.eq (K : Ex → List EV → Heap → Prop) : ∀ (n : Nat) (x0 : Nat) (x1 : Nat → Int) (x2 : Nat) (x3 : Nat) (x4 : Nat) (x5 : Nat → Int) (x6 : Int) (x7 : Int) (x8 : Nat) (x9 : Nat → Int), loopE E_nat_times (loopAt Tryd.f133 0) (LV.mk 32 [(0, 32)] 16 0 false) 0 67 K n [EV.rsI IntKind.u32 x0 x1, EV.slice 0 0 x2 (some x3) 1, EV.rsI IntKind.u32 x4 x5, EV.int IntKind.i64 x6, EV.int IntKind.i64 x7] [some (EV.arr IntKind.u32 x8 x9)] = nat_times.l3 (fun y0 y1 y2 y3 => K (.exit 0) [EV.slice 0 0 y0 (some y1) 1] [some (EV.arr IntKind.u32 y2 y3)]) n x0 x1 x2 x3 x4 x5 x6 x7 x8 x9
  | 0, _, _, _, _, _, _, _, _, _, _ => rfl
  | n + 1, x0, x1, x2, x3, x4, x5, x6, x7, x8, x9 => by
    have ih : (fun (x0 : Nat) (x1 : Nat → Int) (x2 : Nat) (x3 : Nat) (x4 : Nat) (x5 : Nat → Int) (x6 : Int) (x7 : Int) (x8 : Nat) (x9 : Nat → Int) => loopE E_nat_times (loopAt Tryd.f133 0) (LV.mk 32 [(0, 32)] 16 0 false) 0 67 K n [EV.rsI IntKind.u32 x0 x1, EV.slice 0 0 x2 (some x3) 1, EV.rsI IntKind.u32 x4 x5, EV.int IntKind.i64 x6, EV.int IntKind.i64 x7] [some (EV.arr IntKind.u32 x8 x9)]) = nat_times.l3 (fun y0 y1 y2 y3 => K (.exit 0) [EV.slice 0 0 y0 (some y1) 1] [some (EV.arr IntKind.u32 y2 y3)]) n := by funext x0 x1 x2 x3 x4 x5 x6 x7 x8 x9; exact nat_times.l3X.eq K n x0 x1 x2 x3 x4 x5 x6 x7 x8 x9
    show loopStep _ _ _ _ _ (loopE E_nat_times (loopAt Tryd.f133 0) (LV.mk 32 [(0, 32)] 16 0 false) 0 67 K n) [EV.rsI IntKind.u32 x0 x1, EV.slice 0 0 x2 (some x3) 1, EV.rsI IntKind.u32 x4 x5, EV.int IntKind.i64 x6, EV.int IntKind.i64 x7] [some (EV.arr IntKind.u32 x8 x9)] K = nat_times.l3.step (nat_times.l3 (fun y0 y1 y2 y3 => K (.exit 0) [EV.slice 0 0 y0 (some y1) 1] [some (EV.arr IntKind.u32 y2 y3)]) n) (fun y0 y1 y2 y3 => K (.exit 0) [EV.slice 0 0 y0 (some y1) 1] [some (EV.arr IntKind.u32 y2 y3)]) x0 x1 x2 x3 x4 x5 x6 x7 x8 x9
    rw [← ih]
    exact nat_times.l3X.stepEq _ K x0 x1 x2 x3 x4 x5 x6 x7 x8 x9
theorem nat_times.l3X.ok : LoopEq E_nat_times (loopAt Tryd.f133 0) := by
  intro L hL vs H
  have h1 : E_nat_times.lp (firstRegion (loopAt Tryd.f133 0)) = some nat_times.l3.entry := by kernel_rfl
  have h2 : L = nat_times.l3.entry := Option.some.inj (hL.symm.trans h1)
  subst h2
  by_cases hx : ∃ (x0 : Nat) (x1 : Nat → Int) (x2 : Nat) (x3 : Nat) (x4 : Nat) (x5 : Nat → Int) (x6 : Int) (x7 : Int) (x8 : Nat) (x9 : Nat → Int), vs = [EV.rsI IntKind.u32 x0 x1, EV.slice 0 0 x2 (some x3) 1, EV.rsI IntKind.u32 x4 x5, EV.int IntKind.i64 x6, EV.int IntKind.i64 x7] ∧ H = [some (EV.arr IntKind.u32 x8 x9)]
  · obtain ⟨x0, x1, x2, x3, x4, x5, x6, x7, x8, x9, rfl, rfl⟩ := hx
    right; intro K
    exact exists_congr fun n => iff_of_eq (nat_times.l3X.eq K n x0 x1 x2 x3 x4 x5 x6 x7 x8 x9).symm
  · left; intro K h
    simp only [nat_times.l3.entry] at h
    split at h
    · exact hx ⟨_, _, _, _, _, _, _, _, _, _, rfl, rfl⟩
    · exact h
theorem nat_times.l7X.stepEq (R : List EV → Heap → Prop) (K : Ex → List EV → Heap → Prop) (x0 : Nat) (x1 : Nat → Int) (x2 : Nat) (x3 : Nat) (x4 : Int) (x5 : Int) (x6 : Int) (x7 : Nat) (x8 : Nat → Int) (x9 : Int) (x10 : Int) (x11 : Nat) (x12 : Nat → Int) (x13 : Int) (x14 : Int) (x15 : Nat) (x16 : Nat → Int) : loopStep (evCode E_nat_times (loopAt Tryd.f133 1) { (LV.mk 917858 [(2, 917858), (1, 917538), (0, 32)] 16 0 false) with nx := live (.loop (loopAt Tryd.f133 1)) (LV.mk 917858 [(2, 917858), (1, 917538), (0, 32)] 16 0 false) }) (live (.loop (loopAt Tryd.f133 1)) (LV.mk 917858 [(2, 917858), (1, 917538), (0, 32)] 16 0 false)) (LV.mk 917858 [(2, 917858), (1, 917538), (0, 32)] 16 0 false) 0 67 R [EV.rsI IntKind.u32 x0 x1, EV.slice 0 0 x2 (some x3) 1, EV.int IntKind.i64 x4, EV.int IntKind.u32 x5, EV.int IntKind.u64 x6, EV.rsI IntKind.u32 x7 x8, EV.int IntKind.i64 x9, EV.int IntKind.i64 x10, EV.rsI IntKind.u32 x11 x12, EV.int IntKind.i64 x13, EV.int IntKind.i64 x14] [some (EV.arr IntKind.u32 x15 x16)] K = nat_times.l7.step (fun x0 x1 x2 x3 x4 x5 x6 x7 x8 x9 x10 x11 x12 x13 x14 x15 x16 => R [EV.rsI IntKind.u32 x0 x1, EV.slice 0 0 x2 (some x3) 1, EV.int IntKind.i64 x4, EV.int IntKind.u32 x5, EV.int IntKind.u64 x6, EV.rsI IntKind.u32 x7 x8, EV.int IntKind.i64 x9, EV.int IntKind.i64 x10, EV.rsI IntKind.u32 x11 x12, EV.int IntKind.i64 x13, EV.int IntKind.i64 x14] [some (EV.arr IntKind.u32 x15 x16)]) (fun y0 y1 y2 y3 y4 y5 y6 y7 y8 y9 y10 y11 => K (.exit 2) [EV.rsI IntKind.u32 y0 y1, EV.slice 0 0 y2 (some y3) 1, EV.int IntKind.i64 y4, EV.int IntKind.u64 y5, EV.rsI IntKind.u32 y6 y7, EV.int IntKind.i64 y8, EV.int IntKind.i64 y9] [some (EV.arr IntKind.u32 y10 y11)]) x0 x1 x2 x3 x4 x5 x6 x7 x8 x9 x10 x11 x12 x13 x14 x15 x16 := (stepQ_eq _ _ _ _ _ _ _ _ _ _ _).symm.trans (by kernel_rfl)
theorem nat_times.l7X.eq (K : Ex → List EV → Heap → Prop) : ∀ (n : Nat) (x0 : Nat) (x1 : Nat → Int) (x2 : Nat) (x3 : Nat) (x4 : Int) (x5 : Int) (x6 : Int) (x7 : Nat) (x8 : Nat → Int) (x9 : Int) (x10 : Int) (x11 : Nat) (x12 : Nat → Int) (x13 : Int) (x14 : Int) (x15 : Nat) (x16 : Nat → Int), loopE E_nat_times (loopAt Tryd.f133 1) (LV.mk 917858 [(2, 917858), (1, 917538), (0, 32)] 16 0 false) 0 67 K n [EV.rsI IntKind.u32 x0 x1, EV.slice 0 0 x2 (some x3) 1, EV.int IntKind.i64 x4, EV.int IntKind.u32 x5, EV.int IntKind.u64 x6, EV.rsI IntKind.u32 x7 x8, EV.int IntKind.i64 x9, EV.int IntKind.i64 x10, EV.rsI IntKind.u32 x11 x12, EV.int IntKind.i64 x13, EV.int IntKind.i64 x14] [some (EV.arr IntKind.u32 x15 x16)] = nat_times.l7 (fun y0 y1 y2 y3 y4 y5 y6 y7 y8 y9 y10 y11 => K (.exit 2) [EV.rsI IntKind.u32 y0 y1, EV.slice 0 0 y2 (some y3) 1, EV.int IntKind.i64 y4, EV.int IntKind.u64 y5, EV.rsI IntKind.u32 y6 y7, EV.int IntKind.i64 y8, EV.int IntKind.i64 y9] [some (EV.arr IntKind.u32 y10 y11)]) n x0 x1 x2 x3 x4 x5 x6 x7 x8 x9 x10 x11 x12 x13 x14 x15 x16
  | 0, _, _, _, _, _, _, _, _, _, _, _, _, _, _, _, _, _ => rfl
  | n + 1, x0, x1, x2, x3, x4, x5, x6, x7, x8, x9, x10, x11, x12, x13, x14, x15, x16 => by
    have ih : (fun (x0 : Nat) (x1 : Nat → Int) (x2 : Nat) (x3 : Nat) (x4 : Int) (x5 : Int) (x6 : Int) (x7 : Nat) (x8 : Nat → Int) (x9 : Int) (x10 : Int) (x11 : Nat) (x12 : Nat → Int) (x13 : Int) (x14 : Int) (x15 : Nat) (x16 : Nat → Int) => loopE E_nat_times (loopAt Tryd.f133 1) (LV.mk 917858 [(2, 917858), (1, 917538), (0, 32)] 16 0 false) 0 67 K n [EV.rsI IntKind.u32 x0 x1, EV.slice 0 0 x2 (some x3) 1, EV.int IntKind.i64 x4, EV.int IntKind.u32 x5, EV.int IntKind.u64 x6, EV.rsI IntKind.u32 x7 x8, EV.int IntKind.i64 x9, EV.int IntKind.i64 x10, EV.rsI IntKind.u32 x11 x12, EV.int IntKind.i64 x13, EV.int IntKind.i64 x14] [some (EV.arr IntKind.u32 x15 x16)]) = nat_times.l7 (fun y0 y1 y2 y3 y4 y5 y6 y7 y8 y9 y10 y11 => K (.exit 2) [EV.rsI IntKind.u32 y0 y1, EV.slice 0 0 y2 (some y3) 1, EV.int IntKind.i64 y4, EV.int IntKind.u64 y5, EV.rsI IntKind.u32 y6 y7, EV.int IntKind.i64 y8, EV.int IntKind.i64 y9] [some (EV.arr IntKind.u32 y10 y11)]) n := by funext x0 x1 x2 x3 x4 x5 x6 x7 x8 x9 x10 x11 x12 x13 x14 x15 x16; exact nat_times.l7X.eq K n x0 x1 x2 x3 x4 x5 x6 x7 x8 x9 x10 x11 x12 x13 x14 x15 x16
    show loopStep _ _ _ _ _ (loopE E_nat_times (loopAt Tryd.f133 1) (LV.mk 917858 [(2, 917858), (1, 917538), (0, 32)] 16 0 false) 0 67 K n) [EV.rsI IntKind.u32 x0 x1, EV.slice 0 0 x2 (some x3) 1, EV.int IntKind.i64 x4, EV.int IntKind.u32 x5, EV.int IntKind.u64 x6, EV.rsI IntKind.u32 x7 x8, EV.int IntKind.i64 x9, EV.int IntKind.i64 x10, EV.rsI IntKind.u32 x11 x12, EV.int IntKind.i64 x13, EV.int IntKind.i64 x14] [some (EV.arr IntKind.u32 x15 x16)] K = nat_times.l7.step (nat_times.l7 (fun y0 y1 y2 y3 y4 y5 y6 y7 y8 y9 y10 y11 => K (.exit 2) [EV.rsI IntKind.u32 y0 y1, EV.slice 0 0 y2 (some y3) 1, EV.int IntKind.i64 y4, EV.int IntKind.u64 y5, EV.rsI IntKind.u32 y6 y7, EV.int IntKind.i64 y8, EV.int IntKind.i64 y9] [some (EV.arr IntKind.u32 y10 y11)]) n) (fun y0 y1 y2 y3 y4 y5 y6 y7 y8 y9 y10 y11 => K (.exit 2) [EV.rsI IntKind.u32 y0 y1, EV.slice 0 0 y2 (some y3) 1, EV.int IntKind.i64 y4, EV.int IntKind.u64 y5, EV.rsI IntKind.u32 y6 y7, EV.int IntKind.i64 y8, EV.int IntKind.i64 y9] [some (EV.arr IntKind.u32 y10 y11)]) x0 x1 x2 x3 x4 x5 x6 x7 x8 x9 x10 x11 x12 x13 x14 x15 x16
    rw [← ih]
    exact nat_times.l7X.stepEq _ K x0 x1 x2 x3 x4 x5 x6 x7 x8 x9 x10 x11 x12 x13 x14 x15 x16
theorem nat_times.l7X.ok : LoopEq E_nat_times (loopAt Tryd.f133 1) := by
  intro L hL vs H
  have h1 : E_nat_times.lp (firstRegion (loopAt Tryd.f133 1)) = some nat_times.l7.entry := by kernel_rfl
  have h2 : L = nat_times.l7.entry := Option.some.inj (hL.symm.trans h1)
  subst h2
  by_cases hx : ∃ (x0 : Nat) (x1 : Nat → Int) (x2 : Nat) (x3 : Nat) (x4 : Int) (x5 : Int) (x6 : Int) (x7 : Nat) (x8 : Nat → Int) (x9 : Int) (x10 : Int) (x11 : Nat) (x12 : Nat → Int) (x13 : Int) (x14 : Int) (x15 : Nat) (x16 : Nat → Int), vs = [EV.rsI IntKind.u32 x0 x1, EV.slice 0 0 x2 (some x3) 1, EV.int IntKind.i64 x4, EV.int IntKind.u32 x5, EV.int IntKind.u64 x6, EV.rsI IntKind.u32 x7 x8, EV.int IntKind.i64 x9, EV.int IntKind.i64 x10, EV.rsI IntKind.u32 x11 x12, EV.int IntKind.i64 x13, EV.int IntKind.i64 x14] ∧ H = [some (EV.arr IntKind.u32 x15 x16)]
  · obtain ⟨x0, x1, x2, x3, x4, x5, x6, x7, x8, x9, x10, x11, x12, x13, x14, x15, x16, rfl, rfl⟩ := hx
    right; intro K
    exact exists_congr fun n => iff_of_eq (nat_times.l7X.eq K n x0 x1 x2 x3 x4 x5 x6 x7 x8 x9 x10 x11 x12 x13 x14 x15 x16).symm
  · left; intro K h
    simp only [nat_times.l7.entry] at h
    split at h
    · exact hx ⟨_, _, _, _, _, _, _, _, _, _, _, _, _, _, _, _, _, rfl, rfl⟩
    · exact h
theorem X_nat_times.eq (a0n : Nat) (a0 : Nat → Int) (a1n : Nat) (a1 : Nat → Int) (K : EV → Heap → Prop) : evFn E_nat_times Tryd.f133 false [.rsI .u32 a0n a0, .rsI .u32 a1n a1] [] K = nat_times a0n a0 a1n a1 (fun y0 y1 => K (EV.rsI IntKind.u32 y0 y1) []) := by
  have h : evFnQ E_nat_times Tryd.f133 false [.rsI .u32 a0n a0, .rsI .u32 a1n a1] [] K = nat_times.d a0n a0 a1n a1 (fun y0 y1 => K (EV.rsI IntKind.u32 y0 y1) []) := by kernel_rfl
  rw [nat_times.is]; exact (evFnQ_eq _ _ _ _ _ _).symm.trans h
theorem X_nat_times.ok : SoundE Tryd.prog gl 133 e_nat_times := by
  refine fnOK (E := E_nat_times) (fn := Tryd.f133) rfl tys_ok rfl (show AllL _ [(147, e_nat_cut)] from ⟨X_nat_cut.ok, trivial⟩) mixed (by kernel_rfl) (by kernel_rfl) (by kernel_rfl) 2 (by kernel_rfl) false ⟨nat_times.l3X.ok, nat_times.l7X.ok, trivial⟩ ?_
  intro args H
  by_cases hx : ∃ (a0n : Nat) (a0 : Nat → Int) (a1n : Nat) (a1 : Nat → Int), args = [.rsI .u32 a0n a0, .rsI .u32 a1n a1] ∧ H = []
  · obtain ⟨a0n, a0, a1n, a1, rfl, rfl⟩ := hx
    right; intro K
    exact iff_of_eq (X_nat_times.eq a0n a0 a1n a1 K).symm
  · left; intro K h
    simp only [e_nat_times] at h
    split at h
    · exact hx ⟨_, _, _, _, rfl, rfl⟩
    · exact h
noncomputable def e_nat_Mul : Entry := ⟨[none, none], false, fun args H K => match args, H with
  | [.str a0, .str a1], [] => nat_Mul a0 a1 (fun y0 y1 => K (EV.tuple [EV.str y0, EV.int IntKind.i64 y1]) [])
  | _, _ => False⟩
noncomputable def E_nat_Mul : Env := ⟨look tys, look [(129, e_nat_right), (131, e_nat_words), (132, e_nat_told), (133, e_nat_times)], look [], gl, lookL [], false⟩
theorem X_nat_Mul.eq (a0 : List UInt8) (a1 : List UInt8) (K : EV → Heap → Prop) : evFn E_nat_Mul Tryd.f94 false [.str a0, .str a1] [] K = nat_Mul a0 a1 (fun y0 y1 => K (EV.tuple [EV.str y0, EV.int IntKind.i64 y1]) []) := by
  have h : evFnQ E_nat_Mul Tryd.f94 false [.str a0, .str a1] [] K = nat_Mul.d a0 a1 (fun y0 y1 => K (EV.tuple [EV.str y0, EV.int IntKind.i64 y1]) []) := by kernel_rfl
  rw [nat_Mul.is]; exact (evFnQ_eq _ _ _ _ _ _).symm.trans h
theorem X_nat_Mul.ok : SoundE Tryd.prog gl 94 e_nat_Mul := by
  refine fnOK (E := E_nat_Mul) (fn := Tryd.f94) rfl tys_ok rfl (show AllL _ [(129, e_nat_right), (131, e_nat_words), (132, e_nat_told), (133, e_nat_times)] from ⟨X_nat_right.ok, X_nat_words.ok, X_nat_told.ok, X_nat_times.ok, trivial⟩) mixed (by kernel_rfl) (by kernel_rfl) (by kernel_rfl) 0 (by kernel_rfl) false trivial ?_
  intro args H
  by_cases hx : ∃ (a0 : List UInt8) (a1 : List UInt8), args = [.str a0, .str a1] ∧ H = []
  · obtain ⟨a0, a1, rfl, rfl⟩ := hx
    right; intro K
    exact iff_of_eq (X_nat_Mul.eq a0 a1 K).symm
  · left; intro K h
    simp only [e_nat_Mul] at h
    split at h
    · exact hx ⟨_, _, rfl, rfl⟩
    · exact h
noncomputable def e_nat_Len : Entry := ⟨[none], false, fun args H K => match args, H with
  | [.str a0], [] => nat_Len a0 (fun y0 => K (EV.int IntKind.i64 y0) [])
  | _, _ => False⟩
noncomputable def E_nat_Len : Env := ⟨look tys, look [(112, e_word_Len), (121, e_nat_Check)], look [], gl, lookL [], false⟩
theorem X_nat_Len.eq (a0 : List UInt8) (K : EV → Heap → Prop) : evFn E_nat_Len Tryd.f138 false [.str a0] [] K = nat_Len a0 (fun y0 => K (EV.int IntKind.i64 y0) []) := by
  have h : evFnQ E_nat_Len Tryd.f138 false [.str a0] [] K = nat_Len.d a0 (fun y0 => K (EV.int IntKind.i64 y0) []) := by kernel_rfl
  rw [nat_Len.is]; exact (evFnQ_eq _ _ _ _ _ _).symm.trans h
theorem X_nat_Len.ok : SoundE Tryd.prog gl 138 e_nat_Len := by
  refine fnOK (E := E_nat_Len) (fn := Tryd.f138) rfl tys_ok rfl (show AllL _ [(112, e_word_Len), (121, e_nat_Check)] from ⟨X_word_Len.ok, X_nat_Check.ok, trivial⟩) mixed (by kernel_rfl) (by kernel_rfl) (by kernel_rfl) 0 (by kernel_rfl) false trivial ?_
  intro args H
  by_cases hx : ∃ (a0 : List UInt8), args = [.str a0] ∧ H = []
  · obtain ⟨a0, rfl, rfl⟩ := hx
    right; intro K
    exact iff_of_eq (X_nat_Len.eq a0 K).symm
  · left; intro K h
    simp only [e_nat_Len] at h
    split at h
    · exact hx ⟨_, rfl, rfl⟩
    · exact h
noncomputable def e_nat_Left : Entry := ⟨[none, none], false, fun args H K => match args, H with
  | [.str a0, .int .i64 a1], [] => nat_Left a0 a1 (fun y0 y1 => K (EV.tuple [EV.str y0, EV.int IntKind.i64 y1]) [])
  | _, _ => False⟩
noncomputable def E_nat_Left : Env := ⟨look tys, look [(121, e_nat_Check), (131, e_nat_words), (132, e_nat_told), (138, e_nat_Len), (148, e_nat_up)], look [], gl, lookL [], false⟩
theorem X_nat_Left.eq (a0 : List UInt8) (a1 : Int) (K : EV → Heap → Prop) : evFn E_nat_Left Tryd.f128 false [.str a0, .int .i64 a1] [] K = nat_Left a0 a1 (fun y0 y1 => K (EV.tuple [EV.str y0, EV.int IntKind.i64 y1]) []) := by
  have h : evFnQ E_nat_Left Tryd.f128 false [.str a0, .int .i64 a1] [] K = nat_Left.d a0 a1 (fun y0 y1 => K (EV.tuple [EV.str y0, EV.int IntKind.i64 y1]) []) := by kernel_rfl
  rw [nat_Left.is]; exact (evFnQ_eq _ _ _ _ _ _).symm.trans h
theorem X_nat_Left.ok : SoundE Tryd.prog gl 128 e_nat_Left := by
  refine fnOK (E := E_nat_Left) (fn := Tryd.f128) rfl tys_ok rfl (show AllL _ [(121, e_nat_Check), (131, e_nat_words), (132, e_nat_told), (138, e_nat_Len), (148, e_nat_up)] from ⟨X_nat_Check.ok, X_nat_words.ok, X_nat_told.ok, X_nat_Len.ok, X_nat_up.ok, trivial⟩) mixed (by kernel_rfl) (by kernel_rfl) (by kernel_rfl) 0 (by kernel_rfl) false trivial ?_
  intro args H
  by_cases hx : ∃ (a0 : List UInt8) (a1 : Int), args = [.str a0, .int .i64 a1] ∧ H = []
  · obtain ⟨a0, a1, rfl, rfl⟩ := hx
    right; intro K
    exact iff_of_eq (X_nat_Left.eq a0 a1 K).symm
  · left; intro K h
    simp only [e_nat_Left] at h
    split at h
    · exact hx ⟨_, _, rfl, rfl⟩
    · exact h
noncomputable def e_exact_level : Entry := ⟨[none, none], false, fun args H K => match args, H with
  | [.agg [.bool a0_0, .str a0_1, .str a0_2, .int .i64 a0_3], .agg [.bool a1_0, .str a1_1, .str a1_2, .int .i64 a1_3]], [] => exact_level a0_0 a0_1 a0_2 a0_3 a1_0 a1_1 a1_2 a1_3 (fun y0 y1 y2 y3 => K (EV.tuple [EV.str y0, EV.str y1, EV.int IntKind.i64 y2, EV.int IntKind.i64 y3]) [])
  | _, _ => False⟩
noncomputable def E_exact_level : Env := ⟨look tys, look [(93, e_exact_firm_nat), (94, e_nat_Mul), (128, e_nat_Left)], look [], gl, lookL [], false⟩
theorem X_exact_level.eq (a0_0 : Bool) (a0_1 : List UInt8) (a0_2 : List UInt8) (a0_3 : Int) (a1_0 : Bool) (a1_1 : List UInt8) (a1_2 : List UInt8) (a1_3 : Int) (K : EV → Heap → Prop) : evFn E_exact_level Tryd.f91 false [.agg [.bool a0_0, .str a0_1, .str a0_2, .int .i64 a0_3], .agg [.bool a1_0, .str a1_1, .str a1_2, .int .i64 a1_3]] [] K = exact_level a0_0 a0_1 a0_2 a0_3 a1_0 a1_1 a1_2 a1_3 (fun y0 y1 y2 y3 => K (EV.tuple [EV.str y0, EV.str y1, EV.int IntKind.i64 y2, EV.int IntKind.i64 y3]) []) := by
  have h : evFnQ E_exact_level Tryd.f91 false [.agg [.bool a0_0, .str a0_1, .str a0_2, .int .i64 a0_3], .agg [.bool a1_0, .str a1_1, .str a1_2, .int .i64 a1_3]] [] K = exact_level.d a0_0 a0_1 a0_2 a0_3 a1_0 a1_1 a1_2 a1_3 (fun y0 y1 y2 y3 => K (EV.tuple [EV.str y0, EV.str y1, EV.int IntKind.i64 y2, EV.int IntKind.i64 y3]) []) := by kernel_rfl
  rw [exact_level.is]; exact (evFnQ_eq _ _ _ _ _ _).symm.trans h
theorem X_exact_level.ok : SoundE Tryd.prog gl 91 e_exact_level := by
  refine fnOK (E := E_exact_level) (fn := Tryd.f91) rfl tys_ok rfl (show AllL _ [(93, e_exact_firm_nat), (94, e_nat_Mul), (128, e_nat_Left)] from ⟨X_exact_firm_nat.ok, X_nat_Mul.ok, X_nat_Left.ok, trivial⟩) mixed (by kernel_rfl) (by kernel_rfl) (by kernel_rfl) 0 (by kernel_rfl) false trivial ?_
  intro args H
  by_cases hx : ∃ (a0_0 : Bool) (a0_1 : List UInt8) (a0_2 : List UInt8) (a0_3 : Int) (a1_0 : Bool) (a1_1 : List UInt8) (a1_2 : List UInt8) (a1_3 : Int), args = [.agg [.bool a0_0, .str a0_1, .str a0_2, .int .i64 a0_3], .agg [.bool a1_0, .str a1_1, .str a1_2, .int .i64 a1_3]] ∧ H = []
  · obtain ⟨a0_0, a0_1, a0_2, a0_3, a1_0, a1_1, a1_2, a1_3, rfl, rfl⟩ := hx
    right; intro K
    exact iff_of_eq (X_exact_level.eq a0_0 a0_1 a0_2 a0_3 a1_0 a1_1 a1_2 a1_3 K).symm
  · left; intro K h
    simp only [e_exact_level] at h
    split at h
    · exact hx ⟨_, _, _, _, _, _, _, _, rfl, rfl⟩
    · exact h
noncomputable def e_nat_Cmp : Entry := ⟨[none, none], false, fun args H K => match args, H with
  | [.str a0, .str a1], [] => nat_Cmp a0 a1 (fun y0 y1 => K (EV.tuple [EV.int IntKind.i64 y0, EV.int IntKind.i64 y1]) [])
  | _, _ => False⟩
noncomputable def E_nat_Cmp : Env := ⟨look tys, look [(129, e_nat_right), (130, e_nat_cmp), (131, e_nat_words)], look [], gl, lookL [], false⟩
theorem X_nat_Cmp.eq (a0 : List UInt8) (a1 : List UInt8) (K : EV → Heap → Prop) : evFn E_nat_Cmp Tryd.f92 false [.str a0, .str a1] [] K = nat_Cmp a0 a1 (fun y0 y1 => K (EV.tuple [EV.int IntKind.i64 y0, EV.int IntKind.i64 y1]) []) := by
  have h : evFnQ E_nat_Cmp Tryd.f92 false [.str a0, .str a1] [] K = nat_Cmp.d a0 a1 (fun y0 y1 => K (EV.tuple [EV.int IntKind.i64 y0, EV.int IntKind.i64 y1]) []) := by kernel_rfl
  rw [nat_Cmp.is]; exact (evFnQ_eq _ _ _ _ _ _).symm.trans h
theorem X_nat_Cmp.ok : SoundE Tryd.prog gl 92 e_nat_Cmp := by
  refine fnOK (E := E_nat_Cmp) (fn := Tryd.f92) rfl tys_ok rfl (show AllL _ [(129, e_nat_right), (130, e_nat_cmp), (131, e_nat_words)] from ⟨X_nat_right.ok, X_nat_cmp.ok, X_nat_words.ok, trivial⟩) mixed (by kernel_rfl) (by kernel_rfl) (by kernel_rfl) 0 (by kernel_rfl) false trivial ?_
  intro args H
  by_cases hx : ∃ (a0 : List UInt8) (a1 : List UInt8), args = [.str a0, .str a1] ∧ H = []
  · obtain ⟨a0, a1, rfl, rfl⟩ := hx
    right; intro K
    exact iff_of_eq (X_nat_Cmp.eq a0 a1 K).symm
  · left; intro K h
    simp only [e_nat_Cmp] at h
    split at h
    · exact hx ⟨_, _, rfl, rfl⟩
    · exact h
noncomputable def e_exact_Cmp : Entry := ⟨[none, none], false, fun args H K => match args, H with
  | [.agg [.bool a0_0, .str a0_1, .str a0_2, .int .i64 a0_3], .agg [.bool a1_0, .str a1_1, .str a1_2, .int .i64 a1_3]], [] => exact_Cmp a0_0 a0_1 a0_2 a0_3 a1_0 a1_1 a1_2 a1_3 (fun y0 y1 => K (EV.tuple [EV.int IntKind.i64 y0, EV.int IntKind.i64 y1]) [])
  | _, _ => False⟩
noncomputable def E_exact_Cmp : Env := ⟨look tys, look [(89, e_exact_right), (90, e_exact_Sign), (91, e_exact_level), (92, e_nat_Cmp)], look [], gl, lookL [], false⟩
theorem X_exact_Cmp.eq (a0_0 : Bool) (a0_1 : List UInt8) (a0_2 : List UInt8) (a0_3 : Int) (a1_0 : Bool) (a1_1 : List UInt8) (a1_2 : List UInt8) (a1_3 : Int) (K : EV → Heap → Prop) : evFn E_exact_Cmp Tryd.f34 false [.agg [.bool a0_0, .str a0_1, .str a0_2, .int .i64 a0_3], .agg [.bool a1_0, .str a1_1, .str a1_2, .int .i64 a1_3]] [] K = exact_Cmp a0_0 a0_1 a0_2 a0_3 a1_0 a1_1 a1_2 a1_3 (fun y0 y1 => K (EV.tuple [EV.int IntKind.i64 y0, EV.int IntKind.i64 y1]) []) := by
  have h : evFnQ E_exact_Cmp Tryd.f34 false [.agg [.bool a0_0, .str a0_1, .str a0_2, .int .i64 a0_3], .agg [.bool a1_0, .str a1_1, .str a1_2, .int .i64 a1_3]] [] K = exact_Cmp.d a0_0 a0_1 a0_2 a0_3 a1_0 a1_1 a1_2 a1_3 (fun y0 y1 => K (EV.tuple [EV.int IntKind.i64 y0, EV.int IntKind.i64 y1]) []) := by kernel_rfl
  rw [exact_Cmp.is]; exact (evFnQ_eq _ _ _ _ _ _).symm.trans h
theorem X_exact_Cmp.ok : SoundE Tryd.prog gl 34 e_exact_Cmp := by
  refine fnOK (E := E_exact_Cmp) (fn := Tryd.f34) rfl tys_ok rfl (show AllL _ [(89, e_exact_right), (90, e_exact_Sign), (91, e_exact_level), (92, e_nat_Cmp)] from ⟨X_exact_right.ok, X_exact_Sign.ok, X_exact_level.ok, X_nat_Cmp.ok, trivial⟩) mixed (by kernel_rfl) (by kernel_rfl) (by kernel_rfl) 0 (by kernel_rfl) false trivial ?_
  intro args H
  by_cases hx : ∃ (a0_0 : Bool) (a0_1 : List UInt8) (a0_2 : List UInt8) (a0_3 : Int) (a1_0 : Bool) (a1_1 : List UInt8) (a1_2 : List UInt8) (a1_3 : Int), args = [.agg [.bool a0_0, .str a0_1, .str a0_2, .int .i64 a0_3], .agg [.bool a1_0, .str a1_1, .str a1_2, .int .i64 a1_3]] ∧ H = []
  · obtain ⟨a0_0, a0_1, a0_2, a0_3, a1_0, a1_1, a1_2, a1_3, rfl, rfl⟩ := hx
    right; intro K
    exact iff_of_eq (X_exact_Cmp.eq a0_0 a0_1 a0_2 a0_3 a1_0 a1_1 a1_2 a1_3 K).symm
  · left; intro K h
    simp only [e_exact_Cmp] at h
    split at h
    · exact hx ⟨_, _, _, _, _, _, _, _, rfl, rfl⟩
    · exact h
noncomputable def e_shape_Zero : Entry := ⟨[none, none], false, fun args H K => match args, H with
  | [.int .u8 a0, .bool a1], [] => shape_Zero a0 a1 (fun y0 y1 => K (EV.agg [EV.int IntKind.u64 y0, EV.int IntKind.u64 y1]) [])
  | _, _ => False⟩
noncomputable def E_shape_Zero : Env := ⟨look tys, look [(87, e_shape_with)], look [], gl, lookL [], false⟩
theorem X_shape_Zero.eq (a0 : Int) (a1 : Bool) (K : EV → Heap → Prop) : evFn E_shape_Zero Tryd.f36 false [.int .u8 a0, .bool a1] [] K = shape_Zero a0 a1 (fun y0 y1 => K (EV.agg [EV.int IntKind.u64 y0, EV.int IntKind.u64 y1]) []) := by
  have h : evFnQ E_shape_Zero Tryd.f36 false [.int .u8 a0, .bool a1] [] K = shape_Zero.d a0 a1 (fun y0 y1 => K (EV.agg [EV.int IntKind.u64 y0, EV.int IntKind.u64 y1]) []) := by kernel_rfl
  rw [shape_Zero.is]; exact (evFnQ_eq _ _ _ _ _ _).symm.trans h
theorem X_shape_Zero.ok : SoundE Tryd.prog gl 36 e_shape_Zero := by
  refine fnOK (E := E_shape_Zero) (fn := Tryd.f36) rfl tys_ok rfl (show AllL _ [(87, e_shape_with)] from ⟨X_shape_with.ok, trivial⟩) mixed (by kernel_rfl) (by kernel_rfl) (by kernel_rfl) 0 (by kernel_rfl) false trivial ?_
  intro args H
  by_cases hx : ∃ (a0 : Int) (a1 : Bool), args = [.int .u8 a0, .bool a1] ∧ H = []
  · obtain ⟨a0, a1, rfl, rfl⟩ := hx
    right; intro K
    exact iff_of_eq (X_shape_Zero.eq a0 a1 K).symm
  · left; intro K h
    simp only [e_shape_Zero] at h
    split at h
    · exact hx ⟨_, _, rfl, rfl⟩
    · exact h
noncomputable def e_nat_sum : Entry := ⟨[some .u32, some .u32], false, fun args H K => match args, H with
  | [.rsI .u32 a0n a0, .rsI .u32 a1n a1], [] => nat_sum a0n a0 a1n a1 (fun y0 y1 => K (EV.rsI IntKind.u32 y0 y1) [])
  | _, _ => False⟩
noncomputable def E_nat_sum : Env := ⟨look tys, look [(147, e_nat_cut)], look [(7, nat_sum.l7.entry)], gl, lookL [], false⟩
theorem nat_sum.l7X.stepEq (R : List EV → Heap → Prop) (K : Ex → List EV → Heap → Prop) (x0 : Nat) (x1 : Nat → Int) (x2 : Nat) (x3 : Nat) (x4 : Int) (x5 : Int) (x6 : Nat) (x7 : Nat → Int) : loopStep (evCode E_nat_sum (loopAt Tryd.f134 0) { (LV.mk 32 [(0, 32)] 16 0 false) with nx := live (.loop (loopAt Tryd.f134 0)) (LV.mk 32 [(0, 32)] 16 0 false) }) (live (.loop (loopAt Tryd.f134 0)) (LV.mk 32 [(0, 32)] 16 0 false)) (LV.mk 32 [(0, 32)] 16 0 false) 0 59 R [EV.rsI IntKind.u32 x0 x1, EV.slice 0 0 x2 (some x3) 1, EV.int IntKind.u64 x4, EV.int IntKind.i64 x5] [some (EV.arr IntKind.u32 x6 x7)] K = nat_sum.l7.step (fun x0 x1 x2 x3 x4 x5 x6 x7 => R [EV.rsI IntKind.u32 x0 x1, EV.slice 0 0 x2 (some x3) 1, EV.int IntKind.u64 x4, EV.int IntKind.i64 x5] [some (EV.arr IntKind.u32 x6 x7)]) (fun y0 y1 y2 y3 => K (.exit 0) [EV.slice 0 0 y0 (some y1) 1] [some (EV.arr IntKind.u32 y2 y3)]) x0 x1 x2 x3 x4 x5 x6 x7 := (stepQ_eq _ _ _ _ _ _ _ _ _ _ _).symm.trans (by kernel_rfl)
theorem nat_sum.l7X.eq (K : Ex → List EV → Heap → Prop) : ∀ (n : Nat) (x0 : Nat) (x1 : Nat → Int) (x2 : Nat) (x3 : Nat) (x4 : Int) (x5 : Int) (x6 : Nat) (x7 : Nat → Int), loopE E_nat_sum (loopAt Tryd.f134 0) (LV.mk 32 [(0, 32)] 16 0 false) 0 59 K n [EV.rsI IntKind.u32 x0 x1, EV.slice 0 0 x2 (some x3) 1, EV.int IntKind.u64 x4, EV.int IntKind.i64 x5] [some (EV.arr IntKind.u32 x6 x7)] = nat_sum.l7 (fun y0 y1 y2 y3 => K (.exit 0) [EV.slice 0 0 y0 (some y1) 1] [some (EV.arr IntKind.u32 y2 y3)]) n x0 x1 x2 x3 x4 x5 x6 x7
  | 0, _, _, _, _, _, _, _, _ => rfl
  | n + 1, x0, x1, x2, x3, x4, x5, x6, x7 => by
    have ih : (fun (x0 : Nat) (x1 : Nat → Int) (x2 : Nat) (x3 : Nat) (x4 : Int) (x5 : Int) (x6 : Nat) (x7 : Nat → Int) => loopE E_nat_sum (loopAt Tryd.f134 0) (LV.mk 32 [(0, 32)] 16 0 false) 0 59 K n [EV.rsI IntKind.u32 x0 x1, EV.slice 0 0 x2 (some x3) 1, EV.int IntKind.u64 x4, EV.int IntKind.i64 x5] [some (EV.arr IntKind.u32 x6 x7)]) = nat_sum.l7 (fun y0 y1 y2 y3 => K (.exit 0) [EV.slice 0 0 y0 (some y1) 1] [some (EV.arr IntKind.u32 y2 y3)]) n := by funext x0 x1 x2 x3 x4 x5 x6 x7; exact nat_sum.l7X.eq K n x0 x1 x2 x3 x4 x5 x6 x7
    show loopStep _ _ _ _ _ (loopE E_nat_sum (loopAt Tryd.f134 0) (LV.mk 32 [(0, 32)] 16 0 false) 0 59 K n) [EV.rsI IntKind.u32 x0 x1, EV.slice 0 0 x2 (some x3) 1, EV.int IntKind.u64 x4, EV.int IntKind.i64 x5] [some (EV.arr IntKind.u32 x6 x7)] K = nat_sum.l7.step (nat_sum.l7 (fun y0 y1 y2 y3 => K (.exit 0) [EV.slice 0 0 y0 (some y1) 1] [some (EV.arr IntKind.u32 y2 y3)]) n) (fun y0 y1 y2 y3 => K (.exit 0) [EV.slice 0 0 y0 (some y1) 1] [some (EV.arr IntKind.u32 y2 y3)]) x0 x1 x2 x3 x4 x5 x6 x7
    rw [← ih]
    exact nat_sum.l7X.stepEq _ K x0 x1 x2 x3 x4 x5 x6 x7
theorem nat_sum.l7X.ok : LoopEq E_nat_sum (loopAt Tryd.f134 0) := by
  intro L hL vs H
  have h1 : E_nat_sum.lp (firstRegion (loopAt Tryd.f134 0)) = some nat_sum.l7.entry := by kernel_rfl
  have h2 : L = nat_sum.l7.entry := Option.some.inj (hL.symm.trans h1)
  subst h2
  by_cases hx : ∃ (x0 : Nat) (x1 : Nat → Int) (x2 : Nat) (x3 : Nat) (x4 : Int) (x5 : Int) (x6 : Nat) (x7 : Nat → Int), vs = [EV.rsI IntKind.u32 x0 x1, EV.slice 0 0 x2 (some x3) 1, EV.int IntKind.u64 x4, EV.int IntKind.i64 x5] ∧ H = [some (EV.arr IntKind.u32 x6 x7)]
  · obtain ⟨x0, x1, x2, x3, x4, x5, x6, x7, rfl, rfl⟩ := hx
    right; intro K
    exact exists_congr fun n => iff_of_eq (nat_sum.l7X.eq K n x0 x1 x2 x3 x4 x5 x6 x7).symm
  · left; intro K h
    simp only [nat_sum.l7.entry] at h
    split at h
    · exact hx ⟨_, _, _, _, _, _, _, _, rfl, rfl⟩
    · exact h
theorem X_nat_sum.eq (a0n : Nat) (a0 : Nat → Int) (a1n : Nat) (a1 : Nat → Int) (K : EV → Heap → Prop) : evFn E_nat_sum Tryd.f134 false [.rsI .u32 a0n a0, .rsI .u32 a1n a1] [] K = nat_sum a0n a0 a1n a1 (fun y0 y1 => K (EV.rsI IntKind.u32 y0 y1) []) := by
  have h : evFnQ E_nat_sum Tryd.f134 false [.rsI .u32 a0n a0, .rsI .u32 a1n a1] [] K = nat_sum.d a0n a0 a1n a1 (fun y0 y1 => K (EV.rsI IntKind.u32 y0 y1) []) := by kernel_rfl
  rw [nat_sum.is]; exact (evFnQ_eq _ _ _ _ _ _).symm.trans h
theorem X_nat_sum.ok : SoundE Tryd.prog gl 134 e_nat_sum := by
  refine fnOK (E := E_nat_sum) (fn := Tryd.f134) rfl tys_ok rfl (show AllL _ [(147, e_nat_cut)] from ⟨X_nat_cut.ok, trivial⟩) mixed (by kernel_rfl) (by kernel_rfl) (by kernel_rfl) 1 (by kernel_rfl) false ⟨nat_sum.l7X.ok, trivial⟩ ?_
  intro args H
  by_cases hx : ∃ (a0n : Nat) (a0 : Nat → Int) (a1n : Nat) (a1 : Nat → Int), args = [.rsI .u32 a0n a0, .rsI .u32 a1n a1] ∧ H = []
  · obtain ⟨a0n, a0, a1n, a1, rfl, rfl⟩ := hx
    right; intro K
    exact iff_of_eq (X_nat_sum.eq a0n a0 a1n a1 K).symm
  · left; intro K h
    simp only [e_nat_sum] at h
    split at h
    · exact hx ⟨_, _, _, _, rfl, rfl⟩
    · exact h
noncomputable def e_nat_Add : Entry := ⟨[none, none], false, fun args H K => match args, H with
  | [.str a0, .str a1], [] => nat_Add a0 a1 (fun y0 y1 => K (EV.tuple [EV.str y0, EV.int IntKind.i64 y1]) [])
  | _, _ => False⟩
noncomputable def E_nat_Add : Env := ⟨look tys, look [(129, e_nat_right), (131, e_nat_words), (132, e_nat_told), (134, e_nat_sum)], look [], gl, lookL [], false⟩
theorem X_nat_Add.eq (a0 : List UInt8) (a1 : List UInt8) (K : EV → Heap → Prop) : evFn E_nat_Add Tryd.f95 false [.str a0, .str a1] [] K = nat_Add a0 a1 (fun y0 y1 => K (EV.tuple [EV.str y0, EV.int IntKind.i64 y1]) []) := by
  have h : evFnQ E_nat_Add Tryd.f95 false [.str a0, .str a1] [] K = nat_Add.d a0 a1 (fun y0 y1 => K (EV.tuple [EV.str y0, EV.int IntKind.i64 y1]) []) := by kernel_rfl
  rw [nat_Add.is]; exact (evFnQ_eq _ _ _ _ _ _).symm.trans h
theorem X_nat_Add.ok : SoundE Tryd.prog gl 95 e_nat_Add := by
  refine fnOK (E := E_nat_Add) (fn := Tryd.f95) rfl tys_ok rfl (show AllL _ [(129, e_nat_right), (131, e_nat_words), (132, e_nat_told), (134, e_nat_sum)] from ⟨X_nat_right.ok, X_nat_words.ok, X_nat_told.ok, X_nat_sum.ok, trivial⟩) mixed (by kernel_rfl) (by kernel_rfl) (by kernel_rfl) 0 (by kernel_rfl) false trivial ?_
  intro args H
  by_cases hx : ∃ (a0 : List UInt8) (a1 : List UInt8), args = [.str a0, .str a1] ∧ H = []
  · obtain ⟨a0, a1, rfl, rfl⟩ := hx
    right; intro K
    exact iff_of_eq (X_nat_Add.eq a0 a1 K).symm
  · left; intro K h
    simp only [e_nat_Add] at h
    split at h
    · exact hx ⟨_, _, rfl, rfl⟩
    · exact h
noncomputable def e_nat_less : Entry := ⟨[some .u32, some .u32], false, fun args H K => match args, H with
  | [.rsI .u32 a0n a0, .rsI .u32 a1n a1], [] => nat_less a0n a0 a1n a1 (fun y0 y1 => K (EV.rsI IntKind.u32 y0 y1) [])
  | _, _ => False⟩
noncomputable def E_nat_less : Env := ⟨look tys, look [(147, e_nat_cut)], look [(4, nat_less.l4.entry)], gl, lookL [], false⟩
theorem nat_less.l4X.stepEq (R : List EV → Heap → Prop) (K : Ex → List EV → Heap → Prop) (x0 : Nat) (x1 : Nat → Int) (x2 : Nat) (x3 : Nat → Int) (x4 : Nat) (x5 : Nat) (x6 : Int) (x7 : Int) (x8 : Int) (x9 : Nat) (x10 : Nat → Int) : loopStep (evCode E_nat_less (loopAt Tryd.f135 0) { (LV.mk 32 [(0, 32)] 16 0 false) with nx := live (.loop (loopAt Tryd.f135 0)) (LV.mk 32 [(0, 32)] 16 0 false) }) (live (.loop (loopAt Tryd.f135 0)) (LV.mk 32 [(0, 32)] 16 0 false)) (LV.mk 32 [(0, 32)] 16 0 false) 0 44 R [EV.rsI IntKind.u32 x0 x1, EV.rsI IntKind.u32 x2 x3, EV.slice 0 0 x4 (some x5) 1, EV.int IntKind.i64 x6, EV.int IntKind.i64 x7, EV.int IntKind.i64 x8] [some (EV.arr IntKind.u32 x9 x10)] K = nat_less.l4.step (fun x0 x1 x2 x3 x4 x5 x6 x7 x8 x9 x10 => R [EV.rsI IntKind.u32 x0 x1, EV.rsI IntKind.u32 x2 x3, EV.slice 0 0 x4 (some x5) 1, EV.int IntKind.i64 x6, EV.int IntKind.i64 x7, EV.int IntKind.i64 x8] [some (EV.arr IntKind.u32 x9 x10)]) (fun y0 y1 y2 y3 => K (.exit 0) [EV.slice 0 0 y0 (some y1) 1] [some (EV.arr IntKind.u32 y2 y3)]) x0 x1 x2 x3 x4 x5 x6 x7 x8 x9 x10 := (stepQ_eq _ _ _ _ _ _ _ _ _ _ _).symm.trans (by kernel_rfl)
theorem nat_less.l4X.eq (K : Ex → List EV → Heap → Prop) : ∀ (n : Nat) (x0 : Nat) (x1 : Nat → Int) (x2 : Nat) (x3 : Nat → Int) (x4 : Nat) (x5 : Nat) (x6 : Int) (x7 : Int) (x8 : Int) (x9 : Nat) (x10 : Nat → Int), loopE E_nat_less (loopAt Tryd.f135 0) (LV.mk 32 [(0, 32)] 16 0 false) 0 44 K n [EV.rsI IntKind.u32 x0 x1, EV.rsI IntKind.u32 x2 x3, EV.slice 0 0 x4 (some x5) 1, EV.int IntKind.i64 x6, EV.int IntKind.i64 x7, EV.int IntKind.i64 x8] [some (EV.arr IntKind.u32 x9 x10)] = nat_less.l4 (fun y0 y1 y2 y3 => K (.exit 0) [EV.slice 0 0 y0 (some y1) 1] [some (EV.arr IntKind.u32 y2 y3)]) n x0 x1 x2 x3 x4 x5 x6 x7 x8 x9 x10
  | 0, _, _, _, _, _, _, _, _, _, _, _ => rfl
  | n + 1, x0, x1, x2, x3, x4, x5, x6, x7, x8, x9, x10 => by
    have ih : (fun (x0 : Nat) (x1 : Nat → Int) (x2 : Nat) (x3 : Nat → Int) (x4 : Nat) (x5 : Nat) (x6 : Int) (x7 : Int) (x8 : Int) (x9 : Nat) (x10 : Nat → Int) => loopE E_nat_less (loopAt Tryd.f135 0) (LV.mk 32 [(0, 32)] 16 0 false) 0 44 K n [EV.rsI IntKind.u32 x0 x1, EV.rsI IntKind.u32 x2 x3, EV.slice 0 0 x4 (some x5) 1, EV.int IntKind.i64 x6, EV.int IntKind.i64 x7, EV.int IntKind.i64 x8] [some (EV.arr IntKind.u32 x9 x10)]) = nat_less.l4 (fun y0 y1 y2 y3 => K (.exit 0) [EV.slice 0 0 y0 (some y1) 1] [some (EV.arr IntKind.u32 y2 y3)]) n := by funext x0 x1 x2 x3 x4 x5 x6 x7 x8 x9 x10; exact nat_less.l4X.eq K n x0 x1 x2 x3 x4 x5 x6 x7 x8 x9 x10
    show loopStep _ _ _ _ _ (loopE E_nat_less (loopAt Tryd.f135 0) (LV.mk 32 [(0, 32)] 16 0 false) 0 44 K n) [EV.rsI IntKind.u32 x0 x1, EV.rsI IntKind.u32 x2 x3, EV.slice 0 0 x4 (some x5) 1, EV.int IntKind.i64 x6, EV.int IntKind.i64 x7, EV.int IntKind.i64 x8] [some (EV.arr IntKind.u32 x9 x10)] K = nat_less.l4.step (nat_less.l4 (fun y0 y1 y2 y3 => K (.exit 0) [EV.slice 0 0 y0 (some y1) 1] [some (EV.arr IntKind.u32 y2 y3)]) n) (fun y0 y1 y2 y3 => K (.exit 0) [EV.slice 0 0 y0 (some y1) 1] [some (EV.arr IntKind.u32 y2 y3)]) x0 x1 x2 x3 x4 x5 x6 x7 x8 x9 x10
    rw [← ih]
    exact nat_less.l4X.stepEq _ K x0 x1 x2 x3 x4 x5 x6 x7 x8 x9 x10
theorem nat_less.l4X.ok : LoopEq E_nat_less (loopAt Tryd.f135 0) := by
  intro L hL vs H
  have h1 : E_nat_less.lp (firstRegion (loopAt Tryd.f135 0)) = some nat_less.l4.entry := by kernel_rfl
  have h2 : L = nat_less.l4.entry := Option.some.inj (hL.symm.trans h1)
  subst h2
  by_cases hx : ∃ (x0 : Nat) (x1 : Nat → Int) (x2 : Nat) (x3 : Nat → Int) (x4 : Nat) (x5 : Nat) (x6 : Int) (x7 : Int) (x8 : Int) (x9 : Nat) (x10 : Nat → Int), vs = [EV.rsI IntKind.u32 x0 x1, EV.rsI IntKind.u32 x2 x3, EV.slice 0 0 x4 (some x5) 1, EV.int IntKind.i64 x6, EV.int IntKind.i64 x7, EV.int IntKind.i64 x8] ∧ H = [some (EV.arr IntKind.u32 x9 x10)]
  · obtain ⟨x0, x1, x2, x3, x4, x5, x6, x7, x8, x9, x10, rfl, rfl⟩ := hx
    right; intro K
    exact exists_congr fun n => iff_of_eq (nat_less.l4X.eq K n x0 x1 x2 x3 x4 x5 x6 x7 x8 x9 x10).symm
  · left; intro K h
    simp only [nat_less.l4.entry] at h
    split at h
    · exact hx ⟨_, _, _, _, _, _, _, _, _, _, _, rfl, rfl⟩
    · exact h
theorem X_nat_less.eq (a0n : Nat) (a0 : Nat → Int) (a1n : Nat) (a1 : Nat → Int) (K : EV → Heap → Prop) : evFn E_nat_less Tryd.f135 false [.rsI .u32 a0n a0, .rsI .u32 a1n a1] [] K = nat_less a0n a0 a1n a1 (fun y0 y1 => K (EV.rsI IntKind.u32 y0 y1) []) := by
  have h : evFnQ E_nat_less Tryd.f135 false [.rsI .u32 a0n a0, .rsI .u32 a1n a1] [] K = nat_less.d a0n a0 a1n a1 (fun y0 y1 => K (EV.rsI IntKind.u32 y0 y1) []) := by kernel_rfl
  rw [nat_less.is]; exact (evFnQ_eq _ _ _ _ _ _).symm.trans h
theorem X_nat_less.ok : SoundE Tryd.prog gl 135 e_nat_less := by
  refine fnOK (E := E_nat_less) (fn := Tryd.f135) rfl tys_ok rfl (show AllL _ [(147, e_nat_cut)] from ⟨X_nat_cut.ok, trivial⟩) mixed (by kernel_rfl) (by kernel_rfl) (by kernel_rfl) 1 (by kernel_rfl) false ⟨nat_less.l4X.ok, trivial⟩ ?_
  intro args H
  by_cases hx : ∃ (a0n : Nat) (a0 : Nat → Int) (a1n : Nat) (a1 : Nat → Int), args = [.rsI .u32 a0n a0, .rsI .u32 a1n a1] ∧ H = []
  · obtain ⟨a0n, a0, a1n, a1, rfl, rfl⟩ := hx
    right; intro K
    exact iff_of_eq (X_nat_less.eq a0n a0 a1n a1 K).symm
  · left; intro K h
    simp only [e_nat_less] at h
    split at h
    · exact hx ⟨_, _, _, _, rfl, rfl⟩
    · exact h
noncomputable def e_nat_Sub : Entry := ⟨[none, none], false, fun args H K => match args, H with
  | [.str a0, .str a1], [] => nat_Sub a0 a1 (fun y0 y1 => K (EV.tuple [EV.str y0, EV.int IntKind.i64 y1]) [])
  | _, _ => False⟩
noncomputable def E_nat_Sub : Env := ⟨look tys, look [(92, e_nat_Cmp), (131, e_nat_words), (132, e_nat_told), (135, e_nat_less)], look [], gl, lookL [], false⟩
theorem X_nat_Sub.eq (a0 : List UInt8) (a1 : List UInt8) (K : EV → Heap → Prop) : evFn E_nat_Sub Tryd.f96 false [.str a0, .str a1] [] K = nat_Sub a0 a1 (fun y0 y1 => K (EV.tuple [EV.str y0, EV.int IntKind.i64 y1]) []) := by
  have h : evFnQ E_nat_Sub Tryd.f96 false [.str a0, .str a1] [] K = nat_Sub.d a0 a1 (fun y0 y1 => K (EV.tuple [EV.str y0, EV.int IntKind.i64 y1]) []) := by kernel_rfl
  rw [nat_Sub.is]; exact (evFnQ_eq _ _ _ _ _ _).symm.trans h
theorem X_nat_Sub.ok : SoundE Tryd.prog gl 96 e_nat_Sub := by
  refine fnOK (E := E_nat_Sub) (fn := Tryd.f96) rfl tys_ok rfl (show AllL _ [(92, e_nat_Cmp), (131, e_nat_words), (132, e_nat_told), (135, e_nat_less)] from ⟨X_nat_Cmp.ok, X_nat_words.ok, X_nat_told.ok, X_nat_less.ok, trivial⟩) mixed (by kernel_rfl) (by kernel_rfl) (by kernel_rfl) 0 (by kernel_rfl) false trivial ?_
  intro args H
  by_cases hx : ∃ (a0 : List UInt8) (a1 : List UInt8), args = [.str a0, .str a1] ∧ H = []
  · obtain ⟨a0, a1, rfl, rfl⟩ := hx
    right; intro K
    exact iff_of_eq (X_nat_Sub.eq a0 a1 K).symm
  · left; intro K h
    simp only [e_nat_Sub] at h
    split at h
    · exact hx ⟨_, _, rfl, rfl⟩
    · exact h
noncomputable def e_exact_Add : Entry := ⟨[none, none], false, fun args H K => match args, H with
  | [.agg [.bool a0_0, .str a0_1, .str a0_2, .int .i64 a0_3], .agg [.bool a1_0, .str a1_1, .str a1_2, .int .i64 a1_3]], [] => exact_Add a0_0 a0_1 a0_2 a0_3 a1_0 a1_1 a1_2 a1_3 (fun y0 y1 y2 y3 y4 => K (EV.tuple [EV.agg [EV.bool y0, EV.str y1, EV.str y2, EV.int IntKind.i64 y3], EV.int IntKind.i64 y4]) [])
  | _, _ => False⟩
noncomputable def E_exact_Add : Env := ⟨look tys, look [(85, e_exact_Make), (89, e_exact_right), (91, e_exact_level), (92, e_nat_Cmp), (93, e_exact_firm_nat), (94, e_nat_Mul), (95, e_nat_Add), (96, e_nat_Sub)], look [], gl, lookL [], false⟩
theorem X_exact_Add.eq (a0_0 : Bool) (a0_1 : List UInt8) (a0_2 : List UInt8) (a0_3 : Int) (a1_0 : Bool) (a1_1 : List UInt8) (a1_2 : List UInt8) (a1_3 : Int) (K : EV → Heap → Prop) : evFn E_exact_Add Tryd.f37 false [.agg [.bool a0_0, .str a0_1, .str a0_2, .int .i64 a0_3], .agg [.bool a1_0, .str a1_1, .str a1_2, .int .i64 a1_3]] [] K = exact_Add a0_0 a0_1 a0_2 a0_3 a1_0 a1_1 a1_2 a1_3 (fun y0 y1 y2 y3 y4 => K (EV.tuple [EV.agg [EV.bool y0, EV.str y1, EV.str y2, EV.int IntKind.i64 y3], EV.int IntKind.i64 y4]) []) := by
  have h : evFnQ E_exact_Add Tryd.f37 false [.agg [.bool a0_0, .str a0_1, .str a0_2, .int .i64 a0_3], .agg [.bool a1_0, .str a1_1, .str a1_2, .int .i64 a1_3]] [] K = exact_Add.d a0_0 a0_1 a0_2 a0_3 a1_0 a1_1 a1_2 a1_3 (fun y0 y1 y2 y3 y4 => K (EV.tuple [EV.agg [EV.bool y0, EV.str y1, EV.str y2, EV.int IntKind.i64 y3], EV.int IntKind.i64 y4]) []) := by kernel_rfl
  rw [exact_Add.is]; exact (evFnQ_eq _ _ _ _ _ _).symm.trans h
theorem X_exact_Add.ok : SoundE Tryd.prog gl 37 e_exact_Add := by
  refine fnOK (E := E_exact_Add) (fn := Tryd.f37) rfl tys_ok rfl (show AllL _ [(85, e_exact_Make), (89, e_exact_right), (91, e_exact_level), (92, e_nat_Cmp), (93, e_exact_firm_nat), (94, e_nat_Mul), (95, e_nat_Add), (96, e_nat_Sub)] from ⟨X_exact_Make.ok, X_exact_right.ok, X_exact_level.ok, X_nat_Cmp.ok, X_exact_firm_nat.ok, X_nat_Mul.ok, X_nat_Add.ok, X_nat_Sub.ok, trivial⟩) mixed (by kernel_rfl) (by kernel_rfl) (by kernel_rfl) 0 (by kernel_rfl) false trivial ?_
  intro args H
  by_cases hx : ∃ (a0_0 : Bool) (a0_1 : List UInt8) (a0_2 : List UInt8) (a0_3 : Int) (a1_0 : Bool) (a1_1 : List UInt8) (a1_2 : List UInt8) (a1_3 : Int), args = [.agg [.bool a0_0, .str a0_1, .str a0_2, .int .i64 a0_3], .agg [.bool a1_0, .str a1_1, .str a1_2, .int .i64 a1_3]] ∧ H = []
  · obtain ⟨a0_0, a0_1, a0_2, a0_3, a1_0, a1_1, a1_2, a1_3, rfl, rfl⟩ := hx
    right; intro K
    exact iff_of_eq (X_exact_Add.eq a0_0 a0_1 a0_2 a0_3 a1_0 a1_1 a1_2 a1_3 K).symm
  · left; intro K h
    simp only [e_exact_Add] at h
    split at h
    · exact hx ⟨_, _, _, _, _, _, _, _, rfl, rfl⟩
    · exact h
noncomputable def e_exact_Scale : Entry := ⟨[none, none], false, fun args H K => match args, H with
  | [.agg [.bool a0_0, .str a0_1, .str a0_2, .int .i64 a0_3], .int .i64 a1], [] => exact_Scale a0_0 a0_1 a0_2 a0_3 a1 (fun y0 y1 y2 y3 y4 => K (EV.tuple [EV.agg [EV.bool y0, EV.str y1, EV.str y2, EV.int IntKind.i64 y3], EV.int IntKind.i64 y4]) [])
  | _, _ => False⟩
noncomputable def E_exact_Scale : Env := ⟨look tys, look [(97, e_exact_Check), (98, e_exact_within)], look [], gl, lookL [], false⟩
theorem X_exact_Scale.eq (a0_0 : Bool) (a0_1 : List UInt8) (a0_2 : List UInt8) (a0_3 : Int) (a1 : Int) (K : EV → Heap → Prop) : evFn E_exact_Scale Tryd.f38 false [.agg [.bool a0_0, .str a0_1, .str a0_2, .int .i64 a0_3], .int .i64 a1] [] K = exact_Scale a0_0 a0_1 a0_2 a0_3 a1 (fun y0 y1 y2 y3 y4 => K (EV.tuple [EV.agg [EV.bool y0, EV.str y1, EV.str y2, EV.int IntKind.i64 y3], EV.int IntKind.i64 y4]) []) := by
  have h : evFnQ E_exact_Scale Tryd.f38 false [.agg [.bool a0_0, .str a0_1, .str a0_2, .int .i64 a0_3], .int .i64 a1] [] K = exact_Scale.d a0_0 a0_1 a0_2 a0_3 a1 (fun y0 y1 y2 y3 y4 => K (EV.tuple [EV.agg [EV.bool y0, EV.str y1, EV.str y2, EV.int IntKind.i64 y3], EV.int IntKind.i64 y4]) []) := by kernel_rfl
  rw [exact_Scale.is]; exact (evFnQ_eq _ _ _ _ _ _).symm.trans h
theorem X_exact_Scale.ok : SoundE Tryd.prog gl 38 e_exact_Scale := by
  refine fnOK (E := E_exact_Scale) (fn := Tryd.f38) rfl tys_ok rfl (show AllL _ [(97, e_exact_Check), (98, e_exact_within)] from ⟨X_exact_Check.ok, X_exact_within.ok, trivial⟩) mixed (by kernel_rfl) (by kernel_rfl) (by kernel_rfl) 0 (by kernel_rfl) false trivial ?_
  intro args H
  by_cases hx : ∃ (a0_0 : Bool) (a0_1 : List UInt8) (a0_2 : List UInt8) (a0_3 : Int) (a1 : Int), args = [.agg [.bool a0_0, .str a0_1, .str a0_2, .int .i64 a0_3], .int .i64 a1] ∧ H = []
  · obtain ⟨a0_0, a0_1, a0_2, a0_3, a1, rfl, rfl⟩ := hx
    right; intro K
    exact iff_of_eq (X_exact_Scale.eq a0_0 a0_1 a0_2 a0_3 a1 K).symm
  · left; intro K h
    simp only [e_exact_Scale] at h
    split at h
    · exact hx ⟨_, _, _, _, _, rfl, rfl⟩
    · exact h
noncomputable def e_wide_Len : Entry := ⟨[none], false, fun args H K => match args, H with
  | [.arr .u64 6 a0], [] => wide_Len a0 (fun y0 => K (EV.int IntKind.i64 y0) [])
  | _, _ => False⟩
noncomputable def E_wide_Len : Env := ⟨look tys, look [(112, e_word_Len)], look [(2, wide_Len.l2.entry)], gl, lookL [], false⟩
theorem wide_Len.l2X.stepEq (R : List EV → Heap → Prop) (K : Ex → List EV → Heap → Prop) (x0 : Int) (x1 : Nat → Int) : loopStep (evCode E_wide_Len (loopAt Tryd.f64 0) { (LV.mk 0 [(0, 0)] 4 0 false) with nx := live (.loop (loopAt Tryd.f64 0)) (LV.mk 0 [(0, 0)] 4 0 false) }) (live (.loop (loopAt Tryd.f64 0)) (LV.mk 0 [(0, 0)] 4 0 false)) (LV.mk 0 [(0, 0)] 4 0 false) 0 19 R [EV.ptr 0 [], EV.int IntKind.i64 x0] [some (EV.arr IntKind.u64 6 x1)] K = wide_Len.l2.step (fun x0 x1 => R [EV.ptr 0 [], EV.int IntKind.i64 x0] [some (EV.arr IntKind.u64 6 x1)]) (fun y0 => K .ret [EV.int IntKind.i64 y0] []) (K (.exit 0) [] []) x0 x1 := (stepQ_eq _ _ _ _ _ _ _ _ _ _ _).symm.trans (by kernel_rfl)
theorem wide_Len.l2X.eq (K : Ex → List EV → Heap → Prop) : ∀ (n : Nat) (x0 : Int) (x1 : Nat → Int), loopE E_wide_Len (loopAt Tryd.f64 0) (LV.mk 0 [(0, 0)] 4 0 false) 0 19 K n [EV.ptr 0 [], EV.int IntKind.i64 x0] [some (EV.arr IntKind.u64 6 x1)] = wide_Len.l2 (fun y0 => K .ret [EV.int IntKind.i64 y0] []) (K (.exit 0) [] []) n x0 x1
  | 0, _, _ => rfl
  | n + 1, x0, x1 => by
    have ih : (fun (x0 : Int) (x1 : Nat → Int) => loopE E_wide_Len (loopAt Tryd.f64 0) (LV.mk 0 [(0, 0)] 4 0 false) 0 19 K n [EV.ptr 0 [], EV.int IntKind.i64 x0] [some (EV.arr IntKind.u64 6 x1)]) = wide_Len.l2 (fun y0 => K .ret [EV.int IntKind.i64 y0] []) (K (.exit 0) [] []) n := by funext x0 x1; exact wide_Len.l2X.eq K n x0 x1
    show loopStep _ _ _ _ _ (loopE E_wide_Len (loopAt Tryd.f64 0) (LV.mk 0 [(0, 0)] 4 0 false) 0 19 K n) [EV.ptr 0 [], EV.int IntKind.i64 x0] [some (EV.arr IntKind.u64 6 x1)] K = wide_Len.l2.step (wide_Len.l2 (fun y0 => K .ret [EV.int IntKind.i64 y0] []) (K (.exit 0) [] []) n) (fun y0 => K .ret [EV.int IntKind.i64 y0] []) (K (.exit 0) [] []) x0 x1
    rw [← ih]
    exact wide_Len.l2X.stepEq _ K x0 x1
theorem wide_Len.l2X.ok : LoopEq E_wide_Len (loopAt Tryd.f64 0) := by
  intro L hL vs H
  have h1 : E_wide_Len.lp (firstRegion (loopAt Tryd.f64 0)) = some wide_Len.l2.entry := by kernel_rfl
  have h2 : L = wide_Len.l2.entry := Option.some.inj (hL.symm.trans h1)
  subst h2
  by_cases hx : ∃ (x0 : Int) (x1 : Nat → Int), vs = [EV.ptr 0 [], EV.int IntKind.i64 x0] ∧ H = [some (EV.arr IntKind.u64 6 x1)]
  · obtain ⟨x0, x1, rfl, rfl⟩ := hx
    right; intro K
    exact exists_congr fun n => iff_of_eq (wide_Len.l2X.eq K n x0 x1).symm
  · left; intro K h
    simp only [wide_Len.l2.entry] at h
    split at h
    · exact hx ⟨_, _, rfl, rfl⟩
    · exact h
theorem X_wide_Len.eq (a0 : Nat → Int) (K : EV → Heap → Prop) : evFn E_wide_Len Tryd.f64 false [.arr .u64 6 a0] [] K = wide_Len a0 (fun y0 => K (EV.int IntKind.i64 y0) []) := by
  have h : evFnQ E_wide_Len Tryd.f64 false [.arr .u64 6 a0] [] K = wide_Len.d a0 (fun y0 => K (EV.int IntKind.i64 y0) []) := by kernel_rfl
  rw [wide_Len.is]; exact (evFnQ_eq _ _ _ _ _ _).symm.trans h
theorem X_wide_Len.ok : SoundE Tryd.prog gl 64 e_wide_Len := by
  refine fnOK (E := E_wide_Len) (fn := Tryd.f64) rfl tys_ok rfl (show AllL _ [(112, e_word_Len)] from ⟨X_word_Len.ok, trivial⟩) mixed (by kernel_rfl) (by kernel_rfl) (by kernel_rfl) 1 (by kernel_rfl) false ⟨wide_Len.l2X.ok, trivial⟩ ?_
  intro args H
  by_cases hx : ∃ (a0 : Nat → Int), args = [.arr .u64 6 a0] ∧ H = []
  · obtain ⟨a0, rfl, rfl⟩ := hx
    right; intro K
    exact iff_of_eq (X_wide_Len.eq a0 K).symm
  · left; intro K h
    simp only [e_wide_Len] at h
    split at h
    · exact hx ⟨_, rfl, rfl⟩
    · exact h
noncomputable def e_wide_Left : Entry := ⟨[none, none], false, fun args H K => match args, H with
  | [.arr .u64 6 a0, .int .i64 a1], [] => wide_Left a0 a1 (fun y0 y1 => K (EV.tuple [EV.arr IntKind.u64 6 y0, EV.bool y1]) [])
  | _, _ => False⟩
noncomputable def E_wide_Left : Env := ⟨look tys, look [(64, e_wide_Len), (114, e_wide_count)], look [(5, wide_Left.l5.entry)], gl, lookL [], false⟩
theorem wide_Left.l5X.stepEq (R : List EV → Heap → Prop) (K : Ex → List EV → Heap → Prop) (x0 : Bool) (x1 : Int) (x2 : Int) (x3 : Int) (x4 : Nat → Int) (x5 : Nat → Int) : loopStep (evCode E_wide_Left (loopAt Tryd.f81 0) { (LV.mk 48 [(0, 48)] 48 0 false) with nx := live (.loop (loopAt Tryd.f81 0)) (LV.mk 48 [(0, 48)] 48 0 false) }) (live (.loop (loopAt Tryd.f81 0)) (LV.mk 48 [(0, 48)] 48 0 false)) (LV.mk 48 [(0, 48)] 48 0 false) 0 59 R [EV.ptr 0 [], EV.ptr 1 [], EV.bool x0, EV.int IntKind.i64 x1, EV.int IntKind.u64 x2, EV.int IntKind.i64 x3] [some (EV.arr IntKind.u64 6 x4), some (EV.arr IntKind.u64 6 x5)] K = wide_Left.l5.step (fun x0 x1 x2 x3 x4 x5 => R [EV.ptr 0 [], EV.ptr 1 [], EV.bool x0, EV.int IntKind.i64 x1, EV.int IntKind.u64 x2, EV.int IntKind.i64 x3] [some (EV.arr IntKind.u64 6 x4), some (EV.arr IntKind.u64 6 x5)]) (fun y0 y1 => K (.exit 0) [EV.ptr 0 [], EV.bool y0] [some (EV.arr IntKind.u64 6 y1)]) x0 x1 x2 x3 x4 x5 := (stepQ_eq _ _ _ _ _ _ _ _ _ _ _).symm.trans (by kernel_rfl)
theorem wide_Left.l5X.eq (K : Ex → List EV → Heap → Prop) : ∀ (n : Nat) (x0 : Bool) (x1 : Int) (x2 : Int) (x3 : Int) (x4 : Nat → Int) (x5 : Nat → Int), loopE E_wide_Left (loopAt Tryd.f81 0) (LV.mk 48 [(0, 48)] 48 0 false) 0 59 K n [EV.ptr 0 [], EV.ptr 1 [], EV.bool x0, EV.int IntKind.i64 x1, EV.int IntKind.u64 x2, EV.int IntKind.i64 x3] [some (EV.arr IntKind.u64 6 x4), some (EV.arr IntKind.u64 6 x5)] = wide_Left.l5 (fun y0 y1 => K (.exit 0) [EV.ptr 0 [], EV.bool y0] [some (EV.arr IntKind.u64 6 y1)]) n x0 x1 x2 x3 x4 x5
  | 0, _, _, _, _, _, _ => rfl
  | n + 1, x0, x1, x2, x3, x4, x5 => by
    have ih : (fun (x0 : Bool) (x1 : Int) (x2 : Int) (x3 : Int) (x4 : Nat → Int) (x5 : Nat → Int) => loopE E_wide_Left (loopAt Tryd.f81 0) (LV.mk 48 [(0, 48)] 48 0 false) 0 59 K n [EV.ptr 0 [], EV.ptr 1 [], EV.bool x0, EV.int IntKind.i64 x1, EV.int IntKind.u64 x2, EV.int IntKind.i64 x3] [some (EV.arr IntKind.u64 6 x4), some (EV.arr IntKind.u64 6 x5)]) = wide_Left.l5 (fun y0 y1 => K (.exit 0) [EV.ptr 0 [], EV.bool y0] [some (EV.arr IntKind.u64 6 y1)]) n := by funext x0 x1 x2 x3 x4 x5; exact wide_Left.l5X.eq K n x0 x1 x2 x3 x4 x5
    show loopStep _ _ _ _ _ (loopE E_wide_Left (loopAt Tryd.f81 0) (LV.mk 48 [(0, 48)] 48 0 false) 0 59 K n) [EV.ptr 0 [], EV.ptr 1 [], EV.bool x0, EV.int IntKind.i64 x1, EV.int IntKind.u64 x2, EV.int IntKind.i64 x3] [some (EV.arr IntKind.u64 6 x4), some (EV.arr IntKind.u64 6 x5)] K = wide_Left.l5.step (wide_Left.l5 (fun y0 y1 => K (.exit 0) [EV.ptr 0 [], EV.bool y0] [some (EV.arr IntKind.u64 6 y1)]) n) (fun y0 y1 => K (.exit 0) [EV.ptr 0 [], EV.bool y0] [some (EV.arr IntKind.u64 6 y1)]) x0 x1 x2 x3 x4 x5
    rw [← ih]
    exact wide_Left.l5X.stepEq _ K x0 x1 x2 x3 x4 x5
theorem wide_Left.l5X.ok : LoopEq E_wide_Left (loopAt Tryd.f81 0) := by
  intro L hL vs H
  have h1 : E_wide_Left.lp (firstRegion (loopAt Tryd.f81 0)) = some wide_Left.l5.entry := by kernel_rfl
  have h2 : L = wide_Left.l5.entry := Option.some.inj (hL.symm.trans h1)
  subst h2
  by_cases hx : ∃ (x0 : Bool) (x1 : Int) (x2 : Int) (x3 : Int) (x4 : Nat → Int) (x5 : Nat → Int), vs = [EV.ptr 0 [], EV.ptr 1 [], EV.bool x0, EV.int IntKind.i64 x1, EV.int IntKind.u64 x2, EV.int IntKind.i64 x3] ∧ H = [some (EV.arr IntKind.u64 6 x4), some (EV.arr IntKind.u64 6 x5)]
  · obtain ⟨x0, x1, x2, x3, x4, x5, rfl, rfl⟩ := hx
    right; intro K
    exact exists_congr fun n => iff_of_eq (wide_Left.l5X.eq K n x0 x1 x2 x3 x4 x5).symm
  · left; intro K h
    simp only [wide_Left.l5.entry] at h
    split at h
    · exact hx ⟨_, _, _, _, _, _, rfl, rfl⟩
    · exact h
theorem X_wide_Left.eq (a0 : Nat → Int) (a1 : Int) (K : EV → Heap → Prop) : evFn E_wide_Left Tryd.f81 false [.arr .u64 6 a0, .int .i64 a1] [] K = wide_Left a0 a1 (fun y0 y1 => K (EV.tuple [EV.arr IntKind.u64 6 y0, EV.bool y1]) []) := by
  have h : evFnQ E_wide_Left Tryd.f81 false [.arr .u64 6 a0, .int .i64 a1] [] K = wide_Left.d a0 a1 (fun y0 y1 => K (EV.tuple [EV.arr IntKind.u64 6 y0, EV.bool y1]) []) := by kernel_rfl
  rw [wide_Left.is]; exact (evFnQ_eq _ _ _ _ _ _).symm.trans h
theorem X_wide_Left.ok : SoundE Tryd.prog gl 81 e_wide_Left := by
  refine fnOK (E := E_wide_Left) (fn := Tryd.f81) rfl tys_ok rfl (show AllL _ [(64, e_wide_Len), (114, e_wide_count)] from ⟨X_wide_Len.ok, X_wide_count.ok, trivial⟩) mixed (by kernel_rfl) (by kernel_rfl) (by kernel_rfl) 1 (by kernel_rfl) false ⟨wide_Left.l5X.ok, trivial⟩ ?_
  intro args H
  by_cases hx : ∃ (a0 : Nat → Int) (a1 : Int), args = [.arr .u64 6 a0, .int .i64 a1] ∧ H = []
  · obtain ⟨a0, a1, rfl, rfl⟩ := hx
    right; intro K
    exact iff_of_eq (X_wide_Left.eq a0 a1 K).symm
  · left; intro K h
    simp only [e_wide_Left] at h
    split at h
    · exact hx ⟨_, _, rfl, rfl⟩
    · exact h
noncomputable def e_wide_Of : Entry := ⟨[none], false, fun args H K => match args, H with
  | [.int .u64 a0], [] => wide_Of a0 (fun y0 => K (EV.arr IntKind.u64 6 y0) [])
  | _, _ => False⟩
noncomputable def E_wide_Of : Env := ⟨look tys, look [], look [], gl, lookL [], false⟩
theorem X_wide_Of.eq (a0 : Int) (K : EV → Heap → Prop) : evFn E_wide_Of Tryd.f82 false [.int .u64 a0] [] K = wide_Of a0 (fun y0 => K (EV.arr IntKind.u64 6 y0) []) := by
  have h : evFnQ E_wide_Of Tryd.f82 false [.int .u64 a0] [] K = wide_Of.d a0 (fun y0 => K (EV.arr IntKind.u64 6 y0) []) := by kernel_rfl
  rw [wide_Of.is]; exact (evFnQ_eq _ _ _ _ _ _).symm.trans h
theorem X_wide_Of.ok : SoundE Tryd.prog gl 82 e_wide_Of := by
  refine fnOK (E := E_wide_Of) (fn := Tryd.f82) rfl tys_ok rfl (show AllL _ [] from trivial) mixed (by kernel_rfl) (by kernel_rfl) (by kernel_rfl) 0 (by kernel_rfl) false trivial ?_
  intro args H
  by_cases hx : ∃ (a0 : Int), args = [.int .u64 a0] ∧ H = []
  · obtain ⟨a0, rfl, rfl⟩ := hx
    right; intro K
    exact iff_of_eq (X_wide_Of.eq a0 K).symm
  · left; intro K h
    simp only [e_wide_Of] at h
    split at h
    · exact hx ⟨_, rfl, rfl⟩
    · exact h
noncomputable def e_wide_ToBits : Entry := ⟨[none], false, fun args H K => match args, H with
  | [.arr .u64 6 a0], [] => wide_ToBits a0 (fun y0 y1 y2 => K (EV.tuple [EV.agg [EV.int IntKind.u64 y0, EV.int IntKind.u64 y1], EV.bool y2]) [])
  | _, _ => False⟩
noncomputable def E_wide_ToBits : Env := ⟨look tys, look [], look [], gl, lookL [], false⟩
theorem X_wide_ToBits.eq (a0 : Nat → Int) (K : EV → Heap → Prop) : evFn E_wide_ToBits Tryd.f84 false [.arr .u64 6 a0] [] K = wide_ToBits a0 (fun y0 y1 y2 => K (EV.tuple [EV.agg [EV.int IntKind.u64 y0, EV.int IntKind.u64 y1], EV.bool y2]) []) := by
  have h : evFnQ E_wide_ToBits Tryd.f84 false [.arr .u64 6 a0] [] K = wide_ToBits.d a0 (fun y0 y1 y2 => K (EV.tuple [EV.agg [EV.int IntKind.u64 y0, EV.int IntKind.u64 y1], EV.bool y2]) []) := by kernel_rfl
  rw [wide_ToBits.is]; exact (evFnQ_eq _ _ _ _ _ _).symm.trans h
theorem X_wide_ToBits.ok : SoundE Tryd.prog gl 84 e_wide_ToBits := by
  refine fnOK (E := E_wide_ToBits) (fn := Tryd.f84) rfl tys_ok rfl (show AllL _ [] from trivial) mixed (by kernel_rfl) (by kernel_rfl) (by kernel_rfl) 0 (by kernel_rfl) false trivial ?_
  intro args H
  by_cases hx : ∃ (a0 : Nat → Int), args = [.arr .u64 6 a0] ∧ H = []
  · obtain ⟨a0, rfl, rfl⟩ := hx
    right; intro K
    exact iff_of_eq (X_wide_ToBits.eq a0 K).symm
  · left; intro K h
    simp only [e_wide_ToBits] at h
    split at h
    · exact hx ⟨_, rfl, rfl⟩
    · exact h
noncomputable def e_wide_Or : Entry := ⟨[none, none], false, fun args H K => match args, H with
  | [.arr .u64 6 a0, .arr .u64 6 a1], [] => wide_Or a0 a1 (fun y0 => K (EV.arr IntKind.u64 6 y0) [])
  | _, _ => False⟩
noncomputable def E_wide_Or : Env := ⟨look tys, look [], look [(2, wide_Or.l2.entry)], gl, lookL [], false⟩
theorem wide_Or.l2X.stepEq (R : List EV → Heap → Prop) (K : Ex → List EV → Heap → Prop) (x0 : Int) (x1 : Nat → Int) (x2 : Nat → Int) (x3 : Nat → Int) : loopStep (evCode E_wide_Or (loopAt Tryd.f113 0) { (LV.mk 20 [(0, 20)] 16 0 false) with nx := live (.loop (loopAt Tryd.f113 0)) (LV.mk 20 [(0, 20)] 16 0 false) }) (live (.loop (loopAt Tryd.f113 0)) (LV.mk 20 [(0, 20)] 16 0 false)) (LV.mk 20 [(0, 20)] 16 0 false) 0 19 R [EV.ptr 0 [], EV.ptr 1 [], EV.ptr 2 [], EV.int IntKind.i64 x0] [some (EV.arr IntKind.u64 6 x1), some (EV.arr IntKind.u64 6 x2), some (EV.arr IntKind.u64 6 x3)] K = wide_Or.l2.step (fun x0 x1 x2 x3 => R [EV.ptr 0 [], EV.ptr 1 [], EV.ptr 2 [], EV.int IntKind.i64 x0] [some (EV.arr IntKind.u64 6 x1), some (EV.arr IntKind.u64 6 x2), some (EV.arr IntKind.u64 6 x3)]) (fun y0 y1 => K (.exit 0) [EV.ptr 0 [], EV.ptr 1 []] [some (EV.arr IntKind.u64 6 y0), some (EV.arr IntKind.u64 6 y1)]) x0 x1 x2 x3 := (stepQ_eq _ _ _ _ _ _ _ _ _ _ _).symm.trans (by kernel_rfl)
theorem wide_Or.l2X.eq (K : Ex → List EV → Heap → Prop) : ∀ (n : Nat) (x0 : Int) (x1 : Nat → Int) (x2 : Nat → Int) (x3 : Nat → Int), loopE E_wide_Or (loopAt Tryd.f113 0) (LV.mk 20 [(0, 20)] 16 0 false) 0 19 K n [EV.ptr 0 [], EV.ptr 1 [], EV.ptr 2 [], EV.int IntKind.i64 x0] [some (EV.arr IntKind.u64 6 x1), some (EV.arr IntKind.u64 6 x2), some (EV.arr IntKind.u64 6 x3)] = wide_Or.l2 (fun y0 y1 => K (.exit 0) [EV.ptr 0 [], EV.ptr 1 []] [some (EV.arr IntKind.u64 6 y0), some (EV.arr IntKind.u64 6 y1)]) n x0 x1 x2 x3
  | 0, _, _, _, _ => rfl
  | n + 1, x0, x1, x2, x3 => by
    have ih : (fun (x0 : Int) (x1 : Nat → Int) (x2 : Nat → Int) (x3 : Nat → Int) => loopE E_wide_Or (loopAt Tryd.f113 0) (LV.mk 20 [(0, 20)] 16 0 false) 0 19 K n [EV.ptr 0 [], EV.ptr 1 [], EV.ptr 2 [], EV.int IntKind.i64 x0] [some (EV.arr IntKind.u64 6 x1), some (EV.arr IntKind.u64 6 x2), some (EV.arr IntKind.u64 6 x3)]) = wide_Or.l2 (fun y0 y1 => K (.exit 0) [EV.ptr 0 [], EV.ptr 1 []] [some (EV.arr IntKind.u64 6 y0), some (EV.arr IntKind.u64 6 y1)]) n := by funext x0 x1 x2 x3; exact wide_Or.l2X.eq K n x0 x1 x2 x3
    show loopStep _ _ _ _ _ (loopE E_wide_Or (loopAt Tryd.f113 0) (LV.mk 20 [(0, 20)] 16 0 false) 0 19 K n) [EV.ptr 0 [], EV.ptr 1 [], EV.ptr 2 [], EV.int IntKind.i64 x0] [some (EV.arr IntKind.u64 6 x1), some (EV.arr IntKind.u64 6 x2), some (EV.arr IntKind.u64 6 x3)] K = wide_Or.l2.step (wide_Or.l2 (fun y0 y1 => K (.exit 0) [EV.ptr 0 [], EV.ptr 1 []] [some (EV.arr IntKind.u64 6 y0), some (EV.arr IntKind.u64 6 y1)]) n) (fun y0 y1 => K (.exit 0) [EV.ptr 0 [], EV.ptr 1 []] [some (EV.arr IntKind.u64 6 y0), some (EV.arr IntKind.u64 6 y1)]) x0 x1 x2 x3
    rw [← ih]
    exact wide_Or.l2X.stepEq _ K x0 x1 x2 x3
theorem wide_Or.l2X.ok : LoopEq E_wide_Or (loopAt Tryd.f113 0) := by
  intro L hL vs H
  have h1 : E_wide_Or.lp (firstRegion (loopAt Tryd.f113 0)) = some wide_Or.l2.entry := by kernel_rfl
  have h2 : L = wide_Or.l2.entry := Option.some.inj (hL.symm.trans h1)
  subst h2
  by_cases hx : ∃ (x0 : Int) (x1 : Nat → Int) (x2 : Nat → Int) (x3 : Nat → Int), vs = [EV.ptr 0 [], EV.ptr 1 [], EV.ptr 2 [], EV.int IntKind.i64 x0] ∧ H = [some (EV.arr IntKind.u64 6 x1), some (EV.arr IntKind.u64 6 x2), some (EV.arr IntKind.u64 6 x3)]
  · obtain ⟨x0, x1, x2, x3, rfl, rfl⟩ := hx
    right; intro K
    exact exists_congr fun n => iff_of_eq (wide_Or.l2X.eq K n x0 x1 x2 x3).symm
  · left; intro K h
    simp only [wide_Or.l2.entry] at h
    split at h
    · exact hx ⟨_, _, _, _, rfl, rfl⟩
    · exact h
theorem X_wide_Or.eq (a0 : Nat → Int) (a1 : Nat → Int) (K : EV → Heap → Prop) : evFn E_wide_Or Tryd.f113 false [.arr .u64 6 a0, .arr .u64 6 a1] [] K = wide_Or a0 a1 (fun y0 => K (EV.arr IntKind.u64 6 y0) []) := by
  have h : evFnQ E_wide_Or Tryd.f113 false [.arr .u64 6 a0, .arr .u64 6 a1] [] K = wide_Or.d a0 a1 (fun y0 => K (EV.arr IntKind.u64 6 y0) []) := by kernel_rfl
  rw [wide_Or.is]; exact (evFnQ_eq _ _ _ _ _ _).symm.trans h
theorem X_wide_Or.ok : SoundE Tryd.prog gl 113 e_wide_Or := by
  refine fnOK (E := E_wide_Or) (fn := Tryd.f113) rfl tys_ok rfl (show AllL _ [] from trivial) mixed (by kernel_rfl) (by kernel_rfl) (by kernel_rfl) 1 (by kernel_rfl) false ⟨wide_Or.l2X.ok, trivial⟩ ?_
  intro args H
  by_cases hx : ∃ (a0 : Nat → Int) (a1 : Nat → Int), args = [.arr .u64 6 a0, .arr .u64 6 a1] ∧ H = []
  · obtain ⟨a0, a1, rfl, rfl⟩ := hx
    right; intro K
    exact iff_of_eq (X_wide_Or.eq a0 a1 K).symm
  · left; intro K h
    simp only [e_wide_Or] at h
    split at h
    · exact hx ⟨_, _, rfl, rfl⟩
    · exact h
noncomputable def e_kind_build : Entry := ⟨[none, none, none, none], false, fun args H K => match args, H with
  | [.int .u8 a0, .bool a1, .int .i64 a2, .arr .u64 6 a3], [] => kind_build a0 a1 a2 a3 (fun y0 y1 => K (EV.agg [EV.int IntKind.u64 y0, EV.int IntKind.u64 y1]) [])
  | _, _ => False⟩
noncomputable def E_kind_build : Env := ⟨look tys, look [(43, e_shape_Width), (55, e_shape_Precision), (81, e_wide_Left), (82, e_wide_Of), (84, e_wide_ToBits), (113, e_wide_Or)], look [], gl, lookL [], false⟩
theorem X_kind_build.eq (a0 : Int) (a1 : Bool) (a2 : Int) (a3 : Nat → Int) (K : EV → Heap → Prop) : evFn E_kind_build Tryd.f65 false [.int .u8 a0, .bool a1, .int .i64 a2, .arr .u64 6 a3] [] K = kind_build a0 a1 a2 a3 (fun y0 y1 => K (EV.agg [EV.int IntKind.u64 y0, EV.int IntKind.u64 y1]) []) := by
  have h : evFnQ E_kind_build Tryd.f65 false [.int .u8 a0, .bool a1, .int .i64 a2, .arr .u64 6 a3] [] K = kind_build.d a0 a1 a2 a3 (fun y0 y1 => K (EV.agg [EV.int IntKind.u64 y0, EV.int IntKind.u64 y1]) []) := by kernel_rfl
  rw [kind_build.is]; exact (evFnQ_eq _ _ _ _ _ _).symm.trans h
theorem X_kind_build.ok : SoundE Tryd.prog gl 65 e_kind_build := by
  refine fnOK (E := E_kind_build) (fn := Tryd.f65) rfl tys_ok rfl (show AllL _ [(43, e_shape_Width), (55, e_shape_Precision), (81, e_wide_Left), (82, e_wide_Of), (84, e_wide_ToBits), (113, e_wide_Or)] from ⟨X_shape_Width.ok, X_shape_Precision.ok, X_wide_Left.ok, X_wide_Of.ok, X_wide_ToBits.ok, X_wide_Or.ok, trivial⟩) mixed (by kernel_rfl) (by kernel_rfl) (by kernel_rfl) 0 (by kernel_rfl) false trivial ?_
  intro args H
  by_cases hx : ∃ (a0 : Int) (a1 : Bool) (a2 : Int) (a3 : Nat → Int), args = [.int .u8 a0, .bool a1, .int .i64 a2, .arr .u64 6 a3] ∧ H = []
  · obtain ⟨a0, a1, a2, a3, rfl, rfl⟩ := hx
    right; intro K
    exact iff_of_eq (X_kind_build.eq a0 a1 a2 a3 K).symm
  · left; intro K h
    simp only [e_kind_build] at h
    split at h
    · exact hx ⟨_, _, _, _, rfl, rfl⟩
    · exact h
noncomputable def e_exact_top : Entry := ⟨[none], false, fun args H K => match args, H with
  | [.agg [.bool a0_0, .str a0_1, .str a0_2, .int .i64 a0_3]], [] => exact_top a0_0 a0_1 a0_2 a0_3 (fun y0 => K (EV.int IntKind.i64 y0) [])
  | _, _ => False⟩
noncomputable def E_exact_top : Env := ⟨look tys, look [(92, e_nat_Cmp), (128, e_nat_Left), (138, e_nat_Len)], look [], gl, lookL [], false⟩
theorem X_exact_top.eq (a0_0 : Bool) (a0_1 : List UInt8) (a0_2 : List UInt8) (a0_3 : Int) (K : EV → Heap → Prop) : evFn E_exact_top Tryd.f137 false [.agg [.bool a0_0, .str a0_1, .str a0_2, .int .i64 a0_3]] [] K = exact_top a0_0 a0_1 a0_2 a0_3 (fun y0 => K (EV.int IntKind.i64 y0) []) := by
  have h : evFnQ E_exact_top Tryd.f137 false [.agg [.bool a0_0, .str a0_1, .str a0_2, .int .i64 a0_3]] [] K = exact_top.d a0_0 a0_1 a0_2 a0_3 (fun y0 => K (EV.int IntKind.i64 y0) []) := by kernel_rfl
  rw [exact_top.is]; exact (evFnQ_eq _ _ _ _ _ _).symm.trans h
theorem X_exact_top.ok : SoundE Tryd.prog gl 137 e_exact_top := by
  refine fnOK (E := E_exact_top) (fn := Tryd.f137) rfl tys_ok rfl (show AllL _ [(92, e_nat_Cmp), (128, e_nat_Left), (138, e_nat_Len)] from ⟨X_nat_Cmp.ok, X_nat_Left.ok, X_nat_Len.ok, trivial⟩) mixed (by kernel_rfl) (by kernel_rfl) (by kernel_rfl) 0 (by kernel_rfl) false trivial ?_
  intro args H
  by_cases hx : ∃ (a0_0 : Bool) (a0_1 : List UInt8) (a0_2 : List UInt8) (a0_3 : Int), args = [.agg [.bool a0_0, .str a0_1, .str a0_2, .int .i64 a0_3]] ∧ H = []
  · obtain ⟨a0_0, a0_1, a0_2, a0_3, rfl, rfl⟩ := hx
    right; intro K
    exact iff_of_eq (X_exact_top.eq a0_0 a0_1 a0_2 a0_3 K).symm
  · left; intro K h
    simp only [e_exact_top] at h
    split at h
    · exact hx ⟨_, _, _, _, rfl, rfl⟩
    · exact h
noncomputable def e_exact_Top : Entry := ⟨[none], false, fun args H K => match args, H with
  | [.agg [.bool a0_0, .str a0_1, .str a0_2, .int .i64 a0_3]], [] => exact_Top a0_0 a0_1 a0_2 a0_3 (fun y0 y1 => K (EV.tuple [EV.int IntKind.i64 y0, EV.int IntKind.i64 y1]) [])
  | _, _ => False⟩
noncomputable def E_exact_Top : Env := ⟨look tys, look [(97, e_exact_Check), (137, e_exact_top)], look [], gl, lookL [], false⟩
theorem X_exact_Top.eq (a0_0 : Bool) (a0_1 : List UInt8) (a0_2 : List UInt8) (a0_3 : Int) (K : EV → Heap → Prop) : evFn E_exact_Top Tryd.f99 false [.agg [.bool a0_0, .str a0_1, .str a0_2, .int .i64 a0_3]] [] K = exact_Top a0_0 a0_1 a0_2 a0_3 (fun y0 y1 => K (EV.tuple [EV.int IntKind.i64 y0, EV.int IntKind.i64 y1]) []) := by
  have h : evFnQ E_exact_Top Tryd.f99 false [.agg [.bool a0_0, .str a0_1, .str a0_2, .int .i64 a0_3]] [] K = exact_Top.d a0_0 a0_1 a0_2 a0_3 (fun y0 y1 => K (EV.tuple [EV.int IntKind.i64 y0, EV.int IntKind.i64 y1]) []) := by kernel_rfl
  rw [exact_Top.is]; exact (evFnQ_eq _ _ _ _ _ _).symm.trans h
theorem X_exact_Top.ok : SoundE Tryd.prog gl 99 e_exact_Top := by
  refine fnOK (E := E_exact_Top) (fn := Tryd.f99) rfl tys_ok rfl (show AllL _ [(97, e_exact_Check), (137, e_exact_top)] from ⟨X_exact_Check.ok, X_exact_top.ok, trivial⟩) mixed (by kernel_rfl) (by kernel_rfl) (by kernel_rfl) 0 (by kernel_rfl) false trivial ?_
  intro args H
  by_cases hx : ∃ (a0_0 : Bool) (a0_1 : List UInt8) (a0_2 : List UInt8) (a0_3 : Int), args = [.agg [.bool a0_0, .str a0_1, .str a0_2, .int .i64 a0_3]] ∧ H = []
  · obtain ⟨a0_0, a0_1, a0_2, a0_3, rfl, rfl⟩ := hx
    right; intro K
    exact iff_of_eq (X_exact_Top.eq a0_0 a0_1 a0_2 a0_3 K).symm
  · left; intro K h
    simp only [e_exact_Top] at h
    split at h
    · exact hx ⟨_, _, _, _, rfl, rfl⟩
    · exact h
noncomputable def e_exact_Floor : Entry := ⟨[none, none], false, fun args H K => match args, H with
  | [.agg [.bool a0_0, .str a0_1, .str a0_2, .int .i64 a0_3], .int .i64 a1], [] => exact_Floor a0_0 a0_1 a0_2 a0_3 a1 (fun y0 y1 y2 => K (EV.tuple [EV.str y0, EV.bool y1, EV.int IntKind.i64 y2]) [])
  | _, _ => False⟩
noncomputable def E_exact_Floor : Env := ⟨look tys, look [(97, e_exact_Check), (126, e_nat_Div), (128, e_nat_Left), (137, e_exact_top)], look [], gl, lookL [], false⟩
theorem X_exact_Floor.eq (a0_0 : Bool) (a0_1 : List UInt8) (a0_2 : List UInt8) (a0_3 : Int) (a1 : Int) (K : EV → Heap → Prop) : evFn E_exact_Floor Tryd.f100 false [.agg [.bool a0_0, .str a0_1, .str a0_2, .int .i64 a0_3], .int .i64 a1] [] K = exact_Floor a0_0 a0_1 a0_2 a0_3 a1 (fun y0 y1 y2 => K (EV.tuple [EV.str y0, EV.bool y1, EV.int IntKind.i64 y2]) []) := by
  have h : evFnQ E_exact_Floor Tryd.f100 false [.agg [.bool a0_0, .str a0_1, .str a0_2, .int .i64 a0_3], .int .i64 a1] [] K = exact_Floor.d a0_0 a0_1 a0_2 a0_3 a1 (fun y0 y1 y2 => K (EV.tuple [EV.str y0, EV.bool y1, EV.int IntKind.i64 y2]) []) := by kernel_rfl
  rw [exact_Floor.is]; exact (evFnQ_eq _ _ _ _ _ _).symm.trans h
theorem X_exact_Floor.ok : SoundE Tryd.prog gl 100 e_exact_Floor := by
  refine fnOK (E := E_exact_Floor) (fn := Tryd.f100) rfl tys_ok rfl (show AllL _ [(97, e_exact_Check), (126, e_nat_Div), (128, e_nat_Left), (137, e_exact_top)] from ⟨X_exact_Check.ok, X_nat_Div.ok, X_nat_Left.ok, X_exact_top.ok, trivial⟩) mixed (by kernel_rfl) (by kernel_rfl) (by kernel_rfl) 0 (by kernel_rfl) false trivial ?_
  intro args H
  by_cases hx : ∃ (a0_0 : Bool) (a0_1 : List UInt8) (a0_2 : List UInt8) (a0_3 : Int) (a1 : Int), args = [.agg [.bool a0_0, .str a0_1, .str a0_2, .int .i64 a0_3], .int .i64 a1] ∧ H = []
  · obtain ⟨a0_0, a0_1, a0_2, a0_3, a1, rfl, rfl⟩ := hx
    right; intro K
    exact iff_of_eq (X_exact_Floor.eq a0_0 a0_1 a0_2 a0_3 a1 K).symm
  · left; intro K h
    simp only [e_exact_Floor] at h
    split at h
    · exact hx ⟨_, _, _, _, _, rfl, rfl⟩
    · exact h
noncomputable def e_nat_ToWide : Entry := ⟨[none], false, fun args H K => match args, H with
  | [.str a0], [] => nat_ToWide a0 (fun y0 y1 => K (EV.tuple [EV.arr IntKind.u64 6 y0, EV.bool y1]) [])
  | _, _ => False⟩
noncomputable def E_nat_ToWide : Env := ⟨look tys, look [(64, e_wide_Len), (121, e_nat_Check), (131, e_nat_words), (138, e_nat_Len)], look [(4, nat_ToWide.l4.entry)], gl, lookL [], false⟩
theorem nat_ToWide.l4X.stepEq (R : List EV → Heap → Prop) (K : Ex → List EV → Heap → Prop) (x0 : List UInt8) (x1 : Nat) (x2 : Nat → Int) (x3 : Int) (x4 : Int) (x5 : Nat → Int) : loopStep (evCode E_nat_ToWide (loopAt Tryd.f101 0) { (LV.mk 5 [(0, 5)] 12 0 false) with nx := live (.loop (loopAt Tryd.f101 0)) (LV.mk 5 [(0, 5)] 12 0 false) }) (live (.loop (loopAt Tryd.f101 0)) (LV.mk 5 [(0, 5)] 12 0 false)) (LV.mk 5 [(0, 5)] 12 0 false) 0 43 R [EV.str x0, EV.ptr 0 [], EV.rsI IntKind.u32 x1 x2, EV.int IntKind.i64 x3, EV.int IntKind.i64 x4] [some (EV.arr IntKind.u64 6 x5)] K = nat_ToWide.l4.step (fun x0 x1 x2 x3 x4 x5 => R [EV.str x0, EV.ptr 0 [], EV.rsI IntKind.u32 x1 x2, EV.int IntKind.i64 x3, EV.int IntKind.i64 x4] [some (EV.arr IntKind.u64 6 x5)]) (fun y0 y1 => K (.exit 0) [EV.str y0, EV.ptr 0 []] [some (EV.arr IntKind.u64 6 y1)]) x0 x1 x2 x3 x4 x5 := (stepQ_eq _ _ _ _ _ _ _ _ _ _ _).symm.trans (by kernel_rfl)
theorem nat_ToWide.l4X.eq (K : Ex → List EV → Heap → Prop) : ∀ (n : Nat) (x0 : List UInt8) (x1 : Nat) (x2 : Nat → Int) (x3 : Int) (x4 : Int) (x5 : Nat → Int), loopE E_nat_ToWide (loopAt Tryd.f101 0) (LV.mk 5 [(0, 5)] 12 0 false) 0 43 K n [EV.str x0, EV.ptr 0 [], EV.rsI IntKind.u32 x1 x2, EV.int IntKind.i64 x3, EV.int IntKind.i64 x4] [some (EV.arr IntKind.u64 6 x5)] = nat_ToWide.l4 (fun y0 y1 => K (.exit 0) [EV.str y0, EV.ptr 0 []] [some (EV.arr IntKind.u64 6 y1)]) n x0 x1 x2 x3 x4 x5
  | 0, _, _, _, _, _, _ => rfl
  | n + 1, x0, x1, x2, x3, x4, x5 => by
    have ih : (fun (x0 : List UInt8) (x1 : Nat) (x2 : Nat → Int) (x3 : Int) (x4 : Int) (x5 : Nat → Int) => loopE E_nat_ToWide (loopAt Tryd.f101 0) (LV.mk 5 [(0, 5)] 12 0 false) 0 43 K n [EV.str x0, EV.ptr 0 [], EV.rsI IntKind.u32 x1 x2, EV.int IntKind.i64 x3, EV.int IntKind.i64 x4] [some (EV.arr IntKind.u64 6 x5)]) = nat_ToWide.l4 (fun y0 y1 => K (.exit 0) [EV.str y0, EV.ptr 0 []] [some (EV.arr IntKind.u64 6 y1)]) n := by funext x0 x1 x2 x3 x4 x5; exact nat_ToWide.l4X.eq K n x0 x1 x2 x3 x4 x5
    show loopStep _ _ _ _ _ (loopE E_nat_ToWide (loopAt Tryd.f101 0) (LV.mk 5 [(0, 5)] 12 0 false) 0 43 K n) [EV.str x0, EV.ptr 0 [], EV.rsI IntKind.u32 x1 x2, EV.int IntKind.i64 x3, EV.int IntKind.i64 x4] [some (EV.arr IntKind.u64 6 x5)] K = nat_ToWide.l4.step (nat_ToWide.l4 (fun y0 y1 => K (.exit 0) [EV.str y0, EV.ptr 0 []] [some (EV.arr IntKind.u64 6 y1)]) n) (fun y0 y1 => K (.exit 0) [EV.str y0, EV.ptr 0 []] [some (EV.arr IntKind.u64 6 y1)]) x0 x1 x2 x3 x4 x5
    rw [← ih]
    exact nat_ToWide.l4X.stepEq _ K x0 x1 x2 x3 x4 x5
theorem nat_ToWide.l4X.ok : LoopEq E_nat_ToWide (loopAt Tryd.f101 0) := by
  intro L hL vs H
  have h1 : E_nat_ToWide.lp (firstRegion (loopAt Tryd.f101 0)) = some nat_ToWide.l4.entry := by kernel_rfl
  have h2 : L = nat_ToWide.l4.entry := Option.some.inj (hL.symm.trans h1)
  subst h2
  by_cases hx : ∃ (x0 : List UInt8) (x1 : Nat) (x2 : Nat → Int) (x3 : Int) (x4 : Int) (x5 : Nat → Int), vs = [EV.str x0, EV.ptr 0 [], EV.rsI IntKind.u32 x1 x2, EV.int IntKind.i64 x3, EV.int IntKind.i64 x4] ∧ H = [some (EV.arr IntKind.u64 6 x5)]
  · obtain ⟨x0, x1, x2, x3, x4, x5, rfl, rfl⟩ := hx
    right; intro K
    exact exists_congr fun n => iff_of_eq (nat_ToWide.l4X.eq K n x0 x1 x2 x3 x4 x5).symm
  · left; intro K h
    simp only [nat_ToWide.l4.entry] at h
    split at h
    · exact hx ⟨_, _, _, _, _, _, rfl, rfl⟩
    · exact h
theorem X_nat_ToWide.eq (a0 : List UInt8) (K : EV → Heap → Prop) : evFn E_nat_ToWide Tryd.f101 false [.str a0] [] K = nat_ToWide a0 (fun y0 y1 => K (EV.tuple [EV.arr IntKind.u64 6 y0, EV.bool y1]) []) := by
  have h : evFnQ E_nat_ToWide Tryd.f101 false [.str a0] [] K = nat_ToWide.d a0 (fun y0 y1 => K (EV.tuple [EV.arr IntKind.u64 6 y0, EV.bool y1]) []) := by kernel_rfl
  rw [nat_ToWide.is]; exact (evFnQ_eq _ _ _ _ _ _).symm.trans h
theorem X_nat_ToWide.ok : SoundE Tryd.prog gl 101 e_nat_ToWide := by
  refine fnOK (E := E_nat_ToWide) (fn := Tryd.f101) rfl tys_ok rfl (show AllL _ [(64, e_wide_Len), (121, e_nat_Check), (131, e_nat_words), (138, e_nat_Len)] from ⟨X_wide_Len.ok, X_nat_Check.ok, X_nat_words.ok, X_nat_Len.ok, trivial⟩) mixed (by kernel_rfl) (by kernel_rfl) (by kernel_rfl) 1 (by kernel_rfl) false ⟨nat_ToWide.l4X.ok, trivial⟩ ?_
  intro args H
  by_cases hx : ∃ (a0 : List UInt8), args = [.str a0] ∧ H = []
  · obtain ⟨a0, rfl, rfl⟩ := hx
    right; intro K
    exact iff_of_eq (X_nat_ToWide.eq a0 K).symm
  · left; intro K h
    simp only [e_nat_ToWide] at h
    split at h
    · exact hx ⟨_, rfl, rfl⟩
    · exact h
noncomputable def e_kind_Of : Entry := ⟨[none, none], false, fun args H K => match args, H with
  | [.int .u8 a0, .agg [.bool a1_0, .str a1_1, .str a1_2, .int .i64 a1_3]], [] => kind_Of a0 a1_0 a1_1 a1_2 a1_3 (fun y0 y1 y2 y3 => K (EV.tuple [EV.agg [EV.int IntKind.u64 y0, EV.int IntKind.u64 y1], EV.bool y2, EV.int IntKind.i64 y3]) [])
  | _, _ => False⟩
noncomputable def E_kind_Of : Env := ⟨look tys, look [(41, e_wide_Bit), (55, e_shape_Precision), (57, e_shape_Emin), (63, e_shape_Check), (65, e_kind_build), (66, e_shape_Emax), (67, e_wide_And), (68, e_wide_Mask), (97, e_exact_Check), (99, e_exact_Top), (100, e_exact_Floor), (101, e_nat_ToWide)], look [], gl, lookL [], false⟩
theorem X_kind_Of.eq (a0 : Int) (a1_0 : Bool) (a1_1 : List UInt8) (a1_2 : List UInt8) (a1_3 : Int) (K : EV → Heap → Prop) : evFn E_kind_Of Tryd.f39 false [.int .u8 a0, .agg [.bool a1_0, .str a1_1, .str a1_2, .int .i64 a1_3]] [] K = kind_Of a0 a1_0 a1_1 a1_2 a1_3 (fun y0 y1 y2 y3 => K (EV.tuple [EV.agg [EV.int IntKind.u64 y0, EV.int IntKind.u64 y1], EV.bool y2, EV.int IntKind.i64 y3]) []) := by
  have h : evFnQ E_kind_Of Tryd.f39 false [.int .u8 a0, .agg [.bool a1_0, .str a1_1, .str a1_2, .int .i64 a1_3]] [] K = kind_Of.d a0 a1_0 a1_1 a1_2 a1_3 (fun y0 y1 y2 y3 => K (EV.tuple [EV.agg [EV.int IntKind.u64 y0, EV.int IntKind.u64 y1], EV.bool y2, EV.int IntKind.i64 y3]) []) := by kernel_rfl
  rw [kind_Of.is]; exact (evFnQ_eq _ _ _ _ _ _).symm.trans h
theorem X_kind_Of.ok : SoundE Tryd.prog gl 39 e_kind_Of := by
  refine fnOK (E := E_kind_Of) (fn := Tryd.f39) rfl tys_ok rfl (show AllL _ [(41, e_wide_Bit), (55, e_shape_Precision), (57, e_shape_Emin), (63, e_shape_Check), (65, e_kind_build), (66, e_shape_Emax), (67, e_wide_And), (68, e_wide_Mask), (97, e_exact_Check), (99, e_exact_Top), (100, e_exact_Floor), (101, e_nat_ToWide)] from ⟨X_wide_Bit.ok, X_shape_Precision.ok, X_shape_Emin.ok, X_shape_Check.ok, X_kind_build.ok, X_shape_Emax.ok, X_wide_And.ok, X_wide_Mask.ok, X_exact_Check.ok, X_exact_Top.ok, X_exact_Floor.ok, X_nat_ToWide.ok, trivial⟩) mixed (by kernel_rfl) (by kernel_rfl) (by kernel_rfl) 0 (by kernel_rfl) false trivial ?_
  intro args H
  by_cases hx : ∃ (a0 : Int) (a1_0 : Bool) (a1_1 : List UInt8) (a1_2 : List UInt8) (a1_3 : Int), args = [.int .u8 a0, .agg [.bool a1_0, .str a1_1, .str a1_2, .int .i64 a1_3]] ∧ H = []
  · obtain ⟨a0, a1_0, a1_1, a1_2, a1_3, rfl, rfl⟩ := hx
    right; intro K
    exact iff_of_eq (X_kind_Of.eq a0 a1_0 a1_1 a1_2 a1_3 K).symm
  · left; intro K h
    simp only [e_kind_Of] at h
    split at h
    · exact hx ⟨_, _, _, _, _, rfl, rfl⟩
    · exact h
noncomputable def e_law08_KindNext : Entry := ⟨[none, none], false, fun args H K => match args, H with
  | [.int .u8 a0, .agg [.int .u64 a1_0, .int .u64 a1_1]], [] => law08_KindNext a0 a1_0 a1_1 (fun y0 => K (EV.bool y0) [])
  | _, _ => False⟩
noncomputable def E_law08_KindNext : Env := ⟨look tys, look [(14, e_kind_Next), (16, e_law08_alive), (32, e_kind_Value), (33, e_shape_Inf), (34, e_exact_Cmp), (35, e_shape_Least), (36, e_shape_Zero), (37, e_exact_Add), (38, e_exact_Scale), (39, e_kind_Of)], look [], gl, lookL [], false⟩
theorem X_law08_KindNext.eq (a0 : Int) (a1_0 : Int) (a1_1 : Int) (K : EV → Heap → Prop) : evFn E_law08_KindNext Tryd.f7 false [.int .u8 a0, .agg [.int .u64 a1_0, .int .u64 a1_1]] [] K = law08_KindNext a0 a1_0 a1_1 (fun y0 => K (EV.bool y0) []) := by
  have h : evFnQ E_law08_KindNext Tryd.f7 false [.int .u8 a0, .agg [.int .u64 a1_0, .int .u64 a1_1]] [] K = law08_KindNext.d a0 a1_0 a1_1 (fun y0 => K (EV.bool y0) []) := by kernel_rfl
  rw [law08_KindNext.is]; exact (evFnQ_eq _ _ _ _ _ _).symm.trans h
theorem X_law08_KindNext.ok : SoundE Tryd.prog gl 7 e_law08_KindNext := by
  refine fnOK (E := E_law08_KindNext) (fn := Tryd.f7) rfl tys_ok rfl (show AllL _ [(14, e_kind_Next), (16, e_law08_alive), (32, e_kind_Value), (33, e_shape_Inf), (34, e_exact_Cmp), (35, e_shape_Least), (36, e_shape_Zero), (37, e_exact_Add), (38, e_exact_Scale), (39, e_kind_Of)] from ⟨X_kind_Next.ok, X_law08_alive.ok, X_kind_Value.ok, X_shape_Inf.ok, X_exact_Cmp.ok, X_shape_Least.ok, X_shape_Zero.ok, X_exact_Add.ok, X_exact_Scale.ok, X_kind_Of.ok, trivial⟩) mixed (by kernel_rfl) (by kernel_rfl) (by kernel_rfl) 0 (by kernel_rfl) false trivial ?_
  intro args H
  by_cases hx : ∃ (a0 : Int) (a1_0 : Int) (a1_1 : Int), args = [.int .u8 a0, .agg [.int .u64 a1_0, .int .u64 a1_1]] ∧ H = []
  · obtain ⟨a0, a1_0, a1_1, rfl, rfl⟩ := hx
    right; intro K
    exact iff_of_eq (X_law08_KindNext.eq a0 a1_0 a1_1 K).symm
  · left; intro K h
    simp only [e_law08_KindNext] at h
    split at h
    · exact hx ⟨_, _, _, rfl, rfl⟩
    · exact h
end Go.Ev.S
