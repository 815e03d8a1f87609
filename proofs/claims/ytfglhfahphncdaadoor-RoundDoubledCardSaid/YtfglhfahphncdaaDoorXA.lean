/- The functions of the seat: that the evaluator has them as they are. -/
import Derived.Test.YtfglhfahphncdaaDoorProg
import Derived.Test.YtfglhfahphncdaaDoorEvC
import Derived.Test.YtfglhfahphncdaaDoorDA
import Derived.KernelRfl
set_option maxRecDepth 100000
set_option linter.unusedVariables false
set_option linter.unusedSimpArgs false
namespace Go.Ev.S
open Go Go.Proofs Go.Ev
def tys : List (Nat × TI) := [
  (1, ⟨.func, 1, 8, .nilFunc⟩),
  (2, ⟨.int .i64, 1, 8, .int .i64 0⟩),
  (3, ⟨.int .i64, 1, 8, .int .i64 0⟩),
  (4, ⟨.bool, 1, 1, .bool false⟩),
  (5, ⟨.int .u8, 1, 1, .int .u8 0⟩),
  (6, ⟨.int .u8, 1, 1, .int .u8 0⟩),
  (7, ⟨.struct [(0, 2), (1, 3), (2, 4), (3, 6)], 4, 24, .agg [.int .i64 0, .int .i64 0, .bool false, .int .u8 0]⟩),
  (8, ⟨.struct [(0, 2), (1, 3), (2, 4), (3, 6)], 4, 24, .agg [.int .i64 0, .int .i64 0, .bool false, .int .u8 0]⟩),
  (9, ⟨.str, 1, 16, .str []⟩),
  (10, ⟨.str, 1, 16, .str []⟩),
  (11, ⟨.str, 1, 16, .str []⟩),
  (12, ⟨.int .u64, 1, 8, .int .u64 0⟩),
  (15, ⟨.ptr, 1, 8, .nilPtr⟩),
  (16, ⟨.ptr, 1, 8, .nilPtr⟩),
  (17, ⟨.ptr, 1, 8, .nilPtr⟩),
  (21, ⟨.int .i32, 1, 4, .int .i32 0⟩),
  (22, ⟨.int .u8, 1, 1, .int .u8 0⟩),
  (23, ⟨.int .u64, 1, 8, .int .u64 0⟩),
  (24, ⟨.struct [(0, 23), (1, 23)], 2, 16, .agg [.int .u64 0, .int .u64 0]⟩),
  (25, ⟨.struct [(0, 23), (1, 23)], 2, 16, .agg [.int .u64 0, .int .u64 0]⟩),
  (26, ⟨.func, 1, 8, .nilFunc⟩),
  (27, ⟨.func, 1, 8, .nilFunc⟩),
  (28, ⟨.int .i64, 1, 8, .int .i64 0⟩),
  (30, ⟨.func, 1, 8, .nilFunc⟩),
  (31, ⟨.func, 1, 8, .nilFunc⟩),
  (33, ⟨.func, 1, 8, .nilFunc⟩),
  (34, ⟨.int .u8, 1, 1, .int .u8 0⟩),
  (35, ⟨.array 6 23, 6, 48, .arr .u64 6 (fun _ => 0)⟩),
  (36, ⟨.array 6 23, 6, 48, .arr .u64 6 (fun _ => 0)⟩),
  (37, ⟨.struct [(0, 34), (1, 36), (7, 3), (8, 36)], 14, 112, .agg [.int .u8 0, .arr .u64 6 (fun _ => 0), .int .i64 0, .arr .u64 6 (fun _ => 0)]⟩),
  (38, ⟨.struct [(0, 34), (1, 36), (7, 3), (8, 36)], 14, 112, .agg [.int .u8 0, .arr .u64 6 (fun _ => 0), .int .i64 0, .arr .u64 6 (fun _ => 0)]⟩),
  (40, ⟨.func, 1, 8, .nilFunc⟩),
  (42, ⟨.func, 1, 8, .nilFunc⟩),
  (43, ⟨.func, 1, 8, .nilFunc⟩),
  (44, ⟨.func, 1, 8, .nilFunc⟩),
  (45, ⟨.func, 1, 8, .nilFunc⟩),
  (46, ⟨.func, 1, 8, .nilFunc⟩),
  (47, ⟨.func, 1, 8, .nilFunc⟩),
  (48, ⟨.func, 1, 8, .nilFunc⟩),
  (49, ⟨.int .u8, 1, 1, .int .u8 0⟩),
  (50, ⟨.int .u8, 1, 1, .int .u8 0⟩),
  (52, ⟨.func, 1, 8, .nilFunc⟩),
  (54, ⟨.func, 1, 8, .nilFunc⟩),
  (55, ⟨.func, 1, 8, .nilFunc⟩),
  (56, ⟨.func, 1, 8, .nilFunc⟩),
  (57, ⟨.struct [(0, 4), (1, 36), (7, 3), (8, 4)], 9, 72, .agg [.bool false, .arr .u64 6 (fun _ => 0), .int .i64 0, .bool false]⟩),
  (58, ⟨.struct [(0, 4), (1, 36), (7, 3), (8, 4)], 9, 72, .agg [.bool false, .arr .u64 6 (fun _ => 0), .int .i64 0, .bool false]⟩),
  (60, ⟨.func, 1, 8, .nilFunc⟩),
  (61, ⟨.func, 1, 8, .nilFunc⟩),
  (62, ⟨.func, 1, 8, .nilFunc⟩),
  (63, ⟨.str, 1, 16, .str []⟩),
  (64, ⟨.struct [(0, 4), (1, 63), (2, 63), (3, 3)], 4, 48, .agg [.bool false, .str [], .str [], .int .i64 0]⟩),
  (65, ⟨.struct [(0, 4), (1, 63), (2, 63), (3, 3)], 4, 48, .agg [.bool false, .str [], .str [], .int .i64 0]⟩),
  (67, ⟨.func, 1, 8, .nilFunc⟩),
  (68, ⟨.func, 1, 8, .nilFunc⟩),
  (70, ⟨.func, 1, 8, .nilFunc⟩),
  (71, ⟨.func, 1, 8, .nilFunc⟩),
  (72, ⟨.func, 1, 8, .nilFunc⟩),
  (74, ⟨.func, 1, 8, .nilFunc⟩),
  (75, ⟨.func, 1, 8, .nilFunc⟩),
  (76, ⟨.func, 1, 8, .nilFunc⟩),
  (77, ⟨.func, 1, 8, .nilFunc⟩),
  (79, ⟨.func, 1, 8, .nilFunc⟩),
  (80, ⟨.func, 1, 8, .nilFunc⟩),
  (81, ⟨.func, 1, 8, .nilFunc⟩),
  (82, ⟨.func, 1, 8, .nilFunc⟩),
  (83, ⟨.func, 1, 8, .nilFunc⟩),
  (84, ⟨.func, 1, 8, .nilFunc⟩),
  (85, ⟨.int .u64, 1, 8, .int .u64 0⟩),
  (86, ⟨.func, 1, 8, .nilFunc⟩),
  (87, ⟨.func, 1, 8, .nilFunc⟩),
  (88, ⟨.func, 1, 8, .nilFunc⟩),
  (89, ⟨.func, 1, 8, .nilFunc⟩),
  (90, ⟨.func, 1, 8, .nilFunc⟩),
  (91, ⟨.func, 1, 8, .nilFunc⟩),
  (92, ⟨.func, 1, 8, .nilFunc⟩),
  (93, ⟨.func, 1, 8, .nilFunc⟩),
  (94, ⟨.func, 1, 8, .nilFunc⟩),
  (96, ⟨.func, 1, 8, .nilFunc⟩),
  (97, ⟨.func, 1, 8, .nilFunc⟩),
  (98, ⟨.func, 1, 8, .nilFunc⟩),
  (99, ⟨.func, 1, 8, .nilFunc⟩),
  (100, ⟨.func, 1, 8, .nilFunc⟩),
  (101, ⟨.func, 1, 8, .nilFunc⟩),
  (102, ⟨.func, 1, 8, .nilFunc⟩),
  (104, ⟨.func, 1, 8, .nilFunc⟩),
  (105, ⟨.func, 1, 8, .nilFunc⟩),
  (106, ⟨.struct [(0, 28)], 1, 8, .agg [.int .i64 0]⟩),
  (107, ⟨.struct [(0, 28)], 1, 8, .agg [.int .i64 0]⟩),
  (108, ⟨.func, 1, 8, .nilFunc⟩),
  (110, ⟨.func, 1, 8, .nilFunc⟩),
  (111, ⟨.func, 1, 8, .nilFunc⟩),
  (112, ⟨.func, 1, 8, .nilFunc⟩),
  (113, ⟨.func, 1, 8, .nilFunc⟩),
  (115, ⟨.func, 1, 8, .nilFunc⟩),
  (116, ⟨.func, 1, 8, .nilFunc⟩),
  (118, ⟨.func, 1, 8, .nilFunc⟩),
  (119, ⟨.func, 1, 8, .nilFunc⟩),
  (120, ⟨.func, 1, 8, .nilFunc⟩),
  (122, ⟨.func, 1, 8, .nilFunc⟩),
  (123, ⟨.func, 1, 8, .nilFunc⟩),
  (124, ⟨.func, 1, 8, .nilFunc⟩),
  (125, ⟨.func, 1, 8, .nilFunc⟩),
  (127, ⟨.func, 1, 8, .nilFunc⟩),
  (128, ⟨.func, 1, 8, .nilFunc⟩),
  (129, ⟨.func, 1, 8, .nilFunc⟩),
  (130, ⟨.func, 1, 8, .nilFunc⟩),
  (131, ⟨.func, 1, 8, .nilFunc⟩),
  (133, ⟨.func, 1, 8, .nilFunc⟩),
  (134, ⟨.slice 135, 1, 24, .nilSlice⟩),
  (135, ⟨.int .u32, 1, 4, .int .u32 0⟩),
  (136, ⟨.func, 1, 8, .nilFunc⟩),
  (137, ⟨.func, 1, 8, .nilFunc⟩),
  (138, ⟨.func, 1, 8, .nilFunc⟩),
  (139, ⟨.func, 1, 8, .nilFunc⟩),
  (140, ⟨.func, 1, 8, .nilFunc⟩),
  (141, ⟨.ptr, 1, 8, .nilPtr⟩),
  (142, ⟨.func, 1, 8, .nilFunc⟩),
  (143, ⟨.func, 1, 8, .nilFunc⟩),
  (144, ⟨.func, 1, 8, .nilFunc⟩),
  (145, ⟨.struct [(0, 3), (1, 3), (2, 3), (3, 9)], 4, 40, .agg [.int .i64 0, .int .i64 0, .int .i64 0, .str []]⟩),
  (146, ⟨.array 4 145, 16, 160, .agg [.agg [.int .i64 0, .int .i64 0, .int .i64 0, .str []], .agg [.int .i64 0, .int .i64 0, .int .i64 0, .str []], .agg [.int .i64 0, .int .i64 0, .int .i64 0, .str []], .agg [.int .i64 0, .int .i64 0, .int .i64 0, .str []]]⟩),
  (147, ⟨.func, 1, 8, .nilFunc⟩),
  (148, ⟨.func, 1, 8, .nilFunc⟩),
  (149, ⟨.func, 1, 8, .nilFunc⟩),
  (151, ⟨.func, 1, 8, .nilFunc⟩),
  (152, ⟨.func, 1, 8, .nilFunc⟩),
  (153, ⟨.slice 5, 1, 24, .nilSlice⟩),
  (154, ⟨.array 64 5, 64, 64, .arr .u8 64 (fun _ => 0)⟩),
  (155, ⟨.func, 1, 8, .nilFunc⟩),
  (158, ⟨.array 0 16, 0, 0, .agg []⟩),
  (161, ⟨.func, 1, 8, .nilFunc⟩),
  (162, ⟨.int .u8, 1, 1, .int .u8 0⟩),
  (163, ⟨.int .u8, 1, 1, .int .u8 0⟩),
  (164, ⟨.func, 1, 8, .nilFunc⟩),
  (165, ⟨.ptr, 1, 8, .nilPtr⟩),
  (166, ⟨.int .i32, 1, 4, .int .i32 0⟩),
  (167, ⟨.int .i32, 1, 4, .int .i32 0⟩)]
theorem tys_ok : AllL (OkTI Tryd.prog) tys :=
  ⟨.of (by kernel_rfl) (by kernel_rfl), .of (by kernel_rfl) (by kernel_rfl), .of (by kernel_rfl) (by kernel_rfl), .of (by kernel_rfl) (by kernel_rfl), .of (by kernel_rfl) (by kernel_rfl), .of (by kernel_rfl) (by kernel_rfl), .of (by kernel_rfl) (by kernel_rfl), .of (by kernel_rfl) (by kernel_rfl), .of (by kernel_rfl) (by kernel_rfl), .of (by kernel_rfl) (by kernel_rfl), .of (by kernel_rfl) (by kernel_rfl), .of (by kernel_rfl) (by kernel_rfl), .of (by kernel_rfl) (by kernel_rfl), .of (by kernel_rfl) (by kernel_rfl), .of (by kernel_rfl) (by kernel_rfl), .of (by kernel_rfl) (by kernel_rfl), .of (by kernel_rfl) (by kernel_rfl), .of (by kernel_rfl) (by kernel_rfl), .of (by kernel_rfl) (by kernel_rfl), .of (by kernel_rfl) (by kernel_rfl), .of (by kernel_rfl) (by kernel_rfl), .of (by kernel_rfl) (by kernel_rfl), .of (by kernel_rfl) (by kernel_rfl), .of (by kernel_rfl) (by kernel_rfl), .of (by kernel_rfl) (by kernel_rfl), .of (by kernel_rfl) (by kernel_rfl), .of (by kernel_rfl) (by kernel_rfl), .of (by kernel_rfl) (by kernel_rfl), .of (by kernel_rfl) (by kernel_rfl), .of (by kernel_rfl) (by kernel_rfl), .of (by kernel_rfl) (by kernel_rfl), .of (by kernel_rfl) (by kernel_rfl), .of (by kernel_rfl) (by kernel_rfl), .of (by kernel_rfl) (by kernel_rfl), .of (by kernel_rfl) (by kernel_rfl), .of (by kernel_rfl) (by kernel_rfl), .of (by kernel_rfl) (by kernel_rfl), .of (by kernel_rfl) (by kernel_rfl), .of (by kernel_rfl) (by kernel_rfl), .of (by kernel_rfl) (by kernel_rfl), .of (by kernel_rfl) (by kernel_rfl), .of (by kernel_rfl) (by kernel_rfl), .of (by kernel_rfl) (by kernel_rfl), .of (by kernel_rfl) (by kernel_rfl), .of (by kernel_rfl) (by kernel_rfl), .of (by kernel_rfl) (by kernel_rfl), .of (by kernel_rfl) (by kernel_rfl), .of (by kernel_rfl) (by kernel_rfl), .of (by kernel_rfl) (by kernel_rfl), .of (by kernel_rfl) (by kernel_rfl), .of (by kernel_rfl) (by kernel_rfl), .of (by kernel_rfl) (by kernel_rfl), .of (by kernel_rfl) (by kernel_rfl), .of (by kernel_rfl) (by kernel_rfl), .of (by kernel_rfl) (by kernel_rfl), .of (by kernel_rfl) (by kernel_rfl), .of (by kernel_rfl) (by kernel_rfl), .of (by kernel_rfl) (by kernel_rfl), .of (by kernel_rfl) (by kernel_rfl), .of (by kernel_rfl) (by kernel_rfl), .of (by kernel_rfl) (by kernel_rfl), .of (by kernel_rfl) (by kernel_rfl), .of (by kernel_rfl) (by kernel_rfl), .of (by kernel_rfl) (by kernel_rfl), .of (by kernel_rfl) (by kernel_rfl), .of (by kernel_rfl) (by kernel_rfl), .of (by kernel_rfl) (by kernel_rfl), .of (by kernel_rfl) (by kernel_rfl), .of (by kernel_rfl) (by kernel_rfl), .of (by kernel_rfl) (by kernel_rfl), .of (by kernel_rfl) (by kernel_rfl), .of (by kernel_rfl) (by kernel_rfl), .of (by kernel_rfl) (by kernel_rfl), .of (by kernel_rfl) (by kernel_rfl), .of (by kernel_rfl) (by kernel_rfl), .of (by kernel_rfl) (by kernel_rfl), .of (by kernel_rfl) (by kernel_rfl), .of (by kernel_rfl) (by kernel_rfl), .of (by kernel_rfl) (by kernel_rfl), .of (by kernel_rfl) (by kernel_rfl), .of (by kernel_rfl) (by kernel_rfl), .of (by kernel_rfl) (by kernel_rfl), .of (by kernel_rfl) (by kernel_rfl), .of (by kernel_rfl) (by kernel_rfl), .of (by kernel_rfl) (by kernel_rfl), .of (by kernel_rfl) (by kernel_rfl), .of (by kernel_rfl) (by kernel_rfl), .of (by kernel_rfl) (by kernel_rfl), .of (by kernel_rfl) (by kernel_rfl), .of (by kernel_rfl) (by kernel_rfl), .of (by kernel_rfl) (by kernel_rfl), .of (by kernel_rfl) (by kernel_rfl), .of (by kernel_rfl) (by kernel_rfl), .of (by kernel_rfl) (by kernel_rfl), .of (by kernel_rfl) (by kernel_rfl), .of (by kernel_rfl) (by kernel_rfl), .of (by kernel_rfl) (by kernel_rfl), .of (by kernel_rfl) (by kernel_rfl), .of (by kernel_rfl) (by kernel_rfl), .of (by kernel_rfl) (by kernel_rfl), .of (by kernel_rfl) (by kernel_rfl), .of (by kernel_rfl) (by kernel_rfl), .of (by kernel_rfl) (by kernel_rfl), .of (by kernel_rfl) (by kernel_rfl), .of (by kernel_rfl) (by kernel_rfl), .of (by kernel_rfl) (by kernel_rfl), .of (by kernel_rfl) (by kernel_rfl), .of (by kernel_rfl) (by kernel_rfl), .of (by kernel_rfl) (by kernel_rfl), .of (by kernel_rfl) (by kernel_rfl), .of (by kernel_rfl) (by kernel_rfl), .of (by kernel_rfl) (by kernel_rfl), .of (by kernel_rfl) (by kernel_rfl), .of (by kernel_rfl) (by kernel_rfl), .of (by kernel_rfl) (by kernel_rfl), .of (by kernel_rfl) (by kernel_rfl), .of (by kernel_rfl) (by kernel_rfl), .of (by kernel_rfl) (by kernel_rfl), .of (by kernel_rfl) (by kernel_rfl), .of (by kernel_rfl) (by kernel_rfl), .of (by kernel_rfl) (by kernel_rfl), .of (by kernel_rfl) (by kernel_rfl), .of (by kernel_rfl) (by kernel_rfl), .of (by kernel_rfl) (by kernel_rfl), .of (by kernel_rfl) (by kernel_rfl), .of (by kernel_rfl) (by kernel_rfl), .of (by kernel_rfl) (by kernel_rfl), .of (by kernel_rfl) (by kernel_rfl), .of (by kernel_rfl) (by kernel_rfl), .of (by kernel_rfl) (by kernel_rfl), .of (by kernel_rfl) (by kernel_rfl), .of (by kernel_rfl) (by kernel_rfl), .of (by kernel_rfl) (by kernel_rfl), .of (by kernel_rfl) (by kernel_rfl), .of (by kernel_rfl) (by kernel_rfl), .of (by kernel_rfl) (by kernel_rfl), .of (by kernel_rfl) (by kernel_rfl), .of (by kernel_rfl) (by kernel_rfl), trivial⟩
theorem mixed : Tryd.prog.follows .mixedOrders = true := by kernel_rfl
noncomputable def gl : Nat → Option EV := look [(0, .arr .u8 64 tab_deBruijn64tab)]
noncomputable def e_shape_Check : Entry := ⟨[none], false, fun args H K => match args, H with
  | [.int .u8 a0], [] => shape_Check a0 (fun y0 => K (EV.int IntKind.i64 y0) [])
  | _, _ => False⟩
noncomputable def E_shape_Check : Env := ⟨look tys, look [], look [], gl, lookL [], false⟩
theorem X_shape_Check.eq (a0 : Int) (K : EV → Heap → Prop) : evFn E_shape_Check Tryd.f63 false [.int .u8 a0] [] K = shape_Check a0 (fun y0 => K (EV.int IntKind.i64 y0) []) := by
  have h : evFnQ E_shape_Check Tryd.f63 false [.int .u8 a0] [] K = shape_Check.d a0 (fun y0 => K (EV.int IntKind.i64 y0) []) := by kernel_rfl
  rw [shape_Check.is]; exact (evFnQ_eq _ _ _ _ _ _).symm.trans h
theorem X_shape_Check.ok : SoundE Tryd.prog gl 63 e_shape_Check := by
  refine fnOK (E := E_shape_Check) (fn := Tryd.f63) rfl tys_ok rfl (show AllL _ [] from trivial) mixed (by kernel_rfl) (by kernel_rfl) (by kernel_rfl) 0 (by kernel_rfl) false trivial ?_
  intro args H
  by_cases hx : ∃ (a0 : Int), args = [.int .u8 a0] ∧ H = []
  · obtain ⟨a0, rfl, rfl⟩ := hx
    right; intro K
    exact iff_of_eq (X_shape_Check.eq a0 K).symm
  · left; intro K h
    simp only [e_shape_Check] at h
    split at h
    · exact hx ⟨_, rfl, rfl⟩
    · exact h
noncomputable def e_shape_numbers : Entry := ⟨[none], false, fun args H K => match args, H with
  | [.int .u8 a0], [] => shape_numbers a0 (fun y0 y1 y2 y3 => K (EV.tuple [EV.int IntKind.i64 y0, EV.int IntKind.i64 y1, EV.int IntKind.i64 y2, EV.str y3]) [])
  | _, _ => False⟩
noncomputable def E_shape_numbers : Env := ⟨look tys, look [], look [], gl, lookL [], false⟩
theorem X_shape_numbers.eq (a0 : Int) (K : EV → Heap → Prop) : evFn E_shape_numbers Tryd.f102 false [.int .u8 a0] [] K = shape_numbers a0 (fun y0 y1 y2 y3 => K (EV.tuple [EV.int IntKind.i64 y0, EV.int IntKind.i64 y1, EV.int IntKind.i64 y2, EV.str y3]) []) := by
  have h : evFnQ E_shape_numbers Tryd.f102 false [.int .u8 a0] [] K = shape_numbers.d a0 (fun y0 y1 y2 y3 => K (EV.tuple [EV.int IntKind.i64 y0, EV.int IntKind.i64 y1, EV.int IntKind.i64 y2, EV.str y3]) []) := by kernel_rfl
  rw [shape_numbers.is]; exact (evFnQ_eq _ _ _ _ _ _).symm.trans h
theorem X_shape_numbers.ok : SoundE Tryd.prog gl 102 e_shape_numbers := by
  refine fnOK (E := E_shape_numbers) (fn := Tryd.f102) rfl tys_ok rfl (show AllL _ [] from trivial) mixed (by kernel_rfl) (by kernel_rfl) (by kernel_rfl) 0 (by kernel_rfl) false trivial ?_
  intro args H
  by_cases hx : ∃ (a0 : Int), args = [.int .u8 a0] ∧ H = []
  · obtain ⟨a0, rfl, rfl⟩ := hx
    right; intro K
    exact iff_of_eq (X_shape_numbers.eq a0 K).symm
  · left; intro K h
    simp only [e_shape_numbers] at h
    split at h
    · exact hx ⟨_, rfl, rfl⟩
    · exact h
noncomputable def e_shape_Emax : Entry := ⟨[none], false, fun args H K => match args, H with
  | [.int .u8 a0], [] => shape_Emax a0 (fun y0 => K (EV.int IntKind.i64 y0) [])
  | _, _ => False⟩
noncomputable def E_shape_Emax : Env := ⟨look tys, look [(102, e_shape_numbers)], look [], gl, lookL [], false⟩
theorem X_shape_Emax.eq (a0 : Int) (K : EV → Heap → Prop) : evFn E_shape_Emax Tryd.f66 false [.int .u8 a0] [] K = shape_Emax a0 (fun y0 => K (EV.int IntKind.i64 y0) []) := by
  have h : evFnQ E_shape_Emax Tryd.f66 false [.int .u8 a0] [] K = shape_Emax.d a0 (fun y0 => K (EV.int IntKind.i64 y0) []) := by kernel_rfl
  rw [shape_Emax.is]; exact (evFnQ_eq _ _ _ _ _ _).symm.trans h
theorem X_shape_Emax.ok : SoundE Tryd.prog gl 66 e_shape_Emax := by
  refine fnOK (E := E_shape_Emax) (fn := Tryd.f66) rfl tys_ok rfl (show AllL _ [(102, e_shape_numbers)] from ⟨X_shape_numbers.ok, trivial⟩) mixed (by kernel_rfl) (by kernel_rfl) (by kernel_rfl) 0 (by kernel_rfl) false trivial ?_
  intro args H
  by_cases hx : ∃ (a0 : Int), args = [.int .u8 a0] ∧ H = []
  · obtain ⟨a0, rfl, rfl⟩ := hx
    right; intro K
    exact iff_of_eq (X_shape_Emax.eq a0 K).symm
  · left; intro K h
    simp only [e_shape_Emax] at h
    split at h
    · exact hx ⟨_, rfl, rfl⟩
    · exact h
noncomputable def e_shape_Width : Entry := ⟨[none], false, fun args H K => match args, H with
  | [.int .u8 a0], [] => shape_Width a0 (fun y0 => K (EV.int IntKind.i64 y0) [])
  | _, _ => False⟩
noncomputable def E_shape_Width : Env := ⟨look tys, look [(102, e_shape_numbers)], look [], gl, lookL [], false⟩
theorem X_shape_Width.eq (a0 : Int) (K : EV → Heap → Prop) : evFn E_shape_Width Tryd.f43 false [.int .u8 a0] [] K = shape_Width a0 (fun y0 => K (EV.int IntKind.i64 y0) []) := by
  have h : evFnQ E_shape_Width Tryd.f43 false [.int .u8 a0] [] K = shape_Width.d a0 (fun y0 => K (EV.int IntKind.i64 y0) []) := by kernel_rfl
  rw [shape_Width.is]; exact (evFnQ_eq _ _ _ _ _ _).symm.trans h
theorem X_shape_Width.ok : SoundE Tryd.prog gl 43 e_shape_Width := by
  refine fnOK (E := E_shape_Width) (fn := Tryd.f43) rfl tys_ok rfl (show AllL _ [(102, e_shape_numbers)] from ⟨X_shape_numbers.ok, trivial⟩) mixed (by kernel_rfl) (by kernel_rfl) (by kernel_rfl) 0 (by kernel_rfl) false trivial ?_
  intro args H
  by_cases hx : ∃ (a0 : Int), args = [.int .u8 a0] ∧ H = []
  · obtain ⟨a0, rfl, rfl⟩ := hx
    right; intro K
    exact iff_of_eq (X_shape_Width.eq a0 K).symm
  · left; intro K h
    simp only [e_shape_Width] at h
    split at h
    · exact hx ⟨_, rfl, rfl⟩
    · exact h
noncomputable def e_shape_at : Entry := ⟨[none, none], false, fun args H K => match args, H with
  | [.int .u64 a0, .int .i64 a1], [] => shape_at a0 a1 (fun y0 y1 => K (EV.agg [EV.int IntKind.u64 y0, EV.int IntKind.u64 y1]) [])
  | _, _ => False⟩
noncomputable def E_shape_at : Env := ⟨look tys, look [], look [], gl, lookL [], false⟩
theorem X_shape_at.eq (a0 : Int) (a1 : Int) (K : EV → Heap → Prop) : evFn E_shape_at Tryd.f107 false [.int .u64 a0, .int .i64 a1] [] K = shape_at a0 a1 (fun y0 y1 => K (EV.agg [EV.int IntKind.u64 y0, EV.int IntKind.u64 y1]) []) := by
  have h : evFnQ E_shape_at Tryd.f107 false [.int .u64 a0, .int .i64 a1] [] K = shape_at.d a0 a1 (fun y0 y1 => K (EV.agg [EV.int IntKind.u64 y0, EV.int IntKind.u64 y1]) []) := by kernel_rfl
  rw [shape_at.is]; exact (evFnQ_eq _ _ _ _ _ _).symm.trans h
theorem X_shape_at.ok : SoundE Tryd.prog gl 107 e_shape_at := by
  refine fnOK (E := E_shape_at) (fn := Tryd.f107) rfl tys_ok rfl (show AllL _ [] from trivial) mixed (by kernel_rfl) (by kernel_rfl) (by kernel_rfl) 0 (by kernel_rfl) false trivial ?_
  intro args H
  by_cases hx : ∃ (a0 : Int) (a1 : Int), args = [.int .u64 a0, .int .i64 a1] ∧ H = []
  · obtain ⟨a0, a1, rfl, rfl⟩ := hx
    right; intro K
    exact iff_of_eq (X_shape_at.eq a0 a1 K).symm
  · left; intro K h
    simp only [e_shape_at] at h
    split at h
    · exact hx ⟨_, _, rfl, rfl⟩
    · exact h
noncomputable def e_shape_with : Entry := ⟨[none, none, none], false, fun args H K => match args, H with
  | [.int .u8 a0, .agg [.int .u64 a1_0, .int .u64 a1_1], .bool a2], [] => shape_with a0 a1_0 a1_1 a2 (fun y0 y1 => K (EV.agg [EV.int IntKind.u64 y0, EV.int IntKind.u64 y1]) [])
  | _, _ => False⟩
noncomputable def E_shape_with : Env := ⟨look tys, look [(43, e_shape_Width), (63, e_shape_Check), (107, e_shape_at)], look [], gl, lookL [], false⟩
theorem X_shape_with.eq (a0 : Int) (a1_0 : Int) (a1_1 : Int) (a2 : Bool) (K : EV → Heap → Prop) : evFn E_shape_with Tryd.f87 false [.int .u8 a0, .agg [.int .u64 a1_0, .int .u64 a1_1], .bool a2] [] K = shape_with a0 a1_0 a1_1 a2 (fun y0 y1 => K (EV.agg [EV.int IntKind.u64 y0, EV.int IntKind.u64 y1]) []) := by
  have h : evFnQ E_shape_with Tryd.f87 false [.int .u8 a0, .agg [.int .u64 a1_0, .int .u64 a1_1], .bool a2] [] K = shape_with.d a0 a1_0 a1_1 a2 (fun y0 y1 => K (EV.agg [EV.int IntKind.u64 y0, EV.int IntKind.u64 y1]) []) := by kernel_rfl
  rw [shape_with.is]; exact (evFnQ_eq _ _ _ _ _ _).symm.trans h
theorem X_shape_with.ok : SoundE Tryd.prog gl 87 e_shape_with := by
  refine fnOK (E := E_shape_with) (fn := Tryd.f87) rfl tys_ok rfl (show AllL _ [(43, e_shape_Width), (63, e_shape_Check), (107, e_shape_at)] from ⟨X_shape_Width.ok, X_shape_Check.ok, X_shape_at.ok, trivial⟩) mixed (by kernel_rfl) (by kernel_rfl) (by kernel_rfl) 0 (by kernel_rfl) false trivial ?_
  intro args H
  by_cases hx : ∃ (a0 : Int) (a1_0 : Int) (a1_1 : Int) (a2 : Bool), args = [.int .u8 a0, .agg [.int .u64 a1_0, .int .u64 a1_1], .bool a2] ∧ H = []
  · obtain ⟨a0, a1_0, a1_1, a2, rfl, rfl⟩ := hx
    right; intro K
    exact iff_of_eq (X_shape_with.eq a0 a1_0 a1_1 a2 K).symm
  · left; intro K h
    simp only [e_shape_with] at h
    split at h
    · exact hx ⟨_, _, _, _, rfl, rfl⟩
    · exact h
noncomputable def e_shape_Precision : Entry := ⟨[none], false, fun args H K => match args, H with
  | [.int .u8 a0], [] => shape_Precision a0 (fun y0 => K (EV.int IntKind.i64 y0) [])
  | _, _ => False⟩
noncomputable def E_shape_Precision : Env := ⟨look tys, look [(102, e_shape_numbers)], look [], gl, lookL [], false⟩
theorem X_shape_Precision.eq (a0 : Int) (K : EV → Heap → Prop) : evFn E_shape_Precision Tryd.f55 false [.int .u8 a0] [] K = shape_Precision a0 (fun y0 => K (EV.int IntKind.i64 y0) []) := by
  have h : evFnQ E_shape_Precision Tryd.f55 false [.int .u8 a0] [] K = shape_Precision.d a0 (fun y0 => K (EV.int IntKind.i64 y0) []) := by kernel_rfl
  rw [shape_Precision.is]; exact (evFnQ_eq _ _ _ _ _ _).symm.trans h
theorem X_shape_Precision.ok : SoundE Tryd.prog gl 55 e_shape_Precision := by
  refine fnOK (E := E_shape_Precision) (fn := Tryd.f55) rfl tys_ok rfl (show AllL _ [(102, e_shape_numbers)] from ⟨X_shape_numbers.ok, trivial⟩) mixed (by kernel_rfl) (by kernel_rfl) (by kernel_rfl) 0 (by kernel_rfl) false trivial ?_
  intro args H
  by_cases hx : ∃ (a0 : Int), args = [.int .u8 a0] ∧ H = []
  · obtain ⟨a0, rfl, rfl⟩ := hx
    right; intro K
    exact iff_of_eq (X_shape_Precision.eq a0 K).symm
  · left; intro K h
    simp only [e_shape_Precision] at h
    split at h
    · exact hx ⟨_, rfl, rfl⟩
    · exact h
noncomputable def e_shape_field : Entry := ⟨[none, none], false, fun args H K => match args, H with
  | [.int .u8 a0, .int .i64 a1], [] => shape_field a0 a1 (fun y0 y1 => K (EV.agg [EV.int IntKind.u64 y0, EV.int IntKind.u64 y1]) [])
  | _, _ => False⟩
noncomputable def E_shape_field : Env := ⟨look tys, look [(55, e_shape_Precision), (107, e_shape_at)], look [], gl, lookL [], false⟩
theorem X_shape_field.eq (a0 : Int) (a1 : Int) (K : EV → Heap → Prop) : evFn E_shape_field Tryd.f88 false [.int .u8 a0, .int .i64 a1] [] K = shape_field a0 a1 (fun y0 y1 => K (EV.agg [EV.int IntKind.u64 y0, EV.int IntKind.u64 y1]) []) := by
  have h : evFnQ E_shape_field Tryd.f88 false [.int .u8 a0, .int .i64 a1] [] K = shape_field.d a0 a1 (fun y0 y1 => K (EV.agg [EV.int IntKind.u64 y0, EV.int IntKind.u64 y1]) []) := by kernel_rfl
  rw [shape_field.is]; exact (evFnQ_eq _ _ _ _ _ _).symm.trans h
theorem X_shape_field.ok : SoundE Tryd.prog gl 88 e_shape_field := by
  refine fnOK (E := E_shape_field) (fn := Tryd.f88) rfl tys_ok rfl (show AllL _ [(55, e_shape_Precision), (107, e_shape_at)] from ⟨X_shape_Precision.ok, X_shape_at.ok, trivial⟩) mixed (by kernel_rfl) (by kernel_rfl) (by kernel_rfl) 0 (by kernel_rfl) false trivial ?_
  intro args H
  by_cases hx : ∃ (a0 : Int) (a1 : Int), args = [.int .u8 a0, .int .i64 a1] ∧ H = []
  · obtain ⟨a0, a1, rfl, rfl⟩ := hx
    right; intro K
    exact iff_of_eq (X_shape_field.eq a0 a1 K).symm
  · left; intro K h
    simp only [e_shape_field] at h
    split at h
    · exact hx ⟨_, _, rfl, rfl⟩
    · exact h
noncomputable def e_shape_Inf : Entry := ⟨[none, none], false, fun args H K => match args, H with
  | [.int .u8 a0, .bool a1], [] => shape_Inf a0 a1 (fun y0 y1 => K (EV.agg [EV.int IntKind.u64 y0, EV.int IntKind.u64 y1]) [])
  | _, _ => False⟩
noncomputable def E_shape_Inf : Env := ⟨look tys, look [(63, e_shape_Check), (66, e_shape_Emax), (87, e_shape_with), (88, e_shape_field)], look [], gl, lookL [], false⟩
theorem X_shape_Inf.eq (a0 : Int) (a1 : Bool) (K : EV → Heap → Prop) : evFn E_shape_Inf Tryd.f33 false [.int .u8 a0, .bool a1] [] K = shape_Inf a0 a1 (fun y0 y1 => K (EV.agg [EV.int IntKind.u64 y0, EV.int IntKind.u64 y1]) []) := by
  have h : evFnQ E_shape_Inf Tryd.f33 false [.int .u8 a0, .bool a1] [] K = shape_Inf.d a0 a1 (fun y0 y1 => K (EV.agg [EV.int IntKind.u64 y0, EV.int IntKind.u64 y1]) []) := by kernel_rfl
  rw [shape_Inf.is]; exact (evFnQ_eq _ _ _ _ _ _).symm.trans h
theorem X_shape_Inf.ok : SoundE Tryd.prog gl 33 e_shape_Inf := by
  refine fnOK (E := E_shape_Inf) (fn := Tryd.f33) rfl tys_ok rfl (show AllL _ [(63, e_shape_Check), (66, e_shape_Emax), (87, e_shape_with), (88, e_shape_field)] from ⟨X_shape_Check.ok, X_shape_Emax.ok, X_shape_with.ok, X_shape_field.ok, trivial⟩) mixed (by kernel_rfl) (by kernel_rfl) (by kernel_rfl) 0 (by kernel_rfl) false trivial ?_
  intro args H
  by_cases hx : ∃ (a0 : Int) (a1 : Bool), args = [.int .u8 a0, .bool a1] ∧ H = []
  · obtain ⟨a0, a1, rfl, rfl⟩ := hx
    right; intro K
    exact iff_of_eq (X_shape_Inf.eq a0 a1 K).symm
  · left; intro K h
    simp only [e_shape_Inf] at h
    split at h
    · exact hx ⟨_, _, rfl, rfl⟩
    · exact h
noncomputable def e_shape_CheckMode : Entry := ⟨[none], false, fun args H K => match args, H with
  | [.int .u8 a0], [] => shape_CheckMode a0 (fun y0 => K (EV.int IntKind.i64 y0) [])
  | _, _ => False⟩
noncomputable def E_shape_CheckMode : Env := ⟨look tys, look [], look [], gl, lookL [], false⟩
theorem X_shape_CheckMode.eq (a0 : Int) (K : EV → Heap → Prop) : evFn E_shape_CheckMode Tryd.f117 false [.int .u8 a0] [] K = shape_CheckMode a0 (fun y0 => K (EV.int IntKind.i64 y0) []) := by
  have h : evFnQ E_shape_CheckMode Tryd.f117 false [.int .u8 a0] [] K = shape_CheckMode.d a0 (fun y0 => K (EV.int IntKind.i64 y0) []) := by kernel_rfl
  rw [shape_CheckMode.is]; exact (evFnQ_eq _ _ _ _ _ _).symm.trans h
theorem X_shape_CheckMode.ok : SoundE Tryd.prog gl 117 e_shape_CheckMode := by
  refine fnOK (E := E_shape_CheckMode) (fn := Tryd.f117) rfl tys_ok rfl (show AllL _ [] from trivial) mixed (by kernel_rfl) (by kernel_rfl) (by kernel_rfl) 0 (by kernel_rfl) false trivial ?_
  intro args H
  by_cases hx : ∃ (a0 : Int), args = [.int .u8 a0] ∧ H = []
  · obtain ⟨a0, rfl, rfl⟩ := hx
    right; intro K
    exact iff_of_eq (X_shape_CheckMode.eq a0 K).symm
  · left; intro K h
    simp only [e_shape_CheckMode] at h
    split at h
    · exact hx ⟨_, rfl, rfl⟩
    · exact h
noncomputable def e_round_right : Entry := ⟨[none, none], false, fun args H K => match args, H with
  | [.int .u8 a0, .int .u8 a1], [] => round_right a0 a1 (fun y0 => K (EV.bool y0) [])
  | _, _ => False⟩
noncomputable def E_round_right : Env := ⟨look tys, look [(63, e_shape_Check), (117, e_shape_CheckMode)], look [], gl, lookL [], false⟩
theorem X_round_right.eq (a0 : Int) (a1 : Int) (K : EV → Heap → Prop) : evFn E_round_right Tryd.f74 false [.int .u8 a0, .int .u8 a1] [] K = round_right a0 a1 (fun y0 => K (EV.bool y0) []) := by
  have h : evFnQ E_round_right Tryd.f74 false [.int .u8 a0, .int .u8 a1] [] K = round_right.d a0 a1 (fun y0 => K (EV.bool y0) []) := by kernel_rfl
  rw [round_right.is]; exact (evFnQ_eq _ _ _ _ _ _).symm.trans h
theorem X_round_right.ok : SoundE Tryd.prog gl 74 e_round_right := by
  refine fnOK (E := E_round_right) (fn := Tryd.f74) rfl tys_ok rfl (show AllL _ [(63, e_shape_Check), (117, e_shape_CheckMode)] from ⟨X_shape_Check.ok, X_shape_CheckMode.ok, trivial⟩) mixed (by kernel_rfl) (by kernel_rfl) (by kernel_rfl) 0 (by kernel_rfl) false trivial ?_
  intro args H
  by_cases hx : ∃ (a0 : Int) (a1 : Int), args = [.int .u8 a0, .int .u8 a1] ∧ H = []
  · obtain ⟨a0, a1, rfl, rfl⟩ := hx
    right; intro K
    exact iff_of_eq (X_round_right.eq a0 a1 K).symm
  · left; intro K h
    simp only [e_round_right] at h
    split at h
    · exact hx ⟨_, _, rfl, rfl⟩
    · exact h
noncomputable def e_shape_Greatest : Entry := ⟨[none, none], false, fun args H K => match args, H with
  | [.int .u8 a0, .bool a1], [] => shape_Greatest a0 a1 (fun y0 y1 => K (EV.agg [EV.int IntKind.u64 y0, EV.int IntKind.u64 y1]) [])
  | _, _ => False⟩
noncomputable def E_shape_Greatest : Env := ⟨look tys, look [(33, e_shape_Inf), (43, e_shape_Width), (63, e_shape_Check), (87, e_shape_with)], look [], gl, lookL [], false⟩
theorem X_shape_Greatest.eq (a0 : Int) (a1 : Bool) (K : EV → Heap → Prop) : evFn E_shape_Greatest Tryd.f75 false [.int .u8 a0, .bool a1] [] K = shape_Greatest a0 a1 (fun y0 y1 => K (EV.agg [EV.int IntKind.u64 y0, EV.int IntKind.u64 y1]) []) := by
  have h : evFnQ E_shape_Greatest Tryd.f75 false [.int .u8 a0, .bool a1] [] K = shape_Greatest.d a0 a1 (fun y0 y1 => K (EV.agg [EV.int IntKind.u64 y0, EV.int IntKind.u64 y1]) []) := by kernel_rfl
  rw [shape_Greatest.is]; exact (evFnQ_eq _ _ _ _ _ _).symm.trans h
theorem X_shape_Greatest.ok : SoundE Tryd.prog gl 75 e_shape_Greatest := by
  refine fnOK (E := E_shape_Greatest) (fn := Tryd.f75) rfl tys_ok rfl (show AllL _ [(33, e_shape_Inf), (43, e_shape_Width), (63, e_shape_Check), (87, e_shape_with)] from ⟨X_shape_Inf.ok, X_shape_Width.ok, X_shape_Check.ok, X_shape_with.ok, trivial⟩) mixed (by kernel_rfl) (by kernel_rfl) (by kernel_rfl) 0 (by kernel_rfl) false trivial ?_
  intro args H
  by_cases hx : ∃ (a0 : Int) (a1 : Bool), args = [.int .u8 a0, .bool a1] ∧ H = []
  · obtain ⟨a0, a1, rfl, rfl⟩ := hx
    right; intro K
    exact iff_of_eq (X_shape_Greatest.eq a0 a1 K).symm
  · left; intro K h
    simp only [e_shape_Greatest] at h
    split at h
    · exact hx ⟨_, _, rfl, rfl⟩
    · exact h
noncomputable def e_round_Over : Entry := ⟨[none, none, none], false, fun args H K => match args, H with
  | [.int .u8 a0, .int .u8 a1, .bool a2], [] => round_Over a0 a1 a2 (fun y0 y1 y2 y3 => K (EV.tuple [EV.agg [EV.int IntKind.u64 y0, EV.int IntKind.u64 y1], EV.int IntKind.u8 y2, EV.int IntKind.i64 y3]) [])
  | _, _ => False⟩
noncomputable def E_round_Over : Env := ⟨look tys, look [(33, e_shape_Inf), (74, e_round_right), (75, e_shape_Greatest)], look [], gl, lookL [], false⟩
theorem X_round_Over.eq (a0 : Int) (a1 : Int) (a2 : Bool) (K : EV → Heap → Prop) : evFn E_round_Over Tryd.f25 false [.int .u8 a0, .int .u8 a1, .bool a2] [] K = round_Over a0 a1 a2 (fun y0 y1 y2 y3 => K (EV.tuple [EV.agg [EV.int IntKind.u64 y0, EV.int IntKind.u64 y1], EV.int IntKind.u8 y2, EV.int IntKind.i64 y3]) []) := by
  have h : evFnQ E_round_Over Tryd.f25 false [.int .u8 a0, .int .u8 a1, .bool a2] [] K = round_Over.d a0 a1 a2 (fun y0 y1 y2 y3 => K (EV.tuple [EV.agg [EV.int IntKind.u64 y0, EV.int IntKind.u64 y1], EV.int IntKind.u8 y2, EV.int IntKind.i64 y3]) []) := by kernel_rfl
  rw [round_Over.is]; exact (evFnQ_eq _ _ _ _ _ _).symm.trans h
theorem X_round_Over.ok : SoundE Tryd.prog gl 25 e_round_Over := by
  refine fnOK (E := E_round_Over) (fn := Tryd.f25) rfl tys_ok rfl (show AllL _ [(33, e_shape_Inf), (74, e_round_right), (75, e_shape_Greatest)] from ⟨X_shape_Inf.ok, X_round_right.ok, X_shape_Greatest.ok, trivial⟩) mixed (by kernel_rfl) (by kernel_rfl) (by kernel_rfl) 0 (by kernel_rfl) false trivial ?_
  intro args H
  by_cases hx : ∃ (a0 : Int) (a1 : Int) (a2 : Bool), args = [.int .u8 a0, .int .u8 a1, .bool a2] ∧ H = []
  · obtain ⟨a0, a1, a2, rfl, rfl⟩ := hx
    right; intro K
    exact iff_of_eq (X_round_Over.eq a0 a1 a2 K).symm
  · left; intro K h
    simp only [e_round_Over] at h
    split at h
    · exact hx ⟨_, _, _, rfl, rfl⟩
    · exact h
noncomputable def e_shape_Zero : Entry := ⟨[none, none], false, fun args H K => match args, H with
  | [.int .u8 a0, .bool a1], [] => shape_Zero a0 a1 (fun y0 y1 => K (EV.agg [EV.int IntKind.u64 y0, EV.int IntKind.u64 y1]) [])
  | _, _ => False⟩
noncomputable def E_shape_Zero : Env := ⟨look tys, look [(87, e_shape_with)], look [], gl, lookL [], false⟩
theorem X_shape_Zero.eq (a0 : Int) (a1 : Bool) (K : EV → Heap → Prop) : evFn E_shape_Zero Tryd.f36 false [.int .u8 a0, .bool a1] [] K = shape_Zero a0 a1 (fun y0 y1 => K (EV.agg [EV.int IntKind.u64 y0, EV.int IntKind.u64 y1]) []) := by
  have h : evFnQ E_shape_Zero Tryd.f36 false [.int .u8 a0, .bool a1] [] K = shape_Zero.d a0 a1 (fun y0 y1 => K (EV.agg [EV.int IntKind.u64 y0, EV.int IntKind.u64 y1]) []) := by kernel_rfl
  rw [shape_Zero.is]; exact (evFnQ_eq _ _ _ _ _ _).symm.trans h
theorem X_shape_Zero.ok : SoundE Tryd.prog gl 36 e_shape_Zero := by
  refine fnOK (E := E_shape_Zero) (fn := Tryd.f36) rfl tys_ok rfl (show AllL _ [(87, e_shape_with)] from ⟨X_shape_with.ok, trivial⟩) mixed (by kernel_rfl) (by kernel_rfl) (by kernel_rfl) 0 (by kernel_rfl) false trivial ?_
  intro args H
  by_cases hx : ∃ (a0 : Int) (a1 : Bool), args = [.int .u8 a0, .bool a1] ∧ H = []
  · obtain ⟨a0, a1, rfl, rfl⟩ := hx
    right; intro K
    exact iff_of_eq (X_shape_Zero.eq a0 a1 K).symm
  · left; intro K h
    simp only [e_shape_Zero] at h
    split at h
    · exact hx ⟨_, _, rfl, rfl⟩
    · exact h
noncomputable def e_shape_Emin : Entry := ⟨[none], false, fun args H K => match args, H with
  | [.int .u8 a0], [] => shape_Emin a0 (fun y0 => K (EV.int IntKind.i64 y0) [])
  | _, _ => False⟩
noncomputable def E_shape_Emin : Env := ⟨look tys, look [(63, e_shape_Check), (66, e_shape_Emax)], look [], gl, lookL [], false⟩
theorem X_shape_Emin.eq (a0 : Int) (K : EV → Heap → Prop) : evFn E_shape_Emin Tryd.f57 false [.int .u8 a0] [] K = shape_Emin a0 (fun y0 => K (EV.int IntKind.i64 y0) []) := by
  have h : evFnQ E_shape_Emin Tryd.f57 false [.int .u8 a0] [] K = shape_Emin.d a0 (fun y0 => K (EV.int IntKind.i64 y0) []) := by kernel_rfl
  rw [shape_Emin.is]; exact (evFnQ_eq _ _ _ _ _ _).symm.trans h
theorem X_shape_Emin.ok : SoundE Tryd.prog gl 57 e_shape_Emin := by
  refine fnOK (E := E_shape_Emin) (fn := Tryd.f57) rfl tys_ok rfl (show AllL _ [(63, e_shape_Check), (66, e_shape_Emax)] from ⟨X_shape_Check.ok, X_shape_Emax.ok, trivial⟩) mixed (by kernel_rfl) (by kernel_rfl) (by kernel_rfl) 0 (by kernel_rfl) false trivial ?_
  intro args H
  by_cases hx : ∃ (a0 : Int), args = [.int .u8 a0] ∧ H = []
  · obtain ⟨a0, rfl, rfl⟩ := hx
    right; intro K
    exact iff_of_eq (X_shape_Emin.eq a0 K).symm
  · left; intro K h
    simp only [e_shape_Emin] at h
    split at h
    · exact hx ⟨_, rfl, rfl⟩
    · exact h
noncomputable def e_bits_Len64 : Entry := ⟨[none], false, fun args H K => match args, H with
  | [.int .u64 a0], [] => bits_Len64 a0 (fun y0 => K (EV.int IntKind.i64 y0) [])
  | _, _ => False⟩
noncomputable def E_bits_Len64 : Env := ⟨look tys, look [], look [], gl, lookL [], false⟩
theorem X_bits_Len64.eq (a0 : Int) (K : EV → Heap → Prop) : evFn E_bits_Len64 Tryd.f141 false [.int .u64 a0] [] K = bits_Len64 a0 (fun y0 => K (EV.int IntKind.i64 y0) []) := by
  have h : evFnQ E_bits_Len64 Tryd.f141 false [.int .u64 a0] [] K = bits_Len64.d a0 (fun y0 => K (EV.int IntKind.i64 y0) []) := by kernel_rfl
  rw [bits_Len64.is]; exact (evFnQ_eq _ _ _ _ _ _).symm.trans h
theorem X_bits_Len64.ok : SoundE Tryd.prog gl 141 e_bits_Len64 := by
  refine fnOK (E := E_bits_Len64) (fn := Tryd.f141) rfl tys_ok rfl (show AllL _ [] from trivial) mixed (by kernel_rfl) (by kernel_rfl) (by kernel_rfl) 0 (by kernel_rfl) false trivial ?_
  intro args H
  by_cases hx : ∃ (a0 : Int), args = [.int .u64 a0] ∧ H = []
  · obtain ⟨a0, rfl, rfl⟩ := hx
    right; intro K
    exact iff_of_eq (X_bits_Len64.eq a0 K).symm
  · left; intro K h
    simp only [e_bits_Len64] at h
    split at h
    · exact hx ⟨_, rfl, rfl⟩
    · exact h
noncomputable def e_word_Len : Entry := ⟨[none], false, fun args H K => match args, H with
  | [.int .u64 a0], [] => word_Len a0 (fun y0 => K (EV.int IntKind.i64 y0) [])
  | _, _ => False⟩
noncomputable def E_word_Len : Env := ⟨look tys, look [(141, e_bits_Len64)], look [], gl, lookL [], false⟩
theorem X_word_Len.eq (a0 : Int) (K : EV → Heap → Prop) : evFn E_word_Len Tryd.f112 false [.int .u64 a0] [] K = word_Len a0 (fun y0 => K (EV.int IntKind.i64 y0) []) := by
  have h : evFnQ E_word_Len Tryd.f112 false [.int .u64 a0] [] K = word_Len.d a0 (fun y0 => K (EV.int IntKind.i64 y0) []) := by kernel_rfl
  rw [word_Len.is]; exact (evFnQ_eq _ _ _ _ _ _).symm.trans h
theorem X_word_Len.ok : SoundE Tryd.prog gl 112 e_word_Len := by
  refine fnOK (E := E_word_Len) (fn := Tryd.f112) rfl tys_ok rfl (show AllL _ [(141, e_bits_Len64)] from ⟨X_bits_Len64.ok, trivial⟩) mixed (by kernel_rfl) (by kernel_rfl) (by kernel_rfl) 0 (by kernel_rfl) false trivial ?_
  intro args H
  by_cases hx : ∃ (a0 : Int), args = [.int .u64 a0] ∧ H = []
  · obtain ⟨a0, rfl, rfl⟩ := hx
    right; intro K
    exact iff_of_eq (X_word_Len.eq a0 K).symm
  · left; intro K h
    simp only [e_word_Len] at h
    split at h
    · exact hx ⟨_, rfl, rfl⟩
    · exact h
noncomputable def e_wide_Len : Entry := ⟨[none], false, fun args H K => match args, H with
  | [.arr .u64 6 a0], [] => wide_Len a0 (fun y0 => K (EV.int IntKind.i64 y0) [])
  | _, _ => False⟩
noncomputable def E_wide_Len : Env := ⟨look tys, look [(112, e_word_Len)], look [(2, wide_Len.l2.entry)], gl, lookL [], false⟩
theorem wide_Len.l2X.stepEq (R : List EV → Heap → Prop) (K : Ex → List EV → Heap → Prop) (x0 : Int) (x1 : Nat → Int) : loopStep (evCode E_wide_Len (loopAt Tryd.f64 0) { (LV.mk 0 [(0, 0)] 4 0 false) with nx := live (.loop (loopAt Tryd.f64 0)) (LV.mk 0 [(0, 0)] 4 0 false) }) (live (.loop (loopAt Tryd.f64 0)) (LV.mk 0 [(0, 0)] 4 0 false)) (LV.mk 0 [(0, 0)] 4 0 false) 0 19 R [EV.ptr 0 [], EV.int IntKind.i64 x0] [some (EV.arr IntKind.u64 6 x1)] K = wide_Len.l2.step (fun x0 x1 => R [EV.ptr 0 [], EV.int IntKind.i64 x0] [some (EV.arr IntKind.u64 6 x1)]) (fun y0 => K .ret [EV.int IntKind.i64 y0] []) (K (.exit 0) [] []) x0 x1 := (stepQ_eq _ _ _ _ _ _ _ _ _ _ _).symm.trans (by kernel_rfl)
theorem wide_Len.l2X.eq (K : Ex → List EV → Heap → Prop) : ∀ (n : Nat) (x0 : Int) (x1 : Nat → Int), loopE E_wide_Len (loopAt Tryd.f64 0) (LV.mk 0 [(0, 0)] 4 0 false) 0 19 K n [EV.ptr 0 [], EV.int IntKind.i64 x0] [some (EV.arr IntKind.u64 6 x1)] = wide_Len.l2 (fun y0 => K .ret [EV.int IntKind.i64 y0] []) (K (.exit 0) [] []) n x0 x1
  | 0, _, _ => rfl
  | n + 1, x0, x1 => by
    have ih : (fun (x0 : Int) (x1 : Nat → Int) => loopE E_wide_Len (loopAt Tryd.f64 0) (LV.mk 0 [(0, 0)] 4 0 false) 0 19 K n [EV.ptr 0 [], EV.int IntKind.i64 x0] [some (EV.arr IntKind.u64 6 x1)]) = wide_Len.l2 (fun y0 => K .ret [EV.int IntKind.i64 y0] []) (K (.exit 0) [] []) n := by funext x0 x1; exact wide_Len.l2X.eq K n x0 x1
    show loopStep _ _ _ _ _ (loopE E_wide_Len (loopAt Tryd.f64 0) (LV.mk 0 [(0, 0)] 4 0 false) 0 19 K n) [EV.ptr 0 [], EV.int IntKind.i64 x0] [some (EV.arr IntKind.u64 6 x1)] K = wide_Len.l2.step (wide_Len.l2 (fun y0 => K .ret [EV.int IntKind.i64 y0] []) (K (.exit 0) [] []) n) (fun y0 => K .ret [EV.int IntKind.i64 y0] []) (K (.exit 0) [] []) x0 x1
    rw [← ih]
    exact wide_Len.l2X.stepEq _ K x0 x1
theorem wide_Len.l2X.ok : LoopEq E_wide_Len (loopAt Tryd.f64 0) := by
  intro L hL vs H
  have h1 : E_wide_Len.lp (firstRegion (loopAt Tryd.f64 0)) = some wide_Len.l2.entry := by kernel_rfl
  have h2 : L = wide_Len.l2.entry := Option.some.inj (hL.symm.trans h1)
  subst h2
  by_cases hx : ∃ (x0 : Int) (x1 : Nat → Int), vs = [EV.ptr 0 [], EV.int IntKind.i64 x0] ∧ H = [some (EV.arr IntKind.u64 6 x1)]
  · obtain ⟨x0, x1, rfl, rfl⟩ := hx
    right; intro K
    exact exists_congr fun n => iff_of_eq (wide_Len.l2X.eq K n x0 x1).symm
  · left; intro K h
    simp only [wide_Len.l2.entry] at h
    split at h
    · exact hx ⟨_, _, rfl, rfl⟩
    · exact h
theorem X_wide_Len.eq (a0 : Nat → Int) (K : EV → Heap → Prop) : evFn E_wide_Len Tryd.f64 false [.arr .u64 6 a0] [] K = wide_Len a0 (fun y0 => K (EV.int IntKind.i64 y0) []) := by
  have h : evFnQ E_wide_Len Tryd.f64 false [.arr .u64 6 a0] [] K = wide_Len.d a0 (fun y0 => K (EV.int IntKind.i64 y0) []) := by kernel_rfl
  rw [wide_Len.is]; exact (evFnQ_eq _ _ _ _ _ _).symm.trans h
theorem X_wide_Len.ok : SoundE Tryd.prog gl 64 e_wide_Len := by
  refine fnOK (E := E_wide_Len) (fn := Tryd.f64) rfl tys_ok rfl (show AllL _ [(112, e_word_Len)] from ⟨X_word_Len.ok, trivial⟩) mixed (by kernel_rfl) (by kernel_rfl) (by kernel_rfl) 1 (by kernel_rfl) false ⟨wide_Len.l2X.ok, trivial⟩ ?_
  intro args H
  by_cases hx : ∃ (a0 : Nat → Int), args = [.arr .u64 6 a0] ∧ H = []
  · obtain ⟨a0, rfl, rfl⟩ := hx
    right; intro K
    exact iff_of_eq (X_wide_Len.eq a0 K).symm
  · left; intro K h
    simp only [e_wide_Len] at h
    split at h
    · exact hx ⟨_, rfl, rfl⟩
    · exact h
noncomputable def e_round_Up : Entry := ⟨[none, none, none, none, none], false, fun args H K => match args, H with
  | [.int .u8 a0, .bool a1, .bool a2, .int .i64 a3, .bool a4], [] => round_Up a0 a1 a2 a3 a4 (fun y0 => K (EV.bool y0) [])
  | _, _ => False⟩
noncomputable def E_round_Up : Env := ⟨look tys, look [], look [], gl, lookL [], false⟩
theorem X_round_Up.eq (a0 : Int) (a1 : Bool) (a2 : Bool) (a3 : Int) (a4 : Bool) (K : EV → Heap → Prop) : evFn E_round_Up Tryd.f27 false [.int .u8 a0, .bool a1, .bool a2, .int .i64 a3, .bool a4] [] K = round_Up a0 a1 a2 a3 a4 (fun y0 => K (EV.bool y0) []) := by
  have h : evFnQ E_round_Up Tryd.f27 false [.int .u8 a0, .bool a1, .bool a2, .int .i64 a3, .bool a4] [] K = round_Up.d a0 a1 a2 a3 a4 (fun y0 => K (EV.bool y0) []) := by kernel_rfl
  rw [round_Up.is]; exact (evFnQ_eq _ _ _ _ _ _).symm.trans h
theorem X_round_Up.ok : SoundE Tryd.prog gl 27 e_round_Up := by
  refine fnOK (E := E_round_Up) (fn := Tryd.f27) rfl tys_ok rfl (show AllL _ [] from trivial) mixed (by kernel_rfl) (by kernel_rfl) (by kernel_rfl) 0 (by kernel_rfl) false trivial ?_
  intro args H
  by_cases hx : ∃ (a0 : Int) (a1 : Bool) (a2 : Bool) (a3 : Int) (a4 : Bool), args = [.int .u8 a0, .bool a1, .bool a2, .int .i64 a3, .bool a4] ∧ H = []
  · obtain ⟨a0, a1, a2, a3, a4, rfl, rfl⟩ := hx
    right; intro K
    exact iff_of_eq (X_round_Up.eq a0 a1 a2 a3 a4 K).symm
  · left; intro K h
    simp only [e_round_Up] at h
    split at h
    · exact hx ⟨_, _, _, _, _, rfl, rfl⟩
    · exact h
noncomputable def e_wide_count : Entry := ⟨[none], false, fun args H K => match args, H with
  | [.int .i64 a0], [] => wide_count a0 (fun y0 => K (EV.int IntKind.i64 y0) [])
  | _, _ => False⟩
noncomputable def E_wide_count : Env := ⟨look tys, look [], look [], gl, lookL [], false⟩
theorem X_wide_count.eq (a0 : Int) (K : EV → Heap → Prop) : evFn E_wide_count Tryd.f114 false [.int .i64 a0] [] K = wide_count a0 (fun y0 => K (EV.int IntKind.i64 y0) []) := by
  have h : evFnQ E_wide_count Tryd.f114 false [.int .i64 a0] [] K = wide_count.d a0 (fun y0 => K (EV.int IntKind.i64 y0) []) := by kernel_rfl
  rw [wide_count.is]; exact (evFnQ_eq _ _ _ _ _ _).symm.trans h
theorem X_wide_count.ok : SoundE Tryd.prog gl 114 e_wide_count := by
  refine fnOK (E := E_wide_count) (fn := Tryd.f114) rfl tys_ok rfl (show AllL _ [] from trivial) mixed (by kernel_rfl) (by kernel_rfl) (by kernel_rfl) 0 (by kernel_rfl) false trivial ?_
  intro args H
  by_cases hx : ∃ (a0 : Int), args = [.int .i64 a0] ∧ H = []
  · obtain ⟨a0, rfl, rfl⟩ := hx
    right; intro K
    exact iff_of_eq (X_wide_count.eq a0 K).symm
  · left; intro K h
    simp only [e_wide_count] at h
    split at h
    · exact hx ⟨_, rfl, rfl⟩
    · exact h
noncomputable def e_wide_Left : Entry := ⟨[none, none], false, fun args H K => match args, H with
  | [.arr .u64 6 a0, .int .i64 a1], [] => wide_Left a0 a1 (fun y0 y1 => K (EV.tuple [EV.arr IntKind.u64 6 y0, EV.bool y1]) [])
  | _, _ => False⟩
noncomputable def E_wide_Left : Env := ⟨look tys, look [(64, e_wide_Len), (114, e_wide_count)], look [(5, wide_Left.l5.entry)], gl, lookL [], false⟩
theorem wide_Left.l5X.stepEq (R : List EV → Heap → Prop) (K : Ex → List EV → Heap → Prop) (x0 : Bool) (x1 : Int) (x2 : Int) (x3 : Int) (x4 : Nat → Int) (x5 : Nat → Int) : loopStep (evCode E_wide_Left (loopAt Tryd.f81 0) { (LV.mk 48 [(0, 48)] 48 0 false) with nx := live (.loop (loopAt Tryd.f81 0)) (LV.mk 48 [(0, 48)] 48 0 false) }) (live (.loop (loopAt Tryd.f81 0)) (LV.mk 48 [(0, 48)] 48 0 false)) (LV.mk 48 [(0, 48)] 48 0 false) 0 59 R [EV.ptr 0 [], EV.ptr 1 [], EV.bool x0, EV.int IntKind.i64 x1, EV.int IntKind.u64 x2, EV.int IntKind.i64 x3] [some (EV.arr IntKind.u64 6 x4), some (EV.arr IntKind.u64 6 x5)] K = wide_Left.l5.step (fun x0 x1 x2 x3 x4 x5 => R [EV.ptr 0 [], EV.ptr 1 [], EV.bool x0, EV.int IntKind.i64 x1, EV.int IntKind.u64 x2, EV.int IntKind.i64 x3] [some (EV.arr IntKind.u64 6 x4), some (EV.arr IntKind.u64 6 x5)]) (fun y0 y1 => K (.exit 0) [EV.ptr 0 [], EV.bool y0] [some (EV.arr IntKind.u64 6 y1)]) x0 x1 x2 x3 x4 x5 := (stepQ_eq _ _ _ _ _ _ _ _ _ _ _).symm.trans (by kernel_rfl)
theorem wide_Left.l5X.eq (K : Ex → List EV → Heap → Prop) : ∀ (n : Nat) (x0 : Bool) (x1 : Int) (x2 : Int) (x3 : Int) (x4 : Nat → Int) (x5 : Nat → Int), loopE E_wide_Left (loopAt Tryd.f81 0) (LV.mk 48 [(0, 48)] 48 0 false) 0 59 K n [EV.ptr 0 [], EV.ptr 1 [], EV.bool x0, EV.int IntKind.i64 x1, EV.int IntKind.u64 x2, EV.int IntKind.i64 x3] [some (EV.arr IntKind.u64 6 x4), some (EV.arr IntKind.u64 6 x5)] = wide_Left.l5 (fun y0 y1 => K (.exit 0) [EV.ptr 0 [], EV.bool y0] [some (EV.arr IntKind.u64 6 y1)]) n x0 x1 x2 x3 x4 x5
  | 0, _, _, _, _, _, _ => rfl
  | n + 1, x0, x1, x2, x3, x4, x5 => by
    have ih : (fun (x0 : Bool) (x1 : Int) (x2 : Int) (x3 : Int) (x4 : Nat → Int) (x5 : Nat → Int) => loopE E_wide_Left (loopAt Tryd.f81 0) (LV.mk 48 [(0, 48)] 48 0 false) 0 59 K n [EV.ptr 0 [], EV.ptr 1 [], EV.bool x0, EV.int IntKind.i64 x1, EV.int IntKind.u64 x2, EV.int IntKind.i64 x3] [some (EV.arr IntKind.u64 6 x4), some (EV.arr IntKind.u64 6 x5)]) = wide_Left.l5 (fun y0 y1 => K (.exit 0) [EV.ptr 0 [], EV.bool y0] [some (EV.arr IntKind.u64 6 y1)]) n := by funext x0 x1 x2 x3 x4 x5; exact wide_Left.l5X.eq K n x0 x1 x2 x3 x4 x5
    show loopStep _ _ _ _ _ (loopE E_wide_Left (loopAt Tryd.f81 0) (LV.mk 48 [(0, 48)] 48 0 false) 0 59 K n) [EV.ptr 0 [], EV.ptr 1 [], EV.bool x0, EV.int IntKind.i64 x1, EV.int IntKind.u64 x2, EV.int IntKind.i64 x3] [some (EV.arr IntKind.u64 6 x4), some (EV.arr IntKind.u64 6 x5)] K = wide_Left.l5.step (wide_Left.l5 (fun y0 y1 => K (.exit 0) [EV.ptr 0 [], EV.bool y0] [some (EV.arr IntKind.u64 6 y1)]) n) (fun y0 y1 => K (.exit 0) [EV.ptr 0 [], EV.bool y0] [some (EV.arr IntKind.u64 6 y1)]) x0 x1 x2 x3 x4 x5
    rw [← ih]
    exact wide_Left.l5X.stepEq _ K x0 x1 x2 x3 x4 x5
theorem wide_Left.l5X.ok : LoopEq E_wide_Left (loopAt Tryd.f81 0) := by
  intro L hL vs H
  have h1 : E_wide_Left.lp (firstRegion (loopAt Tryd.f81 0)) = some wide_Left.l5.entry := by kernel_rfl
  have h2 : L = wide_Left.l5.entry := Option.some.inj (hL.symm.trans h1)
  subst h2
  by_cases hx : ∃ (x0 : Bool) (x1 : Int) (x2 : Int) (x3 : Int) (x4 : Nat → Int) (x5 : Nat → Int), vs = [EV.ptr 0 [], EV.ptr 1 [], EV.bool x0, EV.int IntKind.i64 x1, EV.int IntKind.u64 x2, EV.int IntKind.i64 x3] ∧ H = [some (EV.arr IntKind.u64 6 x4), some (EV.arr IntKind.u64 6 x5)]
  · obtain ⟨x0, x1, x2, x3, x4, x5, rfl, rfl⟩ := hx
    right; intro K
    exact exists_congr fun n => iff_of_eq (wide_Left.l5X.eq K n x0 x1 x2 x3 x4 x5).symm
  · left; intro K h
    simp only [wide_Left.l5.entry] at h
    split at h
    · exact hx ⟨_, _, _, _, _, _, rfl, rfl⟩
    · exact h
theorem X_wide_Left.eq (a0 : Nat → Int) (a1 : Int) (K : EV → Heap → Prop) : evFn E_wide_Left Tryd.f81 false [.arr .u64 6 a0, .int .i64 a1] [] K = wide_Left a0 a1 (fun y0 y1 => K (EV.tuple [EV.arr IntKind.u64 6 y0, EV.bool y1]) []) := by
  have h : evFnQ E_wide_Left Tryd.f81 false [.arr .u64 6 a0, .int .i64 a1] [] K = wide_Left.d a0 a1 (fun y0 y1 => K (EV.tuple [EV.arr IntKind.u64 6 y0, EV.bool y1]) []) := by kernel_rfl
  rw [wide_Left.is]; exact (evFnQ_eq _ _ _ _ _ _).symm.trans h
theorem X_wide_Left.ok : SoundE Tryd.prog gl 81 e_wide_Left := by
  refine fnOK (E := E_wide_Left) (fn := Tryd.f81) rfl tys_ok rfl (show AllL _ [(64, e_wide_Len), (114, e_wide_count)] from ⟨X_wide_Len.ok, X_wide_count.ok, trivial⟩) mixed (by kernel_rfl) (by kernel_rfl) (by kernel_rfl) 1 (by kernel_rfl) false ⟨wide_Left.l5X.ok, trivial⟩ ?_
  intro args H
  by_cases hx : ∃ (a0 : Nat → Int) (a1 : Int), args = [.arr .u64 6 a0, .int .i64 a1] ∧ H = []
  · obtain ⟨a0, a1, rfl, rfl⟩ := hx
    right; intro K
    exact iff_of_eq (X_wide_Left.eq a0 a1 K).symm
  · left; intro K h
    simp only [e_wide_Left] at h
    split at h
    · exact hx ⟨_, _, rfl, rfl⟩
    · exact h
noncomputable def e_wide_Of : Entry := ⟨[none], false, fun args H K => match args, H with
  | [.int .u64 a0], [] => wide_Of a0 (fun y0 => K (EV.arr IntKind.u64 6 y0) [])
  | _, _ => False⟩
noncomputable def E_wide_Of : Env := ⟨look tys, look [], look [], gl, lookL [], false⟩
theorem X_wide_Of.eq (a0 : Int) (K : EV → Heap → Prop) : evFn E_wide_Of Tryd.f82 false [.int .u64 a0] [] K = wide_Of a0 (fun y0 => K (EV.arr IntKind.u64 6 y0) []) := by
  have h : evFnQ E_wide_Of Tryd.f82 false [.int .u64 a0] [] K = wide_Of.d a0 (fun y0 => K (EV.arr IntKind.u64 6 y0) []) := by kernel_rfl
  rw [wide_Of.is]; exact (evFnQ_eq _ _ _ _ _ _).symm.trans h
theorem X_wide_Of.ok : SoundE Tryd.prog gl 82 e_wide_Of := by
  refine fnOK (E := E_wide_Of) (fn := Tryd.f82) rfl tys_ok rfl (show AllL _ [] from trivial) mixed (by kernel_rfl) (by kernel_rfl) (by kernel_rfl) 0 (by kernel_rfl) false trivial ?_
  intro args H
  by_cases hx : ∃ (a0 : Int), args = [.int .u64 a0] ∧ H = []
  · obtain ⟨a0, rfl, rfl⟩ := hx
    right; intro K
    exact iff_of_eq (X_wide_Of.eq a0 K).symm
  · left; intro K h
    simp only [e_wide_Of] at h
    split at h
    · exact hx ⟨_, rfl, rfl⟩
    · exact h
noncomputable def e_word_one : Entry := ⟨[none], false, fun args H K => match args, H with
  | [.bool a0], [] => word_one a0 (fun y0 => K (EV.int IntKind.u64 y0) [])
  | _, _ => False⟩
noncomputable def E_word_one : Env := ⟨look tys, look [], look [], gl, lookL [], false⟩
theorem X_word_one.eq (a0 : Bool) (K : EV → Heap → Prop) : evFn E_word_one Tryd.f143 false [.bool a0] [] K = word_one a0 (fun y0 => K (EV.int IntKind.u64 y0) []) := by
  have h : evFnQ E_word_one Tryd.f143 false [.bool a0] [] K = word_one.d a0 (fun y0 => K (EV.int IntKind.u64 y0) []) := by kernel_rfl
  rw [word_one.is]; exact (evFnQ_eq _ _ _ _ _ _).symm.trans h
theorem X_word_one.ok : SoundE Tryd.prog gl 143 e_word_one := by
  refine fnOK (E := E_word_one) (fn := Tryd.f143) rfl tys_ok rfl (show AllL _ [] from trivial) mixed (by kernel_rfl) (by kernel_rfl) (by kernel_rfl) 0 (by kernel_rfl) false trivial ?_
  intro args H
  by_cases hx : ∃ (a0 : Bool), args = [.bool a0] ∧ H = []
  · obtain ⟨a0, rfl, rfl⟩ := hx
    right; intro K
    exact iff_of_eq (X_word_one.eq a0 K).symm
  · left; intro K h
    simp only [e_word_one] at h
    split at h
    · exact hx ⟨_, rfl, rfl⟩
    · exact h
noncomputable def e_word_Add : Entry := ⟨[none, none, none], false, fun args H K => match args, H with
  | [.int .u64 a0, .int .u64 a1, .bool a2], [] => word_Add a0 a1 a2 (fun y0 y1 => K (EV.tuple [EV.int IntKind.u64 y0, EV.bool y1]) [])
  | _, _ => False⟩
noncomputable def E_word_Add : Env := ⟨look tys, look [(143, e_word_one)], look [], gl, lookL [], false⟩
theorem X_word_Add.eq (a0 : Int) (a1 : Int) (a2 : Bool) (K : EV → Heap → Prop) : evFn E_word_Add Tryd.f120 false [.int .u64 a0, .int .u64 a1, .bool a2] [] K = word_Add a0 a1 a2 (fun y0 y1 => K (EV.tuple [EV.int IntKind.u64 y0, EV.bool y1]) []) := by
  have h : evFnQ E_word_Add Tryd.f120 false [.int .u64 a0, .int .u64 a1, .bool a2] [] K = word_Add.d a0 a1 a2 (fun y0 y1 => K (EV.tuple [EV.int IntKind.u64 y0, EV.bool y1]) []) := by kernel_rfl
  rw [word_Add.is]; exact (evFnQ_eq _ _ _ _ _ _).symm.trans h
theorem X_word_Add.ok : SoundE Tryd.prog gl 120 e_word_Add := by
  refine fnOK (E := E_word_Add) (fn := Tryd.f120) rfl tys_ok rfl (show AllL _ [(143, e_word_one)] from ⟨X_word_one.ok, trivial⟩) mixed (by kernel_rfl) (by kernel_rfl) (by kernel_rfl) 0 (by kernel_rfl) false trivial ?_
  intro args H
  by_cases hx : ∃ (a0 : Int) (a1 : Int) (a2 : Bool), args = [.int .u64 a0, .int .u64 a1, .bool a2] ∧ H = []
  · obtain ⟨a0, a1, a2, rfl, rfl⟩ := hx
    right; intro K
    exact iff_of_eq (X_word_Add.eq a0 a1 a2 K).symm
  · left; intro K h
    simp only [e_word_Add] at h
    split at h
    · exact hx ⟨_, _, _, rfl, rfl⟩
    · exact h
noncomputable def e_wide_Add : Entry := ⟨[none, none], false, fun args H K => match args, H with
  | [.arr .u64 6 a0, .arr .u64 6 a1], [] => wide_Add a0 a1 (fun y0 y1 => K (EV.tuple [EV.arr IntKind.u64 6 y0, EV.bool y1]) [])
  | _, _ => False⟩
noncomputable def E_wide_Add : Env := ⟨look tys, look [(120, e_word_Add)], look [(2, wide_Add.l2.entry)], gl, lookL [], false⟩
theorem wide_Add.l2X.stepEq (R : List EV → Heap → Prop) (K : Ex → List EV → Heap → Prop) (x0 : Bool) (x1 : Int) (x2 : Nat → Int) (x3 : Nat → Int) (x4 : Nat → Int) : loopStep (evCode E_wide_Add (loopAt Tryd.f83 0) { (LV.mk 48 [(0, 48)] 48 0 false) with nx := live (.loop (loopAt Tryd.f83 0)) (LV.mk 48 [(0, 48)] 48 0 false) }) (live (.loop (loopAt Tryd.f83 0)) (LV.mk 48 [(0, 48)] 48 0 false)) (LV.mk 48 [(0, 48)] 48 0 false) 0 26 R [EV.ptr 0 [], EV.ptr 1 [], EV.ptr 2 [], EV.bool x0, EV.int IntKind.i64 x1] [some (EV.arr IntKind.u64 6 x2), some (EV.arr IntKind.u64 6 x3), some (EV.arr IntKind.u64 6 x4)] K = wide_Add.l2.step (fun x0 x1 x2 x3 x4 => R [EV.ptr 0 [], EV.ptr 1 [], EV.ptr 2 [], EV.bool x0, EV.int IntKind.i64 x1] [some (EV.arr IntKind.u64 6 x2), some (EV.arr IntKind.u64 6 x3), some (EV.arr IntKind.u64 6 x4)]) (fun y0 y1 => K (.exit 0) [EV.ptr 0 [], EV.bool y0] [some (EV.arr IntKind.u64 6 y1)]) x0 x1 x2 x3 x4 := (stepQ_eq _ _ _ _ _ _ _ _ _ _ _).symm.trans (by kernel_rfl)
theorem wide_Add.l2X.eq (K : Ex → List EV → Heap → Prop) : ∀ (n : Nat) (x0 : Bool) (x1 : Int) (x2 : Nat → Int) (x3 : Nat → Int) (x4 : Nat → Int), loopE E_wide_Add (loopAt Tryd.f83 0) (LV.mk 48 [(0, 48)] 48 0 false) 0 26 K n [EV.ptr 0 [], EV.ptr 1 [], EV.ptr 2 [], EV.bool x0, EV.int IntKind.i64 x1] [some (EV.arr IntKind.u64 6 x2), some (EV.arr IntKind.u64 6 x3), some (EV.arr IntKind.u64 6 x4)] = wide_Add.l2 (fun y0 y1 => K (.exit 0) [EV.ptr 0 [], EV.bool y0] [some (EV.arr IntKind.u64 6 y1)]) n x0 x1 x2 x3 x4
  | 0, _, _, _, _, _ => rfl
  | n + 1, x0, x1, x2, x3, x4 => by
    have ih : (fun (x0 : Bool) (x1 : Int) (x2 : Nat → Int) (x3 : Nat → Int) (x4 : Nat → Int) => loopE E_wide_Add (loopAt Tryd.f83 0) (LV.mk 48 [(0, 48)] 48 0 false) 0 26 K n [EV.ptr 0 [], EV.ptr 1 [], EV.ptr 2 [], EV.bool x0, EV.int IntKind.i64 x1] [some (EV.arr IntKind.u64 6 x2), some (EV.arr IntKind.u64 6 x3), some (EV.arr IntKind.u64 6 x4)]) = wide_Add.l2 (fun y0 y1 => K (.exit 0) [EV.ptr 0 [], EV.bool y0] [some (EV.arr IntKind.u64 6 y1)]) n := by funext x0 x1 x2 x3 x4; exact wide_Add.l2X.eq K n x0 x1 x2 x3 x4
    show loopStep _ _ _ _ _ (loopE E_wide_Add (loopAt Tryd.f83 0) (LV.mk 48 [(0, 48)] 48 0 false) 0 26 K n) [EV.ptr 0 [], EV.ptr 1 [], EV.ptr 2 [], EV.bool x0, EV.int IntKind.i64 x1] [some (EV.arr IntKind.u64 6 x2), some (EV.arr IntKind.u64 6 x3), some (EV.arr IntKind.u64 6 x4)] K = wide_Add.l2.step (wide_Add.l2 (fun y0 y1 => K (.exit 0) [EV.ptr 0 [], EV.bool y0] [some (EV.arr IntKind.u64 6 y1)]) n) (fun y0 y1 => K (.exit 0) [EV.ptr 0 [], EV.bool y0] [some (EV.arr IntKind.u64 6 y1)]) x0 x1 x2 x3 x4
    rw [← ih]
    exact wide_Add.l2X.stepEq _ K x0 x1 x2 x3 x4
theorem wide_Add.l2X.ok : LoopEq E_wide_Add (loopAt Tryd.f83 0) := by
  intro L hL vs H
  have h1 : E_wide_Add.lp (firstRegion (loopAt Tryd.f83 0)) = some wide_Add.l2.entry := by kernel_rfl
  have h2 : L = wide_Add.l2.entry := Option.some.inj (hL.symm.trans h1)
  subst h2
  by_cases hx : ∃ (x0 : Bool) (x1 : Int) (x2 : Nat → Int) (x3 : Nat → Int) (x4 : Nat → Int), vs = [EV.ptr 0 [], EV.ptr 1 [], EV.ptr 2 [], EV.bool x0, EV.int IntKind.i64 x1] ∧ H = [some (EV.arr IntKind.u64 6 x2), some (EV.arr IntKind.u64 6 x3), some (EV.arr IntKind.u64 6 x4)]
  · obtain ⟨x0, x1, x2, x3, x4, rfl, rfl⟩ := hx
    right; intro K
    exact exists_congr fun n => iff_of_eq (wide_Add.l2X.eq K n x0 x1 x2 x3 x4).symm
  · left; intro K h
    simp only [wide_Add.l2.entry] at h
    split at h
    · exact hx ⟨_, _, _, _, _, rfl, rfl⟩
    · exact h
theorem X_wide_Add.eq (a0 : Nat → Int) (a1 : Nat → Int) (K : EV → Heap → Prop) : evFn E_wide_Add Tryd.f83 false [.arr .u64 6 a0, .arr .u64 6 a1] [] K = wide_Add a0 a1 (fun y0 y1 => K (EV.tuple [EV.arr IntKind.u64 6 y0, EV.bool y1]) []) := by
  have h : evFnQ E_wide_Add Tryd.f83 false [.arr .u64 6 a0, .arr .u64 6 a1] [] K = wide_Add.d a0 a1 (fun y0 y1 => K (EV.tuple [EV.arr IntKind.u64 6 y0, EV.bool y1]) []) := by kernel_rfl
  rw [wide_Add.is]; exact (evFnQ_eq _ _ _ _ _ _).symm.trans h
theorem X_wide_Add.ok : SoundE Tryd.prog gl 83 e_wide_Add := by
  refine fnOK (E := E_wide_Add) (fn := Tryd.f83) rfl tys_ok rfl (show AllL _ [(120, e_word_Add)] from ⟨X_word_Add.ok, trivial⟩) mixed (by kernel_rfl) (by kernel_rfl) (by kernel_rfl) 1 (by kernel_rfl) false ⟨wide_Add.l2X.ok, trivial⟩ ?_
  intro args H
  by_cases hx : ∃ (a0 : Nat → Int) (a1 : Nat → Int), args = [.arr .u64 6 a0, .arr .u64 6 a1] ∧ H = []
  · obtain ⟨a0, a1, rfl, rfl⟩ := hx
    right; intro K
    exact iff_of_eq (X_wide_Add.eq a0 a1 K).symm
  · left; intro K h
    simp only [e_wide_Add] at h
    split at h
    · exact hx ⟨_, _, rfl, rfl⟩
    · exact h
noncomputable def e_wide_Bit : Entry := ⟨[none, none], false, fun args H K => match args, H with
  | [.arr .u64 6 a0, .int .i64 a1], [] => wide_Bit a0 a1 (fun y0 => K (EV.bool y0) [])
  | _, _ => False⟩
noncomputable def E_wide_Bit : Env := ⟨look tys, look [], look [], gl, lookL [], false⟩
theorem X_wide_Bit.eq (a0 : Nat → Int) (a1 : Int) (K : EV → Heap → Prop) : evFn E_wide_Bit Tryd.f41 false [.arr .u64 6 a0, .int .i64 a1] [] K = wide_Bit a0 a1 (fun y0 => K (EV.bool y0) []) := by
  have h : evFnQ E_wide_Bit Tryd.f41 false [.arr .u64 6 a0, .int .i64 a1] [] K = wide_Bit.d a0 a1 (fun y0 => K (EV.bool y0) []) := by kernel_rfl
  rw [wide_Bit.is]; exact (evFnQ_eq _ _ _ _ _ _).symm.trans h
theorem X_wide_Bit.ok : SoundE Tryd.prog gl 41 e_wide_Bit := by
  refine fnOK (E := E_wide_Bit) (fn := Tryd.f41) rfl tys_ok rfl (show AllL _ [] from trivial) mixed (by kernel_rfl) (by kernel_rfl) (by kernel_rfl) 0 (by kernel_rfl) false trivial ?_
  intro args H
  by_cases hx : ∃ (a0 : Nat → Int) (a1 : Int), args = [.arr .u64 6 a0, .int .i64 a1] ∧ H = []
  · obtain ⟨a0, a1, rfl, rfl⟩ := hx
    right; intro K
    exact iff_of_eq (X_wide_Bit.eq a0 a1 K).symm
  · left; intro K h
    simp only [e_wide_Bit] at h
    split at h
    · exact hx ⟨_, _, rfl, rfl⟩
    · exact h
noncomputable def e_wide_And : Entry := ⟨[none, none], false, fun args H K => match args, H with
  | [.arr .u64 6 a0, .arr .u64 6 a1], [] => wide_And a0 a1 (fun y0 => K (EV.arr IntKind.u64 6 y0) [])
  | _, _ => False⟩
noncomputable def E_wide_And : Env := ⟨look tys, look [], look [(2, wide_And.l2.entry)], gl, lookL [], false⟩
theorem wide_And.l2X.stepEq (R : List EV → Heap → Prop) (K : Ex → List EV → Heap → Prop) (x0 : Int) (x1 : Nat → Int) (x2 : Nat → Int) (x3 : Nat → Int) : loopStep (evCode E_wide_And (loopAt Tryd.f67 0) { (LV.mk 20 [(0, 20)] 16 0 false) with nx := live (.loop (loopAt Tryd.f67 0)) (LV.mk 20 [(0, 20)] 16 0 false) }) (live (.loop (loopAt Tryd.f67 0)) (LV.mk 20 [(0, 20)] 16 0 false)) (LV.mk 20 [(0, 20)] 16 0 false) 0 19 R [EV.ptr 0 [], EV.ptr 1 [], EV.ptr 2 [], EV.int IntKind.i64 x0] [some (EV.arr IntKind.u64 6 x1), some (EV.arr IntKind.u64 6 x2), some (EV.arr IntKind.u64 6 x3)] K = wide_And.l2.step (fun x0 x1 x2 x3 => R [EV.ptr 0 [], EV.ptr 1 [], EV.ptr 2 [], EV.int IntKind.i64 x0] [some (EV.arr IntKind.u64 6 x1), some (EV.arr IntKind.u64 6 x2), some (EV.arr IntKind.u64 6 x3)]) (fun y0 y1 => K (.exit 0) [EV.ptr 0 [], EV.ptr 1 []] [some (EV.arr IntKind.u64 6 y0), some (EV.arr IntKind.u64 6 y1)]) x0 x1 x2 x3 := (stepQ_eq _ _ _ _ _ _ _ _ _ _ _).symm.trans (by kernel_rfl)
theorem wide_And.l2X.eq (K : Ex → List EV → Heap → Prop) : ∀ (n : Nat) (x0 : Int) (x1 : Nat → Int) (x2 : Nat → Int) (x3 : Nat → Int), loopE E_wide_And (loopAt Tryd.f67 0) (LV.mk 20 [(0, 20)] 16 0 false) 0 19 K n [EV.ptr 0 [], EV.ptr 1 [], EV.ptr 2 [], EV.int IntKind.i64 x0] [some (EV.arr IntKind.u64 6 x1), some (EV.arr IntKind.u64 6 x2), some (EV.arr IntKind.u64 6 x3)] = wide_And.l2 (fun y0 y1 => K (.exit 0) [EV.ptr 0 [], EV.ptr 1 []] [some (EV.arr IntKind.u64 6 y0), some (EV.arr IntKind.u64 6 y1)]) n x0 x1 x2 x3
  | 0, _, _, _, _ => rfl
  | n + 1, x0, x1, x2, x3 => by
    have ih : (fun (x0 : Int) (x1 : Nat → Int) (x2 : Nat → Int) (x3 : Nat → Int) => loopE E_wide_And (loopAt Tryd.f67 0) (LV.mk 20 [(0, 20)] 16 0 false) 0 19 K n [EV.ptr 0 [], EV.ptr 1 [], EV.ptr 2 [], EV.int IntKind.i64 x0] [some (EV.arr IntKind.u64 6 x1), some (EV.arr IntKind.u64 6 x2), some (EV.arr IntKind.u64 6 x3)]) = wide_And.l2 (fun y0 y1 => K (.exit 0) [EV.ptr 0 [], EV.ptr 1 []] [some (EV.arr IntKind.u64 6 y0), some (EV.arr IntKind.u64 6 y1)]) n := by funext x0 x1 x2 x3; exact wide_And.l2X.eq K n x0 x1 x2 x3
    show loopStep _ _ _ _ _ (loopE E_wide_And (loopAt Tryd.f67 0) (LV.mk 20 [(0, 20)] 16 0 false) 0 19 K n) [EV.ptr 0 [], EV.ptr 1 [], EV.ptr 2 [], EV.int IntKind.i64 x0] [some (EV.arr IntKind.u64 6 x1), some (EV.arr IntKind.u64 6 x2), some (EV.arr IntKind.u64 6 x3)] K = wide_And.l2.step (wide_And.l2 (fun y0 y1 => K (.exit 0) [EV.ptr 0 [], EV.ptr 1 []] [some (EV.arr IntKind.u64 6 y0), some (EV.arr IntKind.u64 6 y1)]) n) (fun y0 y1 => K (.exit 0) [EV.ptr 0 [], EV.ptr 1 []] [some (EV.arr IntKind.u64 6 y0), some (EV.arr IntKind.u64 6 y1)]) x0 x1 x2 x3
    rw [← ih]
    exact wide_And.l2X.stepEq _ K x0 x1 x2 x3
theorem wide_And.l2X.ok : LoopEq E_wide_And (loopAt Tryd.f67 0) := by
  intro L hL vs H
  have h1 : E_wide_And.lp (firstRegion (loopAt Tryd.f67 0)) = some wide_And.l2.entry := by kernel_rfl
  have h2 : L = wide_And.l2.entry := Option.some.inj (hL.symm.trans h1)
  subst h2
  by_cases hx : ∃ (x0 : Int) (x1 : Nat → Int) (x2 : Nat → Int) (x3 : Nat → Int), vs = [EV.ptr 0 [], EV.ptr 1 [], EV.ptr 2 [], EV.int IntKind.i64 x0] ∧ H = [some (EV.arr IntKind.u64 6 x1), some (EV.arr IntKind.u64 6 x2), some (EV.arr IntKind.u64 6 x3)]
  · obtain ⟨x0, x1, x2, x3, rfl, rfl⟩ := hx
    right; intro K
    exact exists_congr fun n => iff_of_eq (wide_And.l2X.eq K n x0 x1 x2 x3).symm
  · left; intro K h
    simp only [wide_And.l2.entry] at h
    split at h
    · exact hx ⟨_, _, _, _, rfl, rfl⟩
    · exact h
theorem X_wide_And.eq (a0 : Nat → Int) (a1 : Nat → Int) (K : EV → Heap → Prop) : evFn E_wide_And Tryd.f67 false [.arr .u64 6 a0, .arr .u64 6 a1] [] K = wide_And a0 a1 (fun y0 => K (EV.arr IntKind.u64 6 y0) []) := by
  have h : evFnQ E_wide_And Tryd.f67 false [.arr .u64 6 a0, .arr .u64 6 a1] [] K = wide_And.d a0 a1 (fun y0 => K (EV.arr IntKind.u64 6 y0) []) := by kernel_rfl
  rw [wide_And.is]; exact (evFnQ_eq _ _ _ _ _ _).symm.trans h
theorem X_wide_And.ok : SoundE Tryd.prog gl 67 e_wide_And := by
  refine fnOK (E := E_wide_And) (fn := Tryd.f67) rfl tys_ok rfl (show AllL _ [] from trivial) mixed (by kernel_rfl) (by kernel_rfl) (by kernel_rfl) 1 (by kernel_rfl) false ⟨wide_And.l2X.ok, trivial⟩ ?_
  intro args H
  by_cases hx : ∃ (a0 : Nat → Int) (a1 : Nat → Int), args = [.arr .u64 6 a0, .arr .u64 6 a1] ∧ H = []
  · obtain ⟨a0, a1, rfl, rfl⟩ := hx
    right; intro K
    exact iff_of_eq (X_wide_And.eq a0 a1 K).symm
  · left; intro K h
    simp only [e_wide_And] at h
    split at h
    · exact hx ⟨_, _, rfl, rfl⟩
    · exact h
noncomputable def e_word_count : Entry := ⟨[none], false, fun args H K => match args, H with
  | [.int .i64 a0], [] => word_count a0 (fun y0 => K (EV.int IntKind.u64 y0) [])
  | _, _ => False⟩
noncomputable def E_word_count : Env := ⟨look tys, look [], look [], gl, lookL [], false⟩
theorem X_word_count.eq (a0 : Int) (K : EV → Heap → Prop) : evFn E_word_count Tryd.f142 false [.int .i64 a0] [] K = word_count a0 (fun y0 => K (EV.int IntKind.u64 y0) []) := by
  have h : evFnQ E_word_count Tryd.f142 false [.int .i64 a0] [] K = word_count.d a0 (fun y0 => K (EV.int IntKind.u64 y0) []) := by kernel_rfl
  rw [word_count.is]; exact (evFnQ_eq _ _ _ _ _ _).symm.trans h
theorem X_word_count.ok : SoundE Tryd.prog gl 142 e_word_count := by
  refine fnOK (E := E_word_count) (fn := Tryd.f142) rfl tys_ok rfl (show AllL _ [] from trivial) mixed (by kernel_rfl) (by kernel_rfl) (by kernel_rfl) 0 (by kernel_rfl) false trivial ?_
  intro args H
  by_cases hx : ∃ (a0 : Int), args = [.int .i64 a0] ∧ H = []
  · obtain ⟨a0, rfl, rfl⟩ := hx
    right; intro K
    exact iff_of_eq (X_word_count.eq a0 K).symm
  · left; intro K h
    simp only [e_word_count] at h
    split at h
    · exact hx ⟨_, rfl, rfl⟩
    · exact h
noncomputable def e_word_Mask : Entry := ⟨[none], false, fun args H K => match args, H with
  | [.int .i64 a0], [] => word_Mask a0 (fun y0 => K (EV.int IntKind.u64 y0) [])
  | _, _ => False⟩
noncomputable def E_word_Mask : Env := ⟨look tys, look [(142, e_word_count)], look [], gl, lookL [], false⟩
theorem X_word_Mask.eq (a0 : Int) (K : EV → Heap → Prop) : evFn E_word_Mask Tryd.f115 false [.int .i64 a0] [] K = word_Mask a0 (fun y0 => K (EV.int IntKind.u64 y0) []) := by
  have h : evFnQ E_word_Mask Tryd.f115 false [.int .i64 a0] [] K = word_Mask.d a0 (fun y0 => K (EV.int IntKind.u64 y0) []) := by kernel_rfl
  rw [word_Mask.is]; exact (evFnQ_eq _ _ _ _ _ _).symm.trans h
theorem X_word_Mask.ok : SoundE Tryd.prog gl 115 e_word_Mask := by
  refine fnOK (E := E_word_Mask) (fn := Tryd.f115) rfl tys_ok rfl (show AllL _ [(142, e_word_count)] from ⟨X_word_count.ok, trivial⟩) mixed (by kernel_rfl) (by kernel_rfl) (by kernel_rfl) 0 (by kernel_rfl) false trivial ?_
  intro args H
  by_cases hx : ∃ (a0 : Int), args = [.int .i64 a0] ∧ H = []
  · obtain ⟨a0, rfl, rfl⟩ := hx
    right; intro K
    exact iff_of_eq (X_word_Mask.eq a0 K).symm
  · left; intro K h
    simp only [e_word_Mask] at h
    split at h
    · exact hx ⟨_, rfl, rfl⟩
    · exact h
noncomputable def e_wide_Mask : Entry := ⟨[none], false, fun args H K => match args, H with
  | [.int .i64 a0], [] => wide_Mask a0 (fun y0 => K (EV.arr IntKind.u64 6 y0) [])
  | _, _ => False⟩
noncomputable def E_wide_Mask : Env := ⟨look tys, look [(114, e_wide_count), (115, e_word_Mask)], look [(4, wide_Mask.l4.entry)], gl, lookL [], false⟩
theorem wide_Mask.l4X.stepEq (R : List EV → Heap → Prop) (K : Ex → List EV → Heap → Prop) (x0 : Int) (x1 : Int) (x2 : Nat → Int) (x3 : Nat → Int) : loopStep (evCode E_wide_Mask (loopAt Tryd.f68 0) { (LV.mk 12 [(0, 12)] 4 0 false) with nx := live (.loop (loopAt Tryd.f68 0)) (LV.mk 12 [(0, 12)] 4 0 false) }) (live (.loop (loopAt Tryd.f68 0)) (LV.mk 12 [(0, 12)] 4 0 false)) (LV.mk 12 [(0, 12)] 4 0 false) 0 19 R [EV.int IntKind.i64 x0, EV.ptr 0 [], EV.ptr 1 [], EV.int IntKind.i64 x1] [some (EV.arr IntKind.u64 6 x2), some (EV.arr IntKind.u64 6 x3)] K = wide_Mask.l4.step (fun x0 x1 x2 x3 => R [EV.int IntKind.i64 x0, EV.ptr 0 [], EV.ptr 1 [], EV.int IntKind.i64 x1] [some (EV.arr IntKind.u64 6 x2), some (EV.arr IntKind.u64 6 x3)]) (fun y0 y1 => K (.exit 0) [EV.ptr 0 [], EV.ptr 1 []] [some (EV.arr IntKind.u64 6 y0), some (EV.arr IntKind.u64 6 y1)]) x0 x1 x2 x3 := (stepQ_eq _ _ _ _ _ _ _ _ _ _ _).symm.trans (by kernel_rfl)
theorem wide_Mask.l4X.eq (K : Ex → List EV → Heap → Prop) : ∀ (n : Nat) (x0 : Int) (x1 : Int) (x2 : Nat → Int) (x3 : Nat → Int), loopE E_wide_Mask (loopAt Tryd.f68 0) (LV.mk 12 [(0, 12)] 4 0 false) 0 19 K n [EV.int IntKind.i64 x0, EV.ptr 0 [], EV.ptr 1 [], EV.int IntKind.i64 x1] [some (EV.arr IntKind.u64 6 x2), some (EV.arr IntKind.u64 6 x3)] = wide_Mask.l4 (fun y0 y1 => K (.exit 0) [EV.ptr 0 [], EV.ptr 1 []] [some (EV.arr IntKind.u64 6 y0), some (EV.arr IntKind.u64 6 y1)]) n x0 x1 x2 x3
  | 0, _, _, _, _ => rfl
  | n + 1, x0, x1, x2, x3 => by
    have ih : (fun (x0 : Int) (x1 : Int) (x2 : Nat → Int) (x3 : Nat → Int) => loopE E_wide_Mask (loopAt Tryd.f68 0) (LV.mk 12 [(0, 12)] 4 0 false) 0 19 K n [EV.int IntKind.i64 x0, EV.ptr 0 [], EV.ptr 1 [], EV.int IntKind.i64 x1] [some (EV.arr IntKind.u64 6 x2), some (EV.arr IntKind.u64 6 x3)]) = wide_Mask.l4 (fun y0 y1 => K (.exit 0) [EV.ptr 0 [], EV.ptr 1 []] [some (EV.arr IntKind.u64 6 y0), some (EV.arr IntKind.u64 6 y1)]) n := by funext x0 x1 x2 x3; exact wide_Mask.l4X.eq K n x0 x1 x2 x3
    show loopStep _ _ _ _ _ (loopE E_wide_Mask (loopAt Tryd.f68 0) (LV.mk 12 [(0, 12)] 4 0 false) 0 19 K n) [EV.int IntKind.i64 x0, EV.ptr 0 [], EV.ptr 1 [], EV.int IntKind.i64 x1] [some (EV.arr IntKind.u64 6 x2), some (EV.arr IntKind.u64 6 x3)] K = wide_Mask.l4.step (wide_Mask.l4 (fun y0 y1 => K (.exit 0) [EV.ptr 0 [], EV.ptr 1 []] [some (EV.arr IntKind.u64 6 y0), some (EV.arr IntKind.u64 6 y1)]) n) (fun y0 y1 => K (.exit 0) [EV.ptr 0 [], EV.ptr 1 []] [some (EV.arr IntKind.u64 6 y0), some (EV.arr IntKind.u64 6 y1)]) x0 x1 x2 x3
    rw [← ih]
    exact wide_Mask.l4X.stepEq _ K x0 x1 x2 x3
theorem wide_Mask.l4X.ok : LoopEq E_wide_Mask (loopAt Tryd.f68 0) := by
  intro L hL vs H
  have h1 : E_wide_Mask.lp (firstRegion (loopAt Tryd.f68 0)) = some wide_Mask.l4.entry := by kernel_rfl
  have h2 : L = wide_Mask.l4.entry := Option.some.inj (hL.symm.trans h1)
  subst h2
  by_cases hx : ∃ (x0 : Int) (x1 : Int) (x2 : Nat → Int) (x3 : Nat → Int), vs = [EV.int IntKind.i64 x0, EV.ptr 0 [], EV.ptr 1 [], EV.int IntKind.i64 x1] ∧ H = [some (EV.arr IntKind.u64 6 x2), some (EV.arr IntKind.u64 6 x3)]
  · obtain ⟨x0, x1, x2, x3, rfl, rfl⟩ := hx
    right; intro K
    exact exists_congr fun n => iff_of_eq (wide_Mask.l4X.eq K n x0 x1 x2 x3).symm
  · left; intro K h
    simp only [wide_Mask.l4.entry] at h
    split at h
    · exact hx ⟨_, _, _, _, rfl, rfl⟩
    · exact h
theorem X_wide_Mask.eq (a0 : Int) (K : EV → Heap → Prop) : evFn E_wide_Mask Tryd.f68 false [.int .i64 a0] [] K = wide_Mask a0 (fun y0 => K (EV.arr IntKind.u64 6 y0) []) := by
  have h : evFnQ E_wide_Mask Tryd.f68 false [.int .i64 a0] [] K = wide_Mask.d a0 (fun y0 => K (EV.arr IntKind.u64 6 y0) []) := by kernel_rfl
  rw [wide_Mask.is]; exact (evFnQ_eq _ _ _ _ _ _).symm.trans h
theorem X_wide_Mask.ok : SoundE Tryd.prog gl 68 e_wide_Mask := by
  refine fnOK (E := E_wide_Mask) (fn := Tryd.f68) rfl tys_ok rfl (show AllL _ [(114, e_wide_count), (115, e_word_Mask)] from ⟨X_wide_count.ok, X_word_Mask.ok, trivial⟩) mixed (by kernel_rfl) (by kernel_rfl) (by kernel_rfl) 1 (by kernel_rfl) false ⟨wide_Mask.l4X.ok, trivial⟩ ?_
  intro args H
  by_cases hx : ∃ (a0 : Int), args = [.int .i64 a0] ∧ H = []
  · obtain ⟨a0, rfl, rfl⟩ := hx
    right; intro K
    exact iff_of_eq (X_wide_Mask.eq a0 K).symm
  · left; intro K h
    simp only [e_wide_Mask] at h
    split at h
    · exact hx ⟨_, rfl, rfl⟩
    · exact h
noncomputable def e_bits_TrailingZeros64 : Entry := ⟨[none], false, fun args H K => match args, H with
  | [.int .u64 a0], [] => bits_TrailingZeros64 a0 (fun y0 => K (EV.int IntKind.i64 y0) [])
  | _, _ => False⟩
noncomputable def E_bits_TrailingZeros64 : Env := ⟨look tys, look [], look [], gl, lookL [], false⟩
theorem X_bits_TrailingZeros64.eq (a0 : Int) (K : EV → Heap → Prop) : evFn E_bits_TrailingZeros64 Tryd.f149 false [.int .u64 a0] [] K = bits_TrailingZeros64 a0 (fun y0 => K (EV.int IntKind.i64 y0) []) := by
  have h : evFnQ E_bits_TrailingZeros64 Tryd.f149 false [.int .u64 a0] [] K = bits_TrailingZeros64.d a0 (fun y0 => K (EV.int IntKind.i64 y0) []) := by kernel_rfl
  rw [bits_TrailingZeros64.is]; exact (evFnQ_eq _ _ _ _ _ _).symm.trans h
theorem X_bits_TrailingZeros64.ok : SoundE Tryd.prog gl 149 e_bits_TrailingZeros64 := by
  refine fnOK (E := E_bits_TrailingZeros64) (fn := Tryd.f149) rfl tys_ok rfl (show AllL _ [] from trivial) mixed (by kernel_rfl) (by kernel_rfl) (by kernel_rfl) 0 (by kernel_rfl) false trivial ?_
  intro args H
  by_cases hx : ∃ (a0 : Int), args = [.int .u64 a0] ∧ H = []
  · obtain ⟨a0, rfl, rfl⟩ := hx
    right; intro K
    exact iff_of_eq (X_bits_TrailingZeros64.eq a0 K).symm
  · left; intro K h
    simp only [e_bits_TrailingZeros64] at h
    split at h
    · exact hx ⟨_, rfl, rfl⟩
    · exact h
noncomputable def e_word_Low : Entry := ⟨[none], false, fun args H K => match args, H with
  | [.int .u64 a0], [] => word_Low a0 (fun y0 => K (EV.int IntKind.i64 y0) [])
  | _, _ => False⟩
noncomputable def E_word_Low : Env := ⟨look tys, look [(149, e_bits_TrailingZeros64)], look [], gl, lookL [], false⟩
theorem X_word_Low.eq (a0 : Int) (K : EV → Heap → Prop) : evFn E_word_Low Tryd.f144 false [.int .u64 a0] [] K = word_Low a0 (fun y0 => K (EV.int IntKind.i64 y0) []) := by
  have h : evFnQ E_word_Low Tryd.f144 false [.int .u64 a0] [] K = word_Low.d a0 (fun y0 => K (EV.int IntKind.i64 y0) []) := by kernel_rfl
  rw [word_Low.is]; exact (evFnQ_eq _ _ _ _ _ _).symm.trans h
theorem X_word_Low.ok : SoundE Tryd.prog gl 144 e_word_Low := by
  refine fnOK (E := E_word_Low) (fn := Tryd.f144) rfl tys_ok rfl (show AllL _ [(149, e_bits_TrailingZeros64)] from ⟨X_bits_TrailingZeros64.ok, trivial⟩) mixed (by kernel_rfl) (by kernel_rfl) (by kernel_rfl) 0 (by kernel_rfl) false trivial ?_
  intro args H
  by_cases hx : ∃ (a0 : Int), args = [.int .u64 a0] ∧ H = []
  · obtain ⟨a0, rfl, rfl⟩ := hx
    right; intro K
    exact iff_of_eq (X_word_Low.eq a0 K).symm
  · left; intro K h
    simp only [e_word_Low] at h
    split at h
    · exact hx ⟨_, rfl, rfl⟩
    · exact h
noncomputable def e_wide_Low : Entry := ⟨[none], false, fun args H K => match args, H with
  | [.arr .u64 6 a0], [] => wide_Low a0 (fun y0 => K (EV.int IntKind.i64 y0) [])
  | _, _ => False⟩
noncomputable def E_wide_Low : Env := ⟨look tys, look [(144, e_word_Low)], look [(2, wide_Low.l2.entry)], gl, lookL [], false⟩
theorem wide_Low.l2X.stepEq (R : List EV → Heap → Prop) (K : Ex → List EV → Heap → Prop) (x0 : Nat → Int) (x1 : Int) : loopStep (evCode E_wide_Low (loopAt Tryd.f140 0) { (LV.mk 0 [(0, 0)] 4 0 false) with nx := live (.loop (loopAt Tryd.f140 0)) (LV.mk 0 [(0, 0)] 4 0 false) }) (live (.loop (loopAt Tryd.f140 0)) (LV.mk 0 [(0, 0)] 4 0 false)) (LV.mk 0 [(0, 0)] 4 0 false) 0 18 R [EV.arr IntKind.u64 6 x0, EV.int IntKind.i64 x1] [] K = wide_Low.l2.step (fun x0 x1 => R [EV.arr IntKind.u64 6 x0, EV.int IntKind.i64 x1] []) (fun y0 => K .ret [EV.int IntKind.i64 y0] []) (K (.exit 0) [] []) x0 x1 := (stepQ_eq _ _ _ _ _ _ _ _ _ _ _).symm.trans (by kernel_rfl)
theorem wide_Low.l2X.eq (K : Ex → List EV → Heap → Prop) : ∀ (n : Nat) (x0 : Nat → Int) (x1 : Int), loopE E_wide_Low (loopAt Tryd.f140 0) (LV.mk 0 [(0, 0)] 4 0 false) 0 18 K n [EV.arr IntKind.u64 6 x0, EV.int IntKind.i64 x1] [] = wide_Low.l2 (fun y0 => K .ret [EV.int IntKind.i64 y0] []) (K (.exit 0) [] []) n x0 x1
  | 0, _, _ => rfl
  | n + 1, x0, x1 => by
    have ih : (fun (x0 : Nat → Int) (x1 : Int) => loopE E_wide_Low (loopAt Tryd.f140 0) (LV.mk 0 [(0, 0)] 4 0 false) 0 18 K n [EV.arr IntKind.u64 6 x0, EV.int IntKind.i64 x1] []) = wide_Low.l2 (fun y0 => K .ret [EV.int IntKind.i64 y0] []) (K (.exit 0) [] []) n := by funext x0 x1; exact wide_Low.l2X.eq K n x0 x1
    show loopStep _ _ _ _ _ (loopE E_wide_Low (loopAt Tryd.f140 0) (LV.mk 0 [(0, 0)] 4 0 false) 0 18 K n) [EV.arr IntKind.u64 6 x0, EV.int IntKind.i64 x1] [] K = wide_Low.l2.step (wide_Low.l2 (fun y0 => K .ret [EV.int IntKind.i64 y0] []) (K (.exit 0) [] []) n) (fun y0 => K .ret [EV.int IntKind.i64 y0] []) (K (.exit 0) [] []) x0 x1
    rw [← ih]
    exact wide_Low.l2X.stepEq _ K x0 x1
theorem wide_Low.l2X.ok : LoopEq E_wide_Low (loopAt Tryd.f140 0) := by
  intro L hL vs H
  have h1 : E_wide_Low.lp (firstRegion (loopAt Tryd.f140 0)) = some wide_Low.l2.entry := by kernel_rfl
  have h2 : L = wide_Low.l2.entry := Option.some.inj (hL.symm.trans h1)
  subst h2
  by_cases hx : ∃ (x0 : Nat → Int) (x1 : Int), vs = [EV.arr IntKind.u64 6 x0, EV.int IntKind.i64 x1] ∧ H = []
  · obtain ⟨x0, x1, rfl, rfl⟩ := hx
    right; intro K
    exact exists_congr fun n => iff_of_eq (wide_Low.l2X.eq K n x0 x1).symm
  · left; intro K h
    simp only [wide_Low.l2.entry] at h
    split at h
    · exact hx ⟨_, _, rfl, rfl⟩
    · exact h
theorem X_wide_Low.eq (a0 : Nat → Int) (K : EV → Heap → Prop) : evFn E_wide_Low Tryd.f140 false [.arr .u64 6 a0] [] K = wide_Low a0 (fun y0 => K (EV.int IntKind.i64 y0) []) := by
  have h : evFnQ E_wide_Low Tryd.f140 false [.arr .u64 6 a0] [] K = wide_Low.d a0 (fun y0 => K (EV.int IntKind.i64 y0) []) := by kernel_rfl
  rw [wide_Low.is]; exact (evFnQ_eq _ _ _ _ _ _).symm.trans h
theorem X_wide_Low.ok : SoundE Tryd.prog gl 140 e_wide_Low := by
  refine fnOK (E := E_wide_Low) (fn := Tryd.f140) rfl tys_ok rfl (show AllL _ [(144, e_word_Low)] from ⟨X_word_Low.ok, trivial⟩) mixed (by kernel_rfl) (by kernel_rfl) (by kernel_rfl) 1 (by kernel_rfl) false ⟨wide_Low.l2X.ok, trivial⟩ ?_
  intro args H
  by_cases hx : ∃ (a0 : Nat → Int), args = [.arr .u64 6 a0] ∧ H = []
  · obtain ⟨a0, rfl, rfl⟩ := hx
    right; intro K
    exact iff_of_eq (X_wide_Low.eq a0 K).symm
  · left; intro K h
    simp only [e_wide_Low] at h
    split at h
    · exact hx ⟨_, rfl, rfl⟩
    · exact h
noncomputable def e_wide_Right : Entry := ⟨[none, none], false, fun args H K => match args, H with
  | [.arr .u64 6 a0, .int .i64 a1], [] => wide_Right a0 a1 (fun y0 y1 => K (EV.tuple [EV.arr IntKind.u64 6 y0, EV.bool y1]) [])
  | _, _ => False⟩
noncomputable def E_wide_Right : Env := ⟨look tys, look [(114, e_wide_count), (140, e_wide_Low)], look [(5, wide_Right.l5.entry)], gl, lookL [], false⟩
theorem wide_Right.l5X.stepEq (R : List EV → Heap → Prop) (K : Ex → List EV → Heap → Prop) (x0 : Bool) (x1 : Int) (x2 : Int) (x3 : Int) (x4 : Nat → Int) (x5 : Nat → Int) : loopStep (evCode E_wide_Right (loopAt Tryd.f109 0) { (LV.mk 48 [(0, 48)] 48 0 false) with nx := live (.loop (loopAt Tryd.f109 0)) (LV.mk 48 [(0, 48)] 48 0 false) }) (live (.loop (loopAt Tryd.f109 0)) (LV.mk 48 [(0, 48)] 48 0 false)) (LV.mk 48 [(0, 48)] 48 0 false) 0 60 R [EV.ptr 0 [], EV.ptr 1 [], EV.bool x0, EV.int IntKind.i64 x1, EV.int IntKind.u64 x2, EV.int IntKind.i64 x3] [some (EV.arr IntKind.u64 6 x4), some (EV.arr IntKind.u64 6 x5)] K = wide_Right.l5.step (fun x0 x1 x2 x3 x4 x5 => R [EV.ptr 0 [], EV.ptr 1 [], EV.bool x0, EV.int IntKind.i64 x1, EV.int IntKind.u64 x2, EV.int IntKind.i64 x3] [some (EV.arr IntKind.u64 6 x4), some (EV.arr IntKind.u64 6 x5)]) (fun y0 y1 => K (.exit 0) [EV.ptr 0 [], EV.bool y0] [some (EV.arr IntKind.u64 6 y1)]) x0 x1 x2 x3 x4 x5 := (stepQ_eq _ _ _ _ _ _ _ _ _ _ _).symm.trans (by kernel_rfl)
theorem wide_Right.l5X.eq (K : Ex → List EV → Heap → Prop) : ∀ (n : Nat) (x0 : Bool) (x1 : Int) (x2 : Int) (x3 : Int) (x4 : Nat → Int) (x5 : Nat → Int), loopE E_wide_Right (loopAt Tryd.f109 0) (LV.mk 48 [(0, 48)] 48 0 false) 0 60 K n [EV.ptr 0 [], EV.ptr 1 [], EV.bool x0, EV.int IntKind.i64 x1, EV.int IntKind.u64 x2, EV.int IntKind.i64 x3] [some (EV.arr IntKind.u64 6 x4), some (EV.arr IntKind.u64 6 x5)] = wide_Right.l5 (fun y0 y1 => K (.exit 0) [EV.ptr 0 [], EV.bool y0] [some (EV.arr IntKind.u64 6 y1)]) n x0 x1 x2 x3 x4 x5
  | 0, _, _, _, _, _, _ => rfl
  | n + 1, x0, x1, x2, x3, x4, x5 => by
    have ih : (fun (x0 : Bool) (x1 : Int) (x2 : Int) (x3 : Int) (x4 : Nat → Int) (x5 : Nat → Int) => loopE E_wide_Right (loopAt Tryd.f109 0) (LV.mk 48 [(0, 48)] 48 0 false) 0 60 K n [EV.ptr 0 [], EV.ptr 1 [], EV.bool x0, EV.int IntKind.i64 x1, EV.int IntKind.u64 x2, EV.int IntKind.i64 x3] [some (EV.arr IntKind.u64 6 x4), some (EV.arr IntKind.u64 6 x5)]) = wide_Right.l5 (fun y0 y1 => K (.exit 0) [EV.ptr 0 [], EV.bool y0] [some (EV.arr IntKind.u64 6 y1)]) n := by funext x0 x1 x2 x3 x4 x5; exact wide_Right.l5X.eq K n x0 x1 x2 x3 x4 x5
    show loopStep _ _ _ _ _ (loopE E_wide_Right (loopAt Tryd.f109 0) (LV.mk 48 [(0, 48)] 48 0 false) 0 60 K n) [EV.ptr 0 [], EV.ptr 1 [], EV.bool x0, EV.int IntKind.i64 x1, EV.int IntKind.u64 x2, EV.int IntKind.i64 x3] [some (EV.arr IntKind.u64 6 x4), some (EV.arr IntKind.u64 6 x5)] K = wide_Right.l5.step (wide_Right.l5 (fun y0 y1 => K (.exit 0) [EV.ptr 0 [], EV.bool y0] [some (EV.arr IntKind.u64 6 y1)]) n) (fun y0 y1 => K (.exit 0) [EV.ptr 0 [], EV.bool y0] [some (EV.arr IntKind.u64 6 y1)]) x0 x1 x2 x3 x4 x5
    rw [← ih]
    exact wide_Right.l5X.stepEq _ K x0 x1 x2 x3 x4 x5
theorem wide_Right.l5X.ok : LoopEq E_wide_Right (loopAt Tryd.f109 0) := by
  intro L hL vs H
  have h1 : E_wide_Right.lp (firstRegion (loopAt Tryd.f109 0)) = some wide_Right.l5.entry := by kernel_rfl
  have h2 : L = wide_Right.l5.entry := Option.some.inj (hL.symm.trans h1)
  subst h2
  by_cases hx : ∃ (x0 : Bool) (x1 : Int) (x2 : Int) (x3 : Int) (x4 : Nat → Int) (x5 : Nat → Int), vs = [EV.ptr 0 [], EV.ptr 1 [], EV.bool x0, EV.int IntKind.i64 x1, EV.int IntKind.u64 x2, EV.int IntKind.i64 x3] ∧ H = [some (EV.arr IntKind.u64 6 x4), some (EV.arr IntKind.u64 6 x5)]
  · obtain ⟨x0, x1, x2, x3, x4, x5, rfl, rfl⟩ := hx
    right; intro K
    exact exists_congr fun n => iff_of_eq (wide_Right.l5X.eq K n x0 x1 x2 x3 x4 x5).symm
  · left; intro K h
    simp only [wide_Right.l5.entry] at h
    split at h
    · exact hx ⟨_, _, _, _, _, _, rfl, rfl⟩
    · exact h
theorem X_wide_Right.eq (a0 : Nat → Int) (a1 : Int) (K : EV → Heap → Prop) : evFn E_wide_Right Tryd.f109 false [.arr .u64 6 a0, .int .i64 a1] [] K = wide_Right a0 a1 (fun y0 y1 => K (EV.tuple [EV.arr IntKind.u64 6 y0, EV.bool y1]) []) := by
  have h : evFnQ E_wide_Right Tryd.f109 false [.arr .u64 6 a0, .int .i64 a1] [] K = wide_Right.d a0 a1 (fun y0 y1 => K (EV.tuple [EV.arr IntKind.u64 6 y0, EV.bool y1]) []) := by kernel_rfl
  rw [wide_Right.is]; exact (evFnQ_eq _ _ _ _ _ _).symm.trans h
theorem X_wide_Right.ok : SoundE Tryd.prog gl 109 e_wide_Right := by
  refine fnOK (E := E_wide_Right) (fn := Tryd.f109) rfl tys_ok rfl (show AllL _ [(114, e_wide_count), (140, e_wide_Low)] from ⟨X_wide_count.ok, X_wide_Low.ok, trivial⟩) mixed (by kernel_rfl) (by kernel_rfl) (by kernel_rfl) 1 (by kernel_rfl) false ⟨wide_Right.l5X.ok, trivial⟩ ?_
  intro args H
  by_cases hx : ∃ (a0 : Nat → Int) (a1 : Int), args = [.arr .u64 6 a0, .int .i64 a1] ∧ H = []
  · obtain ⟨a0, a1, rfl, rfl⟩ := hx
    right; intro K
    exact iff_of_eq (X_wide_Right.eq a0 a1 K).symm
  · left; intro K h
    simp only [e_wide_Right] at h
    split at h
    · exact hx ⟨_, _, rfl, rfl⟩
    · exact h
noncomputable def e_jam_Cut : Entry := ⟨[none, none], false, fun args H K => match args, H with
  | [.arr .u64 6 a0, .int .i64 a1], [] => jam_Cut a0 a1 (fun y0 y1 y2 => K (EV.tuple [EV.arr IntKind.u64 6 y0, EV.int IntKind.i64 y1, EV.bool y2]) [])
  | _, _ => False⟩
noncomputable def E_jam_Cut : Env := ⟨look tys, look [(41, e_wide_Bit), (67, e_wide_And), (68, e_wide_Mask), (109, e_wide_Right)], look [], gl, lookL [], false⟩
theorem X_jam_Cut.eq (a0 : Nat → Int) (a1 : Int) (K : EV → Heap → Prop) : evFn E_jam_Cut Tryd.f119 false [.arr .u64 6 a0, .int .i64 a1] [] K = jam_Cut a0 a1 (fun y0 y1 y2 => K (EV.tuple [EV.arr IntKind.u64 6 y0, EV.int IntKind.i64 y1, EV.bool y2]) []) := by
  have h : evFnQ E_jam_Cut Tryd.f119 false [.arr .u64 6 a0, .int .i64 a1] [] K = jam_Cut.d a0 a1 (fun y0 y1 y2 => K (EV.tuple [EV.arr IntKind.u64 6 y0, EV.int IntKind.i64 y1, EV.bool y2]) []) := by kernel_rfl
  rw [jam_Cut.is]; exact (evFnQ_eq _ _ _ _ _ _).symm.trans h
theorem X_jam_Cut.ok : SoundE Tryd.prog gl 119 e_jam_Cut := by
  refine fnOK (E := E_jam_Cut) (fn := Tryd.f119) rfl tys_ok rfl (show AllL _ [(41, e_wide_Bit), (67, e_wide_And), (68, e_wide_Mask), (109, e_wide_Right)] from ⟨X_wide_Bit.ok, X_wide_And.ok, X_wide_Mask.ok, X_wide_Right.ok, trivial⟩) mixed (by kernel_rfl) (by kernel_rfl) (by kernel_rfl) 0 (by kernel_rfl) false trivial ?_
  intro args H
  by_cases hx : ∃ (a0 : Nat → Int) (a1 : Int), args = [.arr .u64 6 a0, .int .i64 a1] ∧ H = []
  · obtain ⟨a0, a1, rfl, rfl⟩ := hx
    right; intro K
    exact iff_of_eq (X_jam_Cut.eq a0 a1 K).symm
  · left; intro K h
    simp only [e_jam_Cut] at h
    split at h
    · exact hx ⟨_, _, rfl, rfl⟩
    · exact h
noncomputable def e_round_grid : Entry := ⟨[none, none, none], false, fun args H K => match args, H with
  | [.int .u8 a0, .agg [.bool a1_0, .arr .u64 6 a1_1, .int .i64 a1_2, .bool a1_3], .int .i64 a2], [] => round_grid a0 a1_0 a1_1 a1_2 a1_3 a2 (fun y0 y1 => K (EV.tuple [EV.arr IntKind.u64 6 y0, EV.bool y1]) [])
  | _, _ => False⟩
noncomputable def E_round_grid : Env := ⟨look tys, look [(27, e_round_Up), (81, e_wide_Left), (82, e_wide_Of), (83, e_wide_Add), (119, e_jam_Cut)], look [], gl, lookL [], false⟩
theorem X_round_grid.eq (a0 : Int) (a1_0 : Bool) (a1_1 : Nat → Int) (a1_2 : Int) (a1_3 : Bool) (a2 : Int) (K : EV → Heap → Prop) : evFn E_round_grid Tryd.f79 false [.int .u8 a0, .agg [.bool a1_0, .arr .u64 6 a1_1, .int .i64 a1_2, .bool a1_3], .int .i64 a2] [] K = round_grid a0 a1_0 a1_1 a1_2 a1_3 a2 (fun y0 y1 => K (EV.tuple [EV.arr IntKind.u64 6 y0, EV.bool y1]) []) := by
  have h : evFnQ E_round_grid Tryd.f79 false [.int .u8 a0, .agg [.bool a1_0, .arr .u64 6 a1_1, .int .i64 a1_2, .bool a1_3], .int .i64 a2] [] K = round_grid.d a0 a1_0 a1_1 a1_2 a1_3 a2 (fun y0 y1 => K (EV.tuple [EV.arr IntKind.u64 6 y0, EV.bool y1]) []) := by kernel_rfl
  rw [round_grid.is]; exact (evFnQ_eq _ _ _ _ _ _).symm.trans h
theorem X_round_grid.ok : SoundE Tryd.prog gl 79 e_round_grid := by
  refine fnOK (E := E_round_grid) (fn := Tryd.f79) rfl tys_ok rfl (show AllL _ [(27, e_round_Up), (81, e_wide_Left), (82, e_wide_Of), (83, e_wide_Add), (119, e_jam_Cut)] from ⟨X_round_Up.ok, X_wide_Left.ok, X_wide_Of.ok, X_wide_Add.ok, X_jam_Cut.ok, trivial⟩) mixed (by kernel_rfl) (by kernel_rfl) (by kernel_rfl) 0 (by kernel_rfl) false trivial ?_
  intro args H
  by_cases hx : ∃ (a0 : Int) (a1_0 : Bool) (a1_1 : Nat → Int) (a1_2 : Int) (a1_3 : Bool) (a2 : Int), args = [.int .u8 a0, .agg [.bool a1_0, .arr .u64 6 a1_1, .int .i64 a1_2, .bool a1_3], .int .i64 a2] ∧ H = []
  · obtain ⟨a0, a1_0, a1_1, a1_2, a1_3, a2, rfl, rfl⟩ := hx
    right; intro K
    exact iff_of_eq (X_round_grid.eq a0 a1_0 a1_1 a1_2 a1_3 a2 K).symm
  · left; intro K h
    simp only [e_round_grid] at h
    split at h
    · exact hx ⟨_, _, _, _, _, _, rfl, rfl⟩
    · exact h
noncomputable def e_round_tiny : Entry := ⟨[none, none, none, none], false, fun args H K => match args, H with
  | [.int .u8 a0, .int .u8 a1, .agg [.bool a2_0, .arr .u64 6 a2_1, .int .i64 a2_2, .bool a2_3], .int .i64 a3], [] => round_tiny a0 a1 a2_0 a2_1 a2_2 a2_3 a3 (fun y0 => K (EV.bool y0) [])
  | _, _ => False⟩
noncomputable def E_round_tiny : Env := ⟨look tys, look [(55, e_shape_Precision), (57, e_shape_Emin), (64, e_wide_Len), (79, e_round_grid)], look [], gl, lookL [], false⟩
theorem X_round_tiny.eq (a0 : Int) (a1 : Int) (a2_0 : Bool) (a2_1 : Nat → Int) (a2_2 : Int) (a2_3 : Bool) (a3 : Int) (K : EV → Heap → Prop) : evFn E_round_tiny Tryd.f80 false [.int .u8 a0, .int .u8 a1, .agg [.bool a2_0, .arr .u64 6 a2_1, .int .i64 a2_2, .bool a2_3], .int .i64 a3] [] K = round_tiny a0 a1 a2_0 a2_1 a2_2 a2_3 a3 (fun y0 => K (EV.bool y0) []) := by
  have h : evFnQ E_round_tiny Tryd.f80 false [.int .u8 a0, .int .u8 a1, .agg [.bool a2_0, .arr .u64 6 a2_1, .int .i64 a2_2, .bool a2_3], .int .i64 a3] [] K = round_tiny.d a0 a1 a2_0 a2_1 a2_2 a2_3 a3 (fun y0 => K (EV.bool y0) []) := by kernel_rfl
  rw [round_tiny.is]; exact (evFnQ_eq _ _ _ _ _ _).symm.trans h
theorem X_round_tiny.ok : SoundE Tryd.prog gl 80 e_round_tiny := by
  refine fnOK (E := E_round_tiny) (fn := Tryd.f80) rfl tys_ok rfl (show AllL _ [(55, e_shape_Precision), (57, e_shape_Emin), (64, e_wide_Len), (79, e_round_grid)] from ⟨X_shape_Precision.ok, X_shape_Emin.ok, X_wide_Len.ok, X_round_grid.ok, trivial⟩) mixed (by kernel_rfl) (by kernel_rfl) (by kernel_rfl) 0 (by kernel_rfl) false trivial ?_
  intro args H
  by_cases hx : ∃ (a0 : Int) (a1 : Int) (a2_0 : Bool) (a2_1 : Nat → Int) (a2_2 : Int) (a2_3 : Bool) (a3 : Int), args = [.int .u8 a0, .int .u8 a1, .agg [.bool a2_0, .arr .u64 6 a2_1, .int .i64 a2_2, .bool a2_3], .int .i64 a3] ∧ H = []
  · obtain ⟨a0, a1, a2_0, a2_1, a2_2, a2_3, a3, rfl, rfl⟩ := hx
    right; intro K
    exact iff_of_eq (X_round_tiny.eq a0 a1 a2_0 a2_1 a2_2 a2_3 a3 K).symm
  · left; intro K h
    simp only [e_round_tiny] at h
    split at h
    · exact hx ⟨_, _, _, _, _, _, _, rfl, rfl⟩
    · exact h
noncomputable def e_wide_ToBits : Entry := ⟨[none], false, fun args H K => match args, H with
  | [.arr .u64 6 a0], [] => wide_ToBits a0 (fun y0 y1 y2 => K (EV.tuple [EV.agg [EV.int IntKind.u64 y0, EV.int IntKind.u64 y1], EV.bool y2]) [])
  | _, _ => False⟩
noncomputable def E_wide_ToBits : Env := ⟨look tys, look [], look [], gl, lookL [], false⟩
theorem X_wide_ToBits.eq (a0 : Nat → Int) (K : EV → Heap → Prop) : evFn E_wide_ToBits Tryd.f84 false [.arr .u64 6 a0] [] K = wide_ToBits a0 (fun y0 y1 y2 => K (EV.tuple [EV.agg [EV.int IntKind.u64 y0, EV.int IntKind.u64 y1], EV.bool y2]) []) := by
  have h : evFnQ E_wide_ToBits Tryd.f84 false [.arr .u64 6 a0] [] K = wide_ToBits.d a0 (fun y0 y1 y2 => K (EV.tuple [EV.agg [EV.int IntKind.u64 y0, EV.int IntKind.u64 y1], EV.bool y2]) []) := by kernel_rfl
  rw [wide_ToBits.is]; exact (evFnQ_eq _ _ _ _ _ _).symm.trans h
theorem X_wide_ToBits.ok : SoundE Tryd.prog gl 84 e_wide_ToBits := by
  refine fnOK (E := E_wide_ToBits) (fn := Tryd.f84) rfl tys_ok rfl (show AllL _ [] from trivial) mixed (by kernel_rfl) (by kernel_rfl) (by kernel_rfl) 0 (by kernel_rfl) false trivial ?_
  intro args H
  by_cases hx : ∃ (a0 : Nat → Int), args = [.arr .u64 6 a0] ∧ H = []
  · obtain ⟨a0, rfl, rfl⟩ := hx
    right; intro K
    exact iff_of_eq (X_wide_ToBits.eq a0 K).symm
  · left; intro K h
    simp only [e_wide_ToBits] at h
    split at h
    · exact hx ⟨_, rfl, rfl⟩
    · exact h
noncomputable def e_round_Pack : Entry := ⟨[none, none, none], false, fun args H K => match args, H with
  | [.int .u8 a0, .int .u8 a1, .agg [.bool a2_0, .arr .u64 6 a2_1, .int .i64 a2_2, .bool a2_3]], [] => round_Pack a0 a1 a2_0 a2_1 a2_2 a2_3 (fun y0 y1 y2 y3 => K (EV.tuple [EV.agg [EV.int IntKind.u64 y0, EV.int IntKind.u64 y1], EV.int IntKind.u8 y2, EV.int IntKind.i64 y3]) [])
  | _, _ => False⟩
noncomputable def E_round_Pack : Env := ⟨look tys, look [(25, e_round_Over), (36, e_shape_Zero), (55, e_shape_Precision), (57, e_shape_Emin), (64, e_wide_Len), (66, e_shape_Emax), (74, e_round_right), (79, e_round_grid), (80, e_round_tiny), (81, e_wide_Left), (82, e_wide_Of), (83, e_wide_Add), (84, e_wide_ToBits)], look [], gl, lookL [], false⟩
theorem X_round_Pack.eq (a0 : Int) (a1 : Int) (a2_0 : Bool) (a2_1 : Nat → Int) (a2_2 : Int) (a2_3 : Bool) (K : EV → Heap → Prop) : evFn E_round_Pack Tryd.f31 false [.int .u8 a0, .int .u8 a1, .agg [.bool a2_0, .arr .u64 6 a2_1, .int .i64 a2_2, .bool a2_3]] [] K = round_Pack a0 a1 a2_0 a2_1 a2_2 a2_3 (fun y0 y1 y2 y3 => K (EV.tuple [EV.agg [EV.int IntKind.u64 y0, EV.int IntKind.u64 y1], EV.int IntKind.u8 y2, EV.int IntKind.i64 y3]) []) := by
  have h : evFnQ E_round_Pack Tryd.f31 false [.int .u8 a0, .int .u8 a1, .agg [.bool a2_0, .arr .u64 6 a2_1, .int .i64 a2_2, .bool a2_3]] [] K = round_Pack.d a0 a1 a2_0 a2_1 a2_2 a2_3 (fun y0 y1 y2 y3 => K (EV.tuple [EV.agg [EV.int IntKind.u64 y0, EV.int IntKind.u64 y1], EV.int IntKind.u8 y2, EV.int IntKind.i64 y3]) []) := by kernel_rfl
  rw [round_Pack.is]; exact (evFnQ_eq _ _ _ _ _ _).symm.trans h
theorem X_round_Pack.ok : SoundE Tryd.prog gl 31 e_round_Pack := by
  refine fnOK (E := E_round_Pack) (fn := Tryd.f31) rfl tys_ok rfl (show AllL _ [(25, e_round_Over), (36, e_shape_Zero), (55, e_shape_Precision), (57, e_shape_Emin), (64, e_wide_Len), (66, e_shape_Emax), (74, e_round_right), (79, e_round_grid), (80, e_round_tiny), (81, e_wide_Left), (82, e_wide_Of), (83, e_wide_Add), (84, e_wide_ToBits)] from ⟨X_round_Over.ok, X_shape_Zero.ok, X_shape_Precision.ok, X_shape_Emin.ok, X_wide_Len.ok, X_shape_Emax.ok, X_round_right.ok, X_round_grid.ok, X_round_tiny.ok, X_wide_Left.ok, X_wide_Of.ok, X_wide_Add.ok, X_wide_ToBits.ok, trivial⟩) mixed (by kernel_rfl) (by kernel_rfl) (by kernel_rfl) 0 (by kernel_rfl) false trivial ?_
  intro args H
  by_cases hx : ∃ (a0 : Int) (a1 : Int) (a2_0 : Bool) (a2_1 : Nat → Int) (a2_2 : Int) (a2_3 : Bool), args = [.int .u8 a0, .int .u8 a1, .agg [.bool a2_0, .arr .u64 6 a2_1, .int .i64 a2_2, .bool a2_3]] ∧ H = []
  · obtain ⟨a0, a1, a2_0, a2_1, a2_2, a2_3, rfl, rfl⟩ := hx
    right; intro K
    exact iff_of_eq (X_round_Pack.eq a0 a1 a2_0 a2_1 a2_2 a2_3 K).symm
  · left; intro K h
    simp only [e_round_Pack] at h
    split at h
    · exact hx ⟨_, _, _, _, _, _, rfl, rfl⟩
    · exact h
noncomputable def e_law10_alive : Entry := ⟨[], false, fun args H K => match args, H with
  | [], [] => law10_alive  (fun y0 => K (EV.bool y0) [])
  | _, _ => False⟩
noncomputable def E_law10_alive : Env := ⟨look tys, look [(31, e_round_Pack)], look [], gl, lookL [], false⟩
theorem X_law10_alive.eq (K : EV → Heap → Prop) : evFn E_law10_alive Tryd.f29 false [] [] K = law10_alive  (fun y0 => K (EV.bool y0) []) := by
  have h : evFnQ E_law10_alive Tryd.f29 false [] [] K = law10_alive.d  (fun y0 => K (EV.bool y0) []) := by kernel_rfl
  rw [law10_alive.is]; exact (evFnQ_eq _ _ _ _ _ _).symm.trans h
theorem X_law10_alive.ok : SoundE Tryd.prog gl 29 e_law10_alive := by
  refine fnOK (E := E_law10_alive) (fn := Tryd.f29) rfl tys_ok rfl (show AllL _ [(31, e_round_Pack)] from ⟨X_round_Pack.ok, trivial⟩) mixed (by kernel_rfl) (by kernel_rfl) (by kernel_rfl) 0 (by kernel_rfl) false trivial ?_
  intro args H
  by_cases hx : args = [] ∧ H = []
  · obtain ⟨rfl, rfl⟩ := hx
    right; intro K
    exact iff_of_eq (X_law10_alive.eq  K).symm
  · left; intro K h
    simp only [e_law10_alive] at h
    split at h
    · exact hx ⟨rfl, rfl⟩
    · exact h
noncomputable def e_r01_Bit : Entry := ⟨[none, none], false, fun args H K => match args, H with
  | [.int .u64 a0, .int .i64 a1], [] => r01_Bit a0 a1 (fun y0 => K (EV.bool y0) [])
  | _, _ => False⟩
noncomputable def E_r01_Bit : Env := ⟨look tys, look [], look [], gl, lookL [], false⟩
theorem X_r01_Bit.eq (a0 : Int) (a1 : Int) (K : EV → Heap → Prop) : evFn E_r01_Bit Tryd.f110 false [.int .u64 a0, .int .i64 a1] [] K = r01_Bit a0 a1 (fun y0 => K (EV.bool y0) []) := by
  have h : evFnQ E_r01_Bit Tryd.f110 false [.int .u64 a0, .int .i64 a1] [] K = r01_Bit.d a0 a1 (fun y0 => K (EV.bool y0) []) := by kernel_rfl
  rw [r01_Bit.is]; exact (evFnQ_eq _ _ _ _ _ _).symm.trans h
theorem X_r01_Bit.ok : SoundE Tryd.prog gl 110 e_r01_Bit := by
  refine fnOK (E := E_r01_Bit) (fn := Tryd.f110) rfl tys_ok rfl (show AllL _ [] from trivial) mixed (by kernel_rfl) (by kernel_rfl) (by kernel_rfl) 0 (by kernel_rfl) false trivial ?_
  intro args H
  by_cases hx : ∃ (a0 : Int) (a1 : Int), args = [.int .u64 a0, .int .i64 a1] ∧ H = []
  · obtain ⟨a0, a1, rfl, rfl⟩ := hx
    right; intro K
    exact iff_of_eq (X_r01_Bit.eq a0 a1 K).symm
  · left; intro K h
    simp only [e_r01_Bit] at h
    split at h
    · exact hx ⟨_, _, rfl, rfl⟩
    · exact h
noncomputable def e_r02_Bit : Entry := ⟨[none, none], false, fun args H K => match args, H with
  | [.arr .u64 6 a0, .int .i64 a1], [] => r02_Bit a0 a1 (fun y0 => K (EV.bool y0) [])
  | _, _ => False⟩
noncomputable def E_r02_Bit : Env := ⟨look tys, look [(110, e_r01_Bit)], look [], gl, lookL [], false⟩
theorem X_r02_Bit.eq (a0 : Nat → Int) (a1 : Int) (K : EV → Heap → Prop) : evFn E_r02_Bit Tryd.f59 false [.arr .u64 6 a0, .int .i64 a1] [] K = r02_Bit a0 a1 (fun y0 => K (EV.bool y0) []) := by
  have h : evFnQ E_r02_Bit Tryd.f59 false [.arr .u64 6 a0, .int .i64 a1] [] K = r02_Bit.d a0 a1 (fun y0 => K (EV.bool y0) []) := by kernel_rfl
  rw [r02_Bit.is]; exact (evFnQ_eq _ _ _ _ _ _).symm.trans h
theorem X_r02_Bit.ok : SoundE Tryd.prog gl 59 e_r02_Bit := by
  refine fnOK (E := E_r02_Bit) (fn := Tryd.f59) rfl tys_ok rfl (show AllL _ [(110, e_r01_Bit)] from ⟨X_r01_Bit.ok, trivial⟩) mixed (by kernel_rfl) (by kernel_rfl) (by kernel_rfl) 0 (by kernel_rfl) false trivial ?_
  intro args H
  by_cases hx : ∃ (a0 : Nat → Int) (a1 : Int), args = [.arr .u64 6 a0, .int .i64 a1] ∧ H = []
  · obtain ⟨a0, a1, rfl, rfl⟩ := hx
    right; intro K
    exact iff_of_eq (X_r02_Bit.eq a0 a1 K).symm
  · left; intro K h
    simp only [e_r02_Bit] at h
    split at h
    · exact hx ⟨_, _, rfl, rfl⟩
    · exact h
noncomputable def e_r02_Count : Entry := ⟨[none], false, fun args H K => match args, H with
  | [.int .i64 a0], [] => r02_Count a0 (fun y0 => K (EV.int IntKind.i64 y0) [])
  | _, _ => False⟩
noncomputable def E_r02_Count : Env := ⟨look tys, look [], look [], gl, lookL [], false⟩
theorem X_r02_Count.eq (a0 : Int) (K : EV → Heap → Prop) : evFn E_r02_Count Tryd.f78 false [.int .i64 a0] [] K = r02_Count a0 (fun y0 => K (EV.int IntKind.i64 y0) []) := by
  have h : evFnQ E_r02_Count Tryd.f78 false [.int .i64 a0] [] K = r02_Count.d a0 (fun y0 => K (EV.int IntKind.i64 y0) []) := by kernel_rfl
  rw [r02_Count.is]; exact (evFnQ_eq _ _ _ _ _ _).symm.trans h
theorem X_r02_Count.ok : SoundE Tryd.prog gl 78 e_r02_Count := by
  refine fnOK (E := E_r02_Count) (fn := Tryd.f78) rfl tys_ok rfl (show AllL _ [] from trivial) mixed (by kernel_rfl) (by kernel_rfl) (by kernel_rfl) 0 (by kernel_rfl) false trivial ?_
  intro args H
  by_cases hx : ∃ (a0 : Int), args = [.int .i64 a0] ∧ H = []
  · obtain ⟨a0, rfl, rfl⟩ := hx
    right; intro K
    exact iff_of_eq (X_r02_Count.eq a0 K).symm
  · left; intro K h
    simp only [e_r02_Count] at h
    split at h
    · exact hx ⟨_, rfl, rfl⟩
    · exact h
noncomputable def e_r02_Left : Entry := ⟨[none, none], false, fun args H K => match args, H with
  | [.arr .u64 6 a0, .int .i64 a1], [] => r02_Left a0 a1 (fun y0 y1 => K (EV.tuple [EV.arr IntKind.u64 6 y0, EV.bool y1]) [])
  | _, _ => False⟩
noncomputable def E_r02_Left : Env := ⟨look tys, look [(59, e_r02_Bit), (78, e_r02_Count)], look [(5, r02_Left.l5.entry)], gl, lookL [], false⟩
theorem r02_Left.l5X.stepEq (R : List EV → Heap → Prop) (K : Ex → List EV → Heap → Prop) (x0 : Int) (x1 : Bool) (x2 : Int) (x3 : Nat → Int) (x4 : Nat → Int) (x5 : Nat → Int) : loopStep (evCode E_r02_Left (loopAt Tryd.f30 0) { (LV.mk 208 [(0, 208)] 48 0 false) with nx := live (.loop (loopAt Tryd.f30 0)) (LV.mk 208 [(0, 208)] 48 0 false) }) (live (.loop (loopAt Tryd.f30 0)) (LV.mk 208 [(0, 208)] 48 0 false)) (LV.mk 208 [(0, 208)] 48 0 false) 0 42 R [EV.int IntKind.i64 x0, EV.ptr 0 [], EV.ptr 1 [], EV.ptr 2 [], EV.bool x1, EV.int IntKind.i64 x2] [some (EV.arr IntKind.u64 6 x3), some (EV.arr IntKind.u64 6 x4), some (EV.arr IntKind.u64 6 x5)] K = r02_Left.l5.step (fun x0 x1 x2 x3 x4 x5 => R [EV.int IntKind.i64 x0, EV.ptr 0 [], EV.ptr 1 [], EV.ptr 2 [], EV.bool x1, EV.int IntKind.i64 x2] [some (EV.arr IntKind.u64 6 x3), some (EV.arr IntKind.u64 6 x4), some (EV.arr IntKind.u64 6 x5)]) (fun y0 y1 y2 => K (.exit 0) [EV.ptr 0 [], EV.ptr 1 [], EV.bool y0] [some (EV.arr IntKind.u64 6 y1), some (EV.arr IntKind.u64 6 y2)]) x0 x1 x2 x3 x4 x5 := (stepQ_eq _ _ _ _ _ _ _ _ _ _ _).symm.trans (by kernel_rfl)
theorem r02_Left.l5X.eq (K : Ex → List EV → Heap → Prop) : ∀ (n : Nat) (x0 : Int) (x1 : Bool) (x2 : Int) (x3 : Nat → Int) (x4 : Nat → Int) (x5 : Nat → Int), loopE E_r02_Left (loopAt Tryd.f30 0) (LV.mk 208 [(0, 208)] 48 0 false) 0 42 K n [EV.int IntKind.i64 x0, EV.ptr 0 [], EV.ptr 1 [], EV.ptr 2 [], EV.bool x1, EV.int IntKind.i64 x2] [some (EV.arr IntKind.u64 6 x3), some (EV.arr IntKind.u64 6 x4), some (EV.arr IntKind.u64 6 x5)] = r02_Left.l5 (fun y0 y1 y2 => K (.exit 0) [EV.ptr 0 [], EV.ptr 1 [], EV.bool y0] [some (EV.arr IntKind.u64 6 y1), some (EV.arr IntKind.u64 6 y2)]) n x0 x1 x2 x3 x4 x5
  | 0, _, _, _, _, _, _ => rfl
  | n + 1, x0, x1, x2, x3, x4, x5 => by
    have ih : (fun (x0 : Int) (x1 : Bool) (x2 : Int) (x3 : Nat → Int) (x4 : Nat → Int) (x5 : Nat → Int) => loopE E_r02_Left (loopAt Tryd.f30 0) (LV.mk 208 [(0, 208)] 48 0 false) 0 42 K n [EV.int IntKind.i64 x0, EV.ptr 0 [], EV.ptr 1 [], EV.ptr 2 [], EV.bool x1, EV.int IntKind.i64 x2] [some (EV.arr IntKind.u64 6 x3), some (EV.arr IntKind.u64 6 x4), some (EV.arr IntKind.u64 6 x5)]) = r02_Left.l5 (fun y0 y1 y2 => K (.exit 0) [EV.ptr 0 [], EV.ptr 1 [], EV.bool y0] [some (EV.arr IntKind.u64 6 y1), some (EV.arr IntKind.u64 6 y2)]) n := by funext x0 x1 x2 x3 x4 x5; exact r02_Left.l5X.eq K n x0 x1 x2 x3 x4 x5
    show loopStep _ _ _ _ _ (loopE E_r02_Left (loopAt Tryd.f30 0) (LV.mk 208 [(0, 208)] 48 0 false) 0 42 K n) [EV.int IntKind.i64 x0, EV.ptr 0 [], EV.ptr 1 [], EV.ptr 2 [], EV.bool x1, EV.int IntKind.i64 x2] [some (EV.arr IntKind.u64 6 x3), some (EV.arr IntKind.u64 6 x4), some (EV.arr IntKind.u64 6 x5)] K = r02_Left.l5.step (r02_Left.l5 (fun y0 y1 y2 => K (.exit 0) [EV.ptr 0 [], EV.ptr 1 [], EV.bool y0] [some (EV.arr IntKind.u64 6 y1), some (EV.arr IntKind.u64 6 y2)]) n) (fun y0 y1 y2 => K (.exit 0) [EV.ptr 0 [], EV.ptr 1 [], EV.bool y0] [some (EV.arr IntKind.u64 6 y1), some (EV.arr IntKind.u64 6 y2)]) x0 x1 x2 x3 x4 x5
    rw [← ih]
    exact r02_Left.l5X.stepEq _ K x0 x1 x2 x3 x4 x5
theorem r02_Left.l5X.ok : LoopEq E_r02_Left (loopAt Tryd.f30 0) := by
  intro L hL vs H
  have h1 : E_r02_Left.lp (firstRegion (loopAt Tryd.f30 0)) = some r02_Left.l5.entry := by kernel_rfl
  have h2 : L = r02_Left.l5.entry := Option.some.inj (hL.symm.trans h1)
  subst h2
  by_cases hx : ∃ (x0 : Int) (x1 : Bool) (x2 : Int) (x3 : Nat → Int) (x4 : Nat → Int) (x5 : Nat → Int), vs = [EV.int IntKind.i64 x0, EV.ptr 0 [], EV.ptr 1 [], EV.ptr 2 [], EV.bool x1, EV.int IntKind.i64 x2] ∧ H = [some (EV.arr IntKind.u64 6 x3), some (EV.arr IntKind.u64 6 x4), some (EV.arr IntKind.u64 6 x5)]
  · obtain ⟨x0, x1, x2, x3, x4, x5, rfl, rfl⟩ := hx
    right; intro K
    exact exists_congr fun n => iff_of_eq (r02_Left.l5X.eq K n x0 x1 x2 x3 x4 x5).symm
  · left; intro K h
    simp only [r02_Left.l5.entry] at h
    split at h
    · exact hx ⟨_, _, _, _, _, _, rfl, rfl⟩
    · exact h
theorem X_r02_Left.eq (a0 : Nat → Int) (a1 : Int) (K : EV → Heap → Prop) : evFn E_r02_Left Tryd.f30 false [.arr .u64 6 a0, .int .i64 a1] [] K = r02_Left a0 a1 (fun y0 y1 => K (EV.tuple [EV.arr IntKind.u64 6 y0, EV.bool y1]) []) := by
  have h : evFnQ E_r02_Left Tryd.f30 false [.arr .u64 6 a0, .int .i64 a1] [] K = r02_Left.d a0 a1 (fun y0 y1 => K (EV.tuple [EV.arr IntKind.u64 6 y0, EV.bool y1]) []) := by kernel_rfl
  rw [r02_Left.is]; exact (evFnQ_eq _ _ _ _ _ _).symm.trans h
theorem X_r02_Left.ok : SoundE Tryd.prog gl 30 e_r02_Left := by
  refine fnOK (E := E_r02_Left) (fn := Tryd.f30) rfl tys_ok rfl (show AllL _ [(59, e_r02_Bit), (78, e_r02_Count)] from ⟨X_r02_Bit.ok, X_r02_Count.ok, trivial⟩) mixed (by kernel_rfl) (by kernel_rfl) (by kernel_rfl) 1 (by kernel_rfl) false ⟨r02_Left.l5X.ok, trivial⟩ ?_
  intro args H
  by_cases hx : ∃ (a0 : Nat → Int) (a1 : Int), args = [.arr .u64 6 a0, .int .i64 a1] ∧ H = []
  · obtain ⟨a0, a1, rfl, rfl⟩ := hx
    right; intro K
    exact iff_of_eq (X_r02_Left.eq a0 a1 K).symm
  · left; intro K h
    simp only [e_r02_Left] at h
    split at h
    · exact hx ⟨_, _, rfl, rfl⟩
    · exact h
noncomputable def e_law10_RoundDoubled : Entry := ⟨[none, none, none, none], false, fun args H K => match args, H with
  | [.int .u8 a0, .int .u8 a1, .agg [.bool a2_0, .arr .u64 6 a2_1, .int .i64 a2_2, .bool a2_3], .int .i64 a3], [] => law10_RoundDoubled a0 a1 a2_0 a2_1 a2_2 a2_3 a3 (fun y0 => K (EV.bool y0) [])
  | _, _ => False⟩
noncomputable def E_law10_RoundDoubled : Env := ⟨look tys, look [(29, e_law10_alive), (30, e_r02_Left), (31, e_round_Pack)], look [], gl, lookL [], false⟩
theorem X_law10_RoundDoubled.eq (a0 : Int) (a1 : Int) (a2_0 : Bool) (a2_1 : Nat → Int) (a2_2 : Int) (a2_3 : Bool) (a3 : Int) (K : EV → Heap → Prop) : evFn E_law10_RoundDoubled Tryd.f6 false [.int .u8 a0, .int .u8 a1, .agg [.bool a2_0, .arr .u64 6 a2_1, .int .i64 a2_2, .bool a2_3], .int .i64 a3] [] K = law10_RoundDoubled a0 a1 a2_0 a2_1 a2_2 a2_3 a3 (fun y0 => K (EV.bool y0) []) := by
  have h : evFnQ E_law10_RoundDoubled Tryd.f6 false [.int .u8 a0, .int .u8 a1, .agg [.bool a2_0, .arr .u64 6 a2_1, .int .i64 a2_2, .bool a2_3], .int .i64 a3] [] K = law10_RoundDoubled.d a0 a1 a2_0 a2_1 a2_2 a2_3 a3 (fun y0 => K (EV.bool y0) []) := by kernel_rfl
  rw [law10_RoundDoubled.is]; exact (evFnQ_eq _ _ _ _ _ _).symm.trans h
theorem X_law10_RoundDoubled.ok : SoundE Tryd.prog gl 6 e_law10_RoundDoubled := by
  refine fnOK (E := E_law10_RoundDoubled) (fn := Tryd.f6) rfl tys_ok rfl (show AllL _ [(29, e_law10_alive), (30, e_r02_Left), (31, e_round_Pack)] from ⟨X_law10_alive.ok, X_r02_Left.ok, X_round_Pack.ok, trivial⟩) mixed (by kernel_rfl) (by kernel_rfl) (by kernel_rfl) 0 (by kernel_rfl) false trivial ?_
  intro args H
  by_cases hx : ∃ (a0 : Int) (a1 : Int) (a2_0 : Bool) (a2_1 : Nat → Int) (a2_2 : Int) (a2_3 : Bool) (a3 : Int), args = [.int .u8 a0, .int .u8 a1, .agg [.bool a2_0, .arr .u64 6 a2_1, .int .i64 a2_2, .bool a2_3], .int .i64 a3] ∧ H = []
  · obtain ⟨a0, a1, a2_0, a2_1, a2_2, a2_3, a3, rfl, rfl⟩ := hx
    right; intro K
    exact iff_of_eq (X_law10_RoundDoubled.eq a0 a1 a2_0 a2_1 a2_2 a2_3 a3 K).symm
  · left; intro K h
    simp only [e_law10_RoundDoubled] at h
    split at h
    · exact hx ⟨_, _, _, _, _, _, _, rfl, rfl⟩
    · exact h
end Go.Ev.S
