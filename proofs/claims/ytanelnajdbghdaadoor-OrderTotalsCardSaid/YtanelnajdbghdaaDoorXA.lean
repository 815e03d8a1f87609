/- The functions of the seat: that the evaluator has them as they are. -/
import Derived.Test.YtanelnajdbghdaaDoorProg
import Derived.Test.YtanelnajdbghdaaDoorEvE
import Derived.Test.YtanelnajdbghdaaDoorDA
import Derived.KernelRfl
import Derived.Test.YtanelnajdbghdaaDoorLA
import Derived.Shelf.SlSortCmp.NoneTotal
import Derived.WalkKit
import Derived.Lib.Walk
import Derived.Lib.SliceRun
set_option maxRecDepth 100000
set_option linter.unusedVariables false
set_option linter.unusedSimpArgs false
namespace Go.Ev.S
open Go Go.Proofs Go.Ev
def tys : List (Nat × TI) := [
  (1, ⟨.func, 1, 8, .nilFunc⟩),
  (2, ⟨.int .i64, 1, 8, .int .i64 0⟩),
  (3, ⟨.int .i64, 1, 8, .int .i64 0⟩),
  (4, ⟨.bool, 1, 1, .bool false⟩),
  (5, ⟨.int .u8, 1, 1, .int .u8 0⟩),
  (6, ⟨.int .u8, 1, 1, .int .u8 0⟩),
  (7, ⟨.struct [(0, 2), (1, 3), (2, 4), (3, 6)], 4, 24, .agg [.int .i64 0, .int .i64 0, .bool false, .int .u8 0]⟩),
  (8, ⟨.struct [(0, 2), (1, 3), (2, 4), (3, 6)], 4, 24, .agg [.int .i64 0, .int .i64 0, .bool false, .int .u8 0]⟩),
  (9, ⟨.str, 1, 16, .str []⟩),
  (10, ⟨.str, 1, 16, .str []⟩),
  (11, ⟨.str, 1, 16, .str []⟩),
  (12, ⟨.int .u64, 1, 8, .int .u64 0⟩),
  (15, ⟨.ptr, 1, 8, .nilPtr⟩),
  (16, ⟨.ptr, 1, 8, .nilPtr⟩),
  (17, ⟨.ptr, 1, 8, .nilPtr⟩),
  (20, ⟨.iface, 1, 16, .nilIface⟩),
  (21, ⟨.int .i32, 1, 4, .int .i32 0⟩),
  (22, ⟨.int .u8, 1, 1, .int .u8 0⟩),
  (23, ⟨.int .u64, 1, 8, .int .u64 0⟩),
  (24, ⟨.struct [(0, 23), (1, 23)], 2, 16, .agg [.int .u64 0, .int .u64 0]⟩),
  (25, ⟨.struct [(0, 23), (1, 23)], 2, 16, .agg [.int .u64 0, .int .u64 0]⟩),
  (26, ⟨.int .i64, 1, 8, .int .i64 0⟩),
  (28, ⟨.func, 1, 8, .nilFunc⟩),
  (29, ⟨.func, 1, 8, .nilFunc⟩),
  (30, ⟨.func, 1, 8, .nilFunc⟩),
  (31, ⟨.func, 1, 8, .nilFunc⟩),
  (32, ⟨.func, 1, 8, .nilFunc⟩),
  (34, ⟨.func, 1, 8, .nilFunc⟩),
  (35, ⟨.func, 1, 8, .nilFunc⟩),
  (37, ⟨.func, 1, 8, .nilFunc⟩),
  (38, ⟨.func, 1, 8, .nilFunc⟩),
  (40, ⟨.func, 1, 8, .nilFunc⟩),
  (41, ⟨.func, 1, 8, .nilFunc⟩),
  (42, ⟨.func, 1, 8, .nilFunc⟩),
  (44, ⟨.func, 1, 8, .nilFunc⟩),
  (45, ⟨.int .u8, 1, 1, .int .u8 0⟩),
  (47, ⟨.func, 1, 8, .nilFunc⟩),
  (48, ⟨.func, 1, 8, .nilFunc⟩),
  (49, ⟨.int .u8, 1, 1, .int .u8 0⟩),
  (51, ⟨.func, 1, 8, .nilFunc⟩),
  (52, ⟨.func, 1, 8, .nilFunc⟩),
  (53, ⟨.slice 25, 1, 24, .nilSlice⟩),
  (54, ⟨.func, 1, 8, .nilFunc⟩),
  (55, ⟨.func, 1, 8, .nilFunc⟩),
  (57, ⟨.func, 1, 8, .nilFunc⟩),
  (59, ⟨.func, 1, 8, .nilFunc⟩),
  (60, ⟨.int .u8, 1, 1, .int .u8 0⟩),
  (62, ⟨.func, 1, 8, .nilFunc⟩),
  (64, ⟨.func, 1, 8, .nilFunc⟩),
  (65, ⟨.func, 1, 8, .nilFunc⟩),
  (66, ⟨.func, 1, 8, .nilFunc⟩),
  (67, ⟨.func, 1, 8, .nilFunc⟩),
  (68, ⟨.func, 1, 8, .nilFunc⟩),
  (69, ⟨.func, 1, 8, .nilFunc⟩),
  (70, ⟨.func, 1, 8, .nilFunc⟩),
  (71, ⟨.array 6 23, 6, 48, .arr .u64 6 (fun _ => 0)⟩),
  (72, ⟨.array 6 23, 6, 48, .arr .u64 6 (fun _ => 0)⟩),
  (73, ⟨.func, 1, 8, .nilFunc⟩),
  (74, ⟨.func, 1, 8, .nilFunc⟩),
  (76, ⟨.func, 1, 8, .nilFunc⟩),
  (77, ⟨.int .u64, 1, 8, .int .u64 0⟩),
  (78, ⟨.func, 1, 8, .nilFunc⟩),
  (79, ⟨.func, 1, 8, .nilFunc⟩),
  (80, ⟨.func, 1, 8, .nilFunc⟩),
  (81, ⟨.func, 1, 8, .nilFunc⟩),
  (83, ⟨.func, 1, 8, .nilFunc⟩),
  (84, ⟨.func, 1, 8, .nilFunc⟩),
  (85, ⟨.func, 1, 8, .nilFunc⟩),
  (86, ⟨.func, 1, 8, .nilFunc⟩),
  (87, ⟨.func, 1, 8, .nilFunc⟩),
  (88, ⟨.func, 1, 8, .nilFunc⟩),
  (89, ⟨.func, 1, 8, .nilFunc⟩),
  (90, ⟨.func, 1, 8, .nilFunc⟩),
  (91, ⟨.str, 1, 16, .str []⟩),
  (92, ⟨.struct [(0, 4), (1, 91), (2, 91), (3, 3)], 4, 48, .agg [.bool false, .str [], .str [], .int .i64 0]⟩),
  (93, ⟨.struct [(0, 4), (1, 91), (2, 91), (3, 3)], 4, 48, .agg [.bool false, .str [], .str [], .int .i64 0]⟩),
  (95, ⟨.func, 1, 8, .nilFunc⟩),
  (97, ⟨.func, 1, 8, .nilFunc⟩),
  (98, ⟨.func, 1, 8, .nilFunc⟩),
  (99, ⟨.func, 1, 8, .nilFunc⟩),
  (100, ⟨.func, 1, 8, .nilFunc⟩),
  (101, ⟨.func, 1, 8, .nilFunc⟩),
  (102, ⟨.func, 1, 8, .nilFunc⟩),
  (103, ⟨.func, 1, 8, .nilFunc⟩),
  (104, ⟨.func, 1, 8, .nilFunc⟩),
  (105, ⟨.func, 1, 8, .nilFunc⟩),
  (107, ⟨.func, 1, 8, .nilFunc⟩),
  (108, ⟨.func, 1, 8, .nilFunc⟩),
  (110, ⟨.func, 1, 8, .nilFunc⟩),
  (111, ⟨.func, 1, 8, .nilFunc⟩),
  (112, ⟨.func, 1, 8, .nilFunc⟩),
  (113, ⟨.func, 1, 8, .nilFunc⟩),
  (114, ⟨.struct [(0, 60), (1, 72), (7, 3), (8, 72)], 14, 112, .agg [.int .u8 0, .arr .u64 6 (fun _ => 0), .int .i64 0, .arr .u64 6 (fun _ => 0)]⟩),
  (115, ⟨.struct [(0, 60), (1, 72), (7, 3), (8, 72)], 14, 112, .agg [.int .u8 0, .arr .u64 6 (fun _ => 0), .int .i64 0, .arr .u64 6 (fun _ => 0)]⟩),
  (116, ⟨.func, 1, 8, .nilFunc⟩),
  (117, ⟨.func, 1, 8, .nilFunc⟩),
  (118, ⟨.func, 1, 8, .nilFunc⟩),
  (119, ⟨.func, 1, 8, .nilFunc⟩),
  (121, ⟨.func, 1, 8, .nilFunc⟩),
  (122, ⟨.func, 1, 8, .nilFunc⟩),
  (123, ⟨.func, 1, 8, .nilFunc⟩),
  (124, ⟨.func, 1, 8, .nilFunc⟩),
  (125, ⟨.func, 1, 8, .nilFunc⟩),
  (126, ⟨.struct [(0, 3), (1, 3), (2, 3), (3, 9)], 4, 40, .agg [.int .i64 0, .int .i64 0, .int .i64 0, .str []]⟩),
  (127, ⟨.array 4 126, 16, 160, .agg [.agg [.int .i64 0, .int .i64 0, .int .i64 0, .str []], .agg [.int .i64 0, .int .i64 0, .int .i64 0, .str []], .agg [.int .i64 0, .int .i64 0, .int .i64 0, .str []], .agg [.int .i64 0, .int .i64 0, .int .i64 0, .str []]]⟩),
  (128, ⟨.func, 1, 8, .nilFunc⟩),
  (129, ⟨.func, 1, 8, .nilFunc⟩),
  (130, ⟨.func, 1, 8, .nilFunc⟩),
  (131, ⟨.func, 1, 8, .nilFunc⟩),
  (133, ⟨.func, 1, 8, .nilFunc⟩),
  (134, ⟨.func, 1, 8, .nilFunc⟩),
  (136, ⟨.func, 1, 8, .nilFunc⟩),
  (137, ⟨.slice 5, 1, 24, .nilSlice⟩),
  (138, ⟨.func, 1, 8, .nilFunc⟩),
  (140, ⟨.func, 1, 8, .nilFunc⟩),
  (141, ⟨.func, 1, 8, .nilFunc⟩),
  (142, ⟨.func, 1, 8, .nilFunc⟩),
  (143, ⟨.int .i64, 1, 8, .int .i64 0⟩),
  (145, ⟨.func, 1, 8, .nilFunc⟩),
  (146, ⟨.func, 1, 8, .nilFunc⟩),
  (147, ⟨.func, 1, 8, .nilFunc⟩),
  (149, ⟨.func, 1, 8, .nilFunc⟩),
  (150, ⟨.func, 1, 8, .nilFunc⟩),
  (151, ⟨.int .u32, 1, 4, .int .u32 0⟩),
  (153, ⟨.func, 1, 8, .nilFunc⟩),
  (154, ⟨.func, 1, 8, .nilFunc⟩),
  (155, ⟨.func, 1, 8, .nilFunc⟩),
  (156, ⟨.func, 1, 8, .nilFunc⟩),
  (157, ⟨.int .u64, 1, 8, .int .u64 0⟩),
  (158, ⟨.func, 1, 8, .nilFunc⟩),
  (159, ⟨.func, 1, 8, .nilFunc⟩),
  (160, ⟨.ptr, 1, 8, .nilPtr⟩),
  (161, ⟨.func, 1, 8, .nilFunc⟩),
  (162, ⟨.ptr, 1, 8, .nilPtr⟩),
  (163, ⟨.func, 1, 8, .nilFunc⟩),
  (164, ⟨.array 64 5, 64, 64, .arr .u8 64 (fun _ => 0)⟩),
  (165, ⟨.func, 1, 8, .nilFunc⟩),
  (168, ⟨.array 0 16, 0, 0, .agg []⟩),
  (171, ⟨.func, 1, 8, .nilFunc⟩),
  (172, ⟨.int .u8, 1, 1, .int .u8 0⟩),
  (173, ⟨.int .u8, 1, 1, .int .u8 0⟩),
  (174, ⟨.func, 1, 8, .nilFunc⟩),
  (175, ⟨.ptr, 1, 8, .nilPtr⟩),
  (176, ⟨.int .i32, 1, 4, .int .i32 0⟩),
  (177, ⟨.int .i32, 1, 4, .int .i32 0⟩)]
theorem tys_ok : AllL (OkTI Tryd.prog) tys :=
  ⟨.of (by kernel_rfl) (by kernel_rfl), .of (by kernel_rfl) (by kernel_rfl), .of (by kernel_rfl) (by kernel_rfl), .of (by kernel_rfl) (by kernel_rfl), .of (by kernel_rfl) (by kernel_rfl), .of (by kernel_rfl) (by kernel_rfl), .of (by kernel_rfl) (by kernel_rfl), .of (by kernel_rfl) (by kernel_rfl), .of (by kernel_rfl) (by kernel_rfl), .of (by kernel_rfl) (by kernel_rfl), .of (by kernel_rfl) (by kernel_rfl), .of (by kernel_rfl) (by kernel_rfl), .of (by kernel_rfl) (by kernel_rfl), .of (by kernel_rfl) (by kernel_rfl), .of (by kernel_rfl) (by kernel_rfl), .of (by kernel_rfl) (by kernel_rfl), .of (by kernel_rfl) (by kernel_rfl), .of (by kernel_rfl) (by kernel_rfl), .of (by kernel_rfl) (by kernel_rfl), .of (by kernel_rfl) (by kernel_rfl), .of (by kernel_rfl) (by kernel_rfl), .of (by kernel_rfl) (by kernel_rfl), .of (by kernel_rfl) (by kernel_rfl), .of (by kernel_rfl) (by kernel_rfl), .of (by kernel_rfl) (by kernel_rfl), .of (by kernel_rfl) (by kernel_rfl), .of (by kernel_rfl) (by kernel_rfl), .of (by kernel_rfl) (by kernel_rfl), .of (by kernel_rfl) (by kernel_rfl), .of (by kernel_rfl) (by kernel_rfl), .of (by kernel_rfl) (by kernel_rfl), .of (by kernel_rfl) (by kernel_rfl), .of (by kernel_rfl) (by kernel_rfl), .of (by kernel_rfl) (by kernel_rfl), .of (by kernel_rfl) (by kernel_rfl), .of (by kernel_rfl) (by kernel_rfl), .of (by kernel_rfl) (by kernel_rfl), .of (by kernel_rfl) (by kernel_rfl), .of (by kernel_rfl) (by kernel_rfl), .of (by kernel_rfl) (by kernel_rfl), .of (by kernel_rfl) (by kernel_rfl), .of (by kernel_rfl) (by kernel_rfl), .of (by kernel_rfl) (by kernel_rfl), .of (by kernel_rfl) (by kernel_rfl), .of (by kernel_rfl) (by kernel_rfl), .of (by kernel_rfl) (by kernel_rfl), .of (by kernel_rfl) (by kernel_rfl), .of (by kernel_rfl) (by kernel_rfl), .of (by kernel_rfl) (by kernel_rfl), .of (by kernel_rfl) (by kernel_rfl), .of (by kernel_rfl) (by kernel_rfl), .of (by kernel_rfl) (by kernel_rfl), .of (by kernel_rfl) (by kernel_rfl), .of (by kernel_rfl) (by kernel_rfl), .of (by kernel_rfl) (by kernel_rfl), .of (by kernel_rfl) (by kernel_rfl), .of (by kernel_rfl) (by kernel_rfl), .of (by kernel_rfl) (by kernel_rfl), .of (by kernel_rfl) (by kernel_rfl), .of (by kernel_rfl) (by kernel_rfl), .of (by kernel_rfl) (by kernel_rfl), .of (by kernel_rfl) (by kernel_rfl), .of (by kernel_rfl) (by kernel_rfl), .of (by kernel_rfl) (by kernel_rfl), .of (by kernel_rfl) (by kernel_rfl), .of (by kernel_rfl) (by kernel_rfl), .of (by kernel_rfl) (by kernel_rfl), .of (by kernel_rfl) (by kernel_rfl), .of (by kernel_rfl) (by kernel_rfl), .of (by kernel_rfl) (by kernel_rfl), .of (by kernel_rfl) (by kernel_rfl), .of (by kernel_rfl) (by kernel_rfl), .of (by kernel_rfl) (by kernel_rfl), .of (by kernel_rfl) (by kernel_rfl), .of (by kernel_rfl) (by kernel_rfl), .of (by kernel_rfl) (by kernel_rfl), .of (by kernel_rfl) (by kernel_rfl), .of (by kernel_rfl) (by kernel_rfl), .of (by kernel_rfl) (by kernel_rfl), .of (by kernel_rfl) (by kernel_rfl), .of (by kernel_rfl) (by kernel_rfl), .of (by kernel_rfl) (by kernel_rfl), .of (by kernel_rfl) (by kernel_rfl), .of (by kernel_rfl) (by kernel_rfl), .of (by kernel_rfl) (by kernel_rfl), .of (by kernel_rfl) (by kernel_rfl), .of (by kernel_rfl) (by kernel_rfl), .of (by kernel_rfl) (by kernel_rfl), .of (by kernel_rfl) (by kernel_rfl), .of (by kernel_rfl) (by kernel_rfl), .of (by kernel_rfl) (by kernel_rfl), .of (by kernel_rfl) (by kernel_rfl), .of (by kernel_rfl) (by kernel_rfl), .of (by kernel_rfl) (by kernel_rfl), .of (by kernel_rfl) (by kernel_rfl), .of (by kernel_rfl) (by kernel_rfl), .of (by kernel_rfl) (by kernel_rfl), .of (by kernel_rfl) (by kernel_rfl), .of (by kernel_rfl) (by kernel_rfl), .of (by kernel_rfl) (by kernel_rfl), .of (by kernel_rfl) (by kernel_rfl), .of (by kernel_rfl) (by kernel_rfl), .of (by kernel_rfl) (by kernel_rfl), .of (by kernel_rfl) (by kernel_rfl), .of (by kernel_rfl) (by kernel_rfl), .of (by kernel_rfl) (by kernel_rfl), .of (by kernel_rfl) (by kernel_rfl), .of (by kernel_rfl) (by kernel_rfl), .of (by kernel_rfl) (by kernel_rfl), .of (by kernel_rfl) (by kernel_rfl), .of (by kernel_rfl) (by kernel_rfl), .of (by kernel_rfl) (by kernel_rfl), .of (by kernel_rfl) (by kernel_rfl), .of (by kernel_rfl) (by kernel_rfl), .of (by kernel_rfl) (by kernel_rfl), .of (by kernel_rfl) (by kernel_rfl), .of (by kernel_rfl) (by kernel_rfl), .of (by kernel_rfl) (by kernel_rfl), .of (by kernel_rfl) (by kernel_rfl), .of (by kernel_rfl) (by kernel_rfl), .of (by kernel_rfl) (by kernel_rfl), .of (by kernel_rfl) (by kernel_rfl), .of (by kernel_rfl) (by kernel_rfl), .of (by kernel_rfl) (by kernel_rfl), .of (by kernel_rfl) (by kernel_rfl), .of (by kernel_rfl) (by kernel_rfl), .of (by kernel_rfl) (by kernel_rfl), .of (by kernel_rfl) (by kernel_rfl), .of (by kernel_rfl) (by kernel_rfl), .of (by kernel_rfl) (by kernel_rfl), .of (by kernel_rfl) (by kernel_rfl), .of (by kernel_rfl) (by kernel_rfl), .of (by kernel_rfl) (by kernel_rfl), .of (by kernel_rfl) (by kernel_rfl), .of (by kernel_rfl) (by kernel_rfl), .of (by kernel_rfl) (by kernel_rfl), .of (by kernel_rfl) (by kernel_rfl), .of (by kernel_rfl) (by kernel_rfl), .of (by kernel_rfl) (by kernel_rfl), .of (by kernel_rfl) (by kernel_rfl), .of (by kernel_rfl) (by kernel_rfl), .of (by kernel_rfl) (by kernel_rfl), .of (by kernel_rfl) (by kernel_rfl), .of (by kernel_rfl) (by kernel_rfl), .of (by kernel_rfl) (by kernel_rfl), trivial⟩
theorem mixed : Tryd.prog.follows .mixedOrders = true := by kernel_rfl
noncomputable def gl : Nat → Option EV := look [(0, .arr .u8 64 tab_deBruijn64tab)]
noncomputable def e_shape_numbers : Entry := ⟨[none], false, fun args H K => match args, H with
  | [.int .u8 a0], [] => shape_numbers a0 (fun y0 y1 y2 y3 => K (EV.tuple [EV.int IntKind.i64 y0, EV.int IntKind.i64 y1, EV.int IntKind.i64 y2, EV.str y3]) [])
  | _, _ => False⟩
noncomputable def E_shape_numbers : Env := ⟨look tys, look [], look [], gl, lookL [], false⟩
theorem X_shape_numbers.eq (a0 : Int) (K : EV → Heap → Prop) : evFn E_shape_numbers Tryd.f88 false [.int .u8 a0] [] K = shape_numbers a0 (fun y0 y1 y2 y3 => K (EV.tuple [EV.int IntKind.i64 y0, EV.int IntKind.i64 y1, EV.int IntKind.i64 y2, EV.str y3]) []) := by
  rw [shape_numbers.is]; exact (evFnQ_eq _ _ _ _ _ _).symm.trans (by kernel_rfl)
theorem X_shape_numbers.ok : SoundE Tryd.prog gl 88 e_shape_numbers := by
  refine fnOK (E := E_shape_numbers) (fn := Tryd.f88) rfl tys_ok rfl (show AllL _ [] from trivial) mixed (by kernel_rfl) (by kernel_rfl) (by kernel_rfl) 0 (by kernel_rfl) false trivial ?_
  intro args H
  by_cases hx : ∃ (a0 : Int), args = [.int .u8 a0] ∧ H = []
  · obtain ⟨a0, rfl, rfl⟩ := hx
    right; intro K
    exact iff_of_eq (X_shape_numbers.eq a0 K).symm
  · left; intro K h
    simp only [e_shape_numbers] at h
    split at h
    · exact hx ⟨_, rfl, rfl⟩
    · exact h
noncomputable def e_shape_Width : Entry := ⟨[none], false, fun args H K => match args, H with
  | [.int .u8 a0], [] => shape_Width a0 (fun y0 => K (EV.int IntKind.i64 y0) [])
  | _, _ => False⟩
noncomputable def l_shape_Width : List (Nat × Entry) := [(88, e_shape_numbers)]
noncomputable def E_shape_Width : Env := ⟨look tys, look l_shape_Width, look [], gl, lookL [], false⟩
theorem X_shape_Width.eq (a0 : Int) (K : EV → Heap → Prop) : evFn E_shape_Width Tryd.f55 false [.int .u8 a0] [] K = shape_Width a0 (fun y0 => K (EV.int IntKind.i64 y0) []) := by
  rw [shape_Width.is]; exact (evFnQ_eq _ _ _ _ _ _).symm.trans (by kernel_rfl)
theorem X_shape_Width.ok : SoundE Tryd.prog gl 55 e_shape_Width := by
  refine fnOK (E := E_shape_Width) (fn := Tryd.f55) rfl tys_ok rfl (show AllL _ l_shape_Width from ⟨X_shape_numbers.ok, trivial⟩) mixed (by kernel_rfl) (by kernel_rfl) (by kernel_rfl) 0 (by kernel_rfl) false trivial ?_
  intro args H
  by_cases hx : ∃ (a0 : Int), args = [.int .u8 a0] ∧ H = []
  · obtain ⟨a0, rfl, rfl⟩ := hx
    right; intro K
    exact iff_of_eq (X_shape_Width.eq a0 K).symm
  · left; intro K h
    simp only [e_shape_Width] at h
    split at h
    · exact hx ⟨_, rfl, rfl⟩
    · exact h
noncomputable def e_shape_Fits : Entry := ⟨[none, none], false, fun args H K => match args, H with
  | [.int .u8 a0, .agg [.int .u64 a1_0, .int .u64 a1_1]], [] => shape_Fits a0 a1_0 a1_1 (fun y0 => K (EV.bool y0) [])
  | _, _ => False⟩
noncomputable def l_shape_Fits : List (Nat × Entry) := [(55, e_shape_Width)]
noncomputable def E_shape_Fits : Env := ⟨look tys, look l_shape_Fits, look [], gl, lookL [], false⟩
theorem X_shape_Fits.eq (a0 : Int) (a1_0 : Int) (a1_1 : Int) (K : EV → Heap → Prop) : evFn E_shape_Fits Tryd.f53 false [.int .u8 a0, .agg [.int .u64 a1_0, .int .u64 a1_1]] [] K = shape_Fits a0 a1_0 a1_1 (fun y0 => K (EV.bool y0) []) := by
  rw [shape_Fits.is]; exact (evFnQ_eq _ _ _ _ _ _).symm.trans (by kernel_rfl)
theorem X_shape_Fits.ok : SoundE Tryd.prog gl 53 e_shape_Fits := by
  refine fnOK (E := E_shape_Fits) (fn := Tryd.f53) rfl tys_ok rfl (show AllL _ l_shape_Fits from ⟨X_shape_Width.ok, trivial⟩) mixed (by kernel_rfl) (by kernel_rfl) (by kernel_rfl) 0 (by kernel_rfl) false trivial ?_
  intro args H
  by_cases hx : ∃ (a0 : Int) (a1_0 : Int) (a1_1 : Int), args = [.int .u8 a0, .agg [.int .u64 a1_0, .int .u64 a1_1]] ∧ H = []
  · obtain ⟨a0, a1_0, a1_1, rfl, rfl⟩ := hx
    right; intro K
    exact iff_of_eq (X_shape_Fits.eq a0 a1_0 a1_1 K).symm
  · left; intro K h
    simp only [e_shape_Fits] at h
    split at h
    · exact hx ⟨_, _, _, rfl, rfl⟩
    · exact h
noncomputable def e_shape_Check : Entry := ⟨[none], false, fun args H K => match args, H with
  | [.int .u8 a0], [] => shape_Check a0 (fun y0 => K (EV.int IntKind.i64 y0) [])
  | _, _ => False⟩
noncomputable def E_shape_Check : Env := ⟨look tys, look [], look [], gl, lookL [], false⟩
theorem X_shape_Check.eq (a0 : Int) (K : EV → Heap → Prop) : evFn E_shape_Check Tryd.f57 false [.int .u8 a0] [] K = shape_Check a0 (fun y0 => K (EV.int IntKind.i64 y0) []) := by
  rw [shape_Check.is]; exact (evFnQ_eq _ _ _ _ _ _).symm.trans (by kernel_rfl)
theorem X_shape_Check.ok : SoundE Tryd.prog gl 57 e_shape_Check := by
  refine fnOK (E := E_shape_Check) (fn := Tryd.f57) rfl tys_ok rfl (show AllL _ [] from trivial) mixed (by kernel_rfl) (by kernel_rfl) (by kernel_rfl) 0 (by kernel_rfl) false trivial ?_
  intro args H
  by_cases hx : ∃ (a0 : Int), args = [.int .u8 a0] ∧ H = []
  · obtain ⟨a0, rfl, rfl⟩ := hx
    right; intro K
    exact iff_of_eq (X_shape_Check.eq a0 K).symm
  · left; intro K h
    simp only [e_shape_Check] at h
    split at h
    · exact hx ⟨_, rfl, rfl⟩
    · exact h
noncomputable def e_order_fitsT : Entry := ⟨[none, some (.sk (.agg [.int .u64, .int .u64]))], false, fun args H K => match args, H with
  | [.int .u8 a0, .rsT a1n (.agg [.int .u64, .int .u64]) a1], [] => order_fitsT a0 a1n a1 (fun y0 => K (EV.bool y0) [])
  | _, _ => False⟩
noncomputable def l_order_fitsT : List (Nat × Entry) := [(53, e_shape_Fits), (57, e_shape_Check)]
noncomputable def E_order_fitsT : Env := ⟨look tys, look l_order_fitsT, look [(2, order_fitsT.l2.entry)], gl, lookL [], false⟩
theorem order_fitsT.l2X.stepEq (R : List EV → Heap → Prop) (K : Ex → List EV → Heap → Prop) (x0 : Int) (x1 : Nat) (x2 : Nat → Nat → Lf) (x3 : Int) (x4 : Int) : loopStep (evCode E_order_fitsT (loopAt Tryd.f64 0) { (LV.mk 1 [(0, 1)] 16 0 false) with nx := live (.loop (loopAt Tryd.f64 0)) (LV.mk 1 [(0, 1)] 16 0 false) }) (live (.loop (loopAt Tryd.f64 0)) (LV.mk 1 [(0, 1)] 16 0 false)) (LV.mk 1 [(0, 1)] 16 0 false) 0 21 R [EV.int IntKind.u8 x0, EV.rsT x1 (Sk.agg [Sk.int IntKind.u64, Sk.int IntKind.u64]) x2, EV.int IntKind.i64 x3, EV.int IntKind.i64 x4] [] K = order_fitsT.l2.step (fun x0 x1 x2 x3 x4 => R [EV.int IntKind.u8 x0, EV.rsT x1 (Sk.agg [Sk.int IntKind.u64, Sk.int IntKind.u64]) x2, EV.int IntKind.i64 x3, EV.int IntKind.i64 x4] []) (fun y0 => K .ret [EV.bool y0] []) (fun y0 => K (.exit 0) [EV.int IntKind.u8 y0] []) x0 x1 x2 x3 x4 := (stepQ_eq _ _ _ _ _ _ _ _ _ _ _).symm.trans (by kernel_rfl)
theorem order_fitsT.l2X.eq (K : Ex → List EV → Heap → Prop) : ∀ (n : Nat) (x0 : Int) (x1 : Nat) (x2 : Nat → Nat → Lf) (x3 : Int) (x4 : Int), loopE E_order_fitsT (loopAt Tryd.f64 0) (LV.mk 1 [(0, 1)] 16 0 false) 0 21 K n [EV.int IntKind.u8 x0, EV.rsT x1 (Sk.agg [Sk.int IntKind.u64, Sk.int IntKind.u64]) x2, EV.int IntKind.i64 x3, EV.int IntKind.i64 x4] [] = order_fitsT.l2 (fun y0 => K .ret [EV.bool y0] []) (fun y0 => K (.exit 0) [EV.int IntKind.u8 y0] []) n x0 x1 x2 x3 x4
  | 0, _, _, _, _, _ => rfl
  | n + 1, x0, x1, x2, x3, x4 => by
    have ih : (fun (x0 : Int) (x1 : Nat) (x2 : Nat → Nat → Lf) (x3 : Int) (x4 : Int) => loopE E_order_fitsT (loopAt Tryd.f64 0) (LV.mk 1 [(0, 1)] 16 0 false) 0 21 K n [EV.int IntKind.u8 x0, EV.rsT x1 (Sk.agg [Sk.int IntKind.u64, Sk.int IntKind.u64]) x2, EV.int IntKind.i64 x3, EV.int IntKind.i64 x4] []) = order_fitsT.l2 (fun y0 => K .ret [EV.bool y0] []) (fun y0 => K (.exit 0) [EV.int IntKind.u8 y0] []) n := by funext x0 x1 x2 x3 x4; exact order_fitsT.l2X.eq K n x0 x1 x2 x3 x4
    show loopStep _ _ _ _ _ (loopE E_order_fitsT (loopAt Tryd.f64 0) (LV.mk 1 [(0, 1)] 16 0 false) 0 21 K n) [EV.int IntKind.u8 x0, EV.rsT x1 (Sk.agg [Sk.int IntKind.u64, Sk.int IntKind.u64]) x2, EV.int IntKind.i64 x3, EV.int IntKind.i64 x4] [] K = order_fitsT.l2.step (order_fitsT.l2 (fun y0 => K .ret [EV.bool y0] []) (fun y0 => K (.exit 0) [EV.int IntKind.u8 y0] []) n) (fun y0 => K .ret [EV.bool y0] []) (fun y0 => K (.exit 0) [EV.int IntKind.u8 y0] []) x0 x1 x2 x3 x4
    rw [← ih]
    exact order_fitsT.l2X.stepEq _ K x0 x1 x2 x3 x4
theorem order_fitsT.l2X.ok : LoopEq E_order_fitsT (loopAt Tryd.f64 0) := by
  intro L hL vs H
  have h1 : E_order_fitsT.lp (firstRegion (loopAt Tryd.f64 0)) = some order_fitsT.l2.entry := by kernel_rfl
  have h2 : L = order_fitsT.l2.entry := Option.some.inj (hL.symm.trans h1)
  subst h2
  by_cases hx0 : ∃ (x0 : Int) (x1 : Nat) (x2 : Nat → Nat → Lf) (x3 : Int) (x4 : Int), vs = [EV.int IntKind.u8 x0, EV.rsT x1 (Sk.agg [Sk.int IntKind.u64, Sk.int IntKind.u64]) x2, EV.int IntKind.i64 x3, EV.int IntKind.i64 x4] ∧ H = []
  · obtain ⟨x0, x1, x2, x3, x4, rfl, rfl⟩ := hx0
    right; intro K
    exact exists_congr fun n => iff_of_eq (order_fitsT.l2X.eq K n x0 x1 x2 x3 x4).symm
  left; intro K h
  simp only [order_fitsT.l2.entry] at h
  split at h
  · exact hx0 ⟨_, _, _, _, _, rfl, rfl⟩
  · exact h
theorem X_order_fitsT.eq (a0 : Int) (a1n : Nat) (a1 : Nat → Nat → Lf) (K : EV → Heap → Prop) : evFn E_order_fitsT Tryd.f64 false [.int .u8 a0, .rsT a1n (.agg [.int .u64, .int .u64]) a1] [] K = order_fitsT a0 a1n a1 (fun y0 => K (EV.bool y0) []) := by
  rw [order_fitsT.is]; exact (evFnQ_eq _ _ _ _ _ _).symm.trans (by kernel_rfl)
theorem X_order_fitsT.ok : SoundE Tryd.prog gl 64 e_order_fitsT := by
  refine fnOK (E := E_order_fitsT) (fn := Tryd.f64) rfl tys_ok rfl (show AllL _ l_order_fitsT from ⟨X_shape_Fits.ok, X_shape_Check.ok, trivial⟩) mixed (by kernel_rfl) (by kernel_rfl) (by kernel_rfl) 1 (by kernel_rfl) false ⟨order_fitsT.l2X.ok, trivial⟩ ?_
  intro args H
  by_cases hx : ∃ (a0 : Int) (a1n : Nat) (a1 : Nat → Nat → Lf), args = [.int .u8 a0, .rsT a1n (.agg [.int .u64, .int .u64]) a1] ∧ H = []
  · obtain ⟨a0, a1n, a1, rfl, rfl⟩ := hx
    right; intro K
    exact iff_of_eq (X_order_fitsT.eq a0 a1n a1 K).symm
  · left; intro K h
    simp only [e_order_fitsT] at h
    split at h
    · exact hx ⟨_, _, _, rfl, rfl⟩
    · exact h
noncomputable def e_wide_Bit : Entry := ⟨[none, none], false, fun args H K => match args, H with
  | [.arr .u64 6 a0, .int .i64 a1], [] => wide_Bit a0 a1 (fun y0 => K (EV.bool y0) [])
  | _, _ => False⟩
noncomputable def E_wide_Bit : Env := ⟨look tys, look [], look [], gl, lookL [], false⟩
theorem X_wide_Bit.eq (a0 : Nat → Int) (a1 : Int) (K : EV → Heap → Prop) : evFn E_wide_Bit Tryd.f107 false [.arr .u64 6 a0, .int .i64 a1] [] K = wide_Bit a0 a1 (fun y0 => K (EV.bool y0) []) := by
  rw [wide_Bit.is]; exact (evFnQ_eq _ _ _ _ _ _).symm.trans (by kernel_rfl)
theorem X_wide_Bit.ok : SoundE Tryd.prog gl 107 e_wide_Bit := by
  refine fnOK (E := E_wide_Bit) (fn := Tryd.f107) rfl tys_ok rfl (show AllL _ [] from trivial) mixed (by kernel_rfl) (by kernel_rfl) (by kernel_rfl) 0 (by kernel_rfl) false trivial ?_
  intro args H
  by_cases hx : ∃ (a0 : Nat → Int) (a1 : Int), args = [.arr .u64 6 a0, .int .i64 a1] ∧ H = []
  · obtain ⟨a0, a1, rfl, rfl⟩ := hx
    right; intro K
    exact iff_of_eq (X_wide_Bit.eq a0 a1 K).symm
  · left; intro K h
    simp only [e_wide_Bit] at h
    split at h
    · exact hx ⟨_, _, rfl, rfl⟩
    · exact h
noncomputable def e_wide_OfBits : Entry := ⟨[none], false, fun args H K => match args, H with
  | [.agg [.int .u64 a0_0, .int .u64 a0_1]], [] => wide_OfBits a0_0 a0_1 (fun y0 => K (EV.arr IntKind.u64 6 y0) [])
  | _, _ => False⟩
noncomputable def E_wide_OfBits : Env := ⟨look tys, look [], look [], gl, lookL [], false⟩
theorem X_wide_OfBits.eq (a0_0 : Int) (a0_1 : Int) (K : EV → Heap → Prop) : evFn E_wide_OfBits Tryd.f111 false [.agg [.int .u64 a0_0, .int .u64 a0_1]] [] K = wide_OfBits a0_0 a0_1 (fun y0 => K (EV.arr IntKind.u64 6 y0) []) := by
  rw [wide_OfBits.is]; exact (evFnQ_eq _ _ _ _ _ _).symm.trans (by kernel_rfl)
theorem X_wide_OfBits.ok : SoundE Tryd.prog gl 111 e_wide_OfBits := by
  refine fnOK (E := E_wide_OfBits) (fn := Tryd.f111) rfl tys_ok rfl (show AllL _ [] from trivial) mixed (by kernel_rfl) (by kernel_rfl) (by kernel_rfl) 0 (by kernel_rfl) false trivial ?_
  intro args H
  by_cases hx : ∃ (a0_0 : Int) (a0_1 : Int), args = [.agg [.int .u64 a0_0, .int .u64 a0_1]] ∧ H = []
  · obtain ⟨a0_0, a0_1, rfl, rfl⟩ := hx
    right; intro K
    exact iff_of_eq (X_wide_OfBits.eq a0_0 a0_1 K).symm
  · left; intro K h
    simp only [e_wide_OfBits] at h
    split at h
    · exact hx ⟨_, _, rfl, rfl⟩
    · exact h
noncomputable def e_kind_Sign : Entry := ⟨[none, none], false, fun args H K => match args, H with
  | [.int .u8 a0, .agg [.int .u64 a1_0, .int .u64 a1_1]], [] => kind_Sign a0 a1_0 a1_1 (fun y0 => K (EV.bool y0) [])
  | _, _ => False⟩
noncomputable def l_kind_Sign : List (Nat × Entry) := [(53, e_shape_Fits), (55, e_shape_Width), (107, e_wide_Bit), (111, e_wide_OfBits)]
noncomputable def E_kind_Sign : Env := ⟨look tys, look l_kind_Sign, look [], gl, lookL [], false⟩
theorem X_kind_Sign.eq (a0 : Int) (a1_0 : Int) (a1_1 : Int) (K : EV → Heap → Prop) : evFn E_kind_Sign Tryd.f81 false [.int .u8 a0, .agg [.int .u64 a1_0, .int .u64 a1_1]] [] K = kind_Sign a0 a1_0 a1_1 (fun y0 => K (EV.bool y0) []) := by
  rw [kind_Sign.is]; exact (evFnQ_eq _ _ _ _ _ _).symm.trans (by kernel_rfl)
theorem X_kind_Sign.ok : SoundE Tryd.prog gl 81 e_kind_Sign := by
  refine fnOK (E := E_kind_Sign) (fn := Tryd.f81) rfl tys_ok rfl (show AllL _ l_kind_Sign from ⟨X_shape_Fits.ok, X_shape_Width.ok, X_wide_Bit.ok, X_wide_OfBits.ok, trivial⟩) mixed (by kernel_rfl) (by kernel_rfl) (by kernel_rfl) 0 (by kernel_rfl) false trivial ?_
  intro args H
  by_cases hx : ∃ (a0 : Int) (a1_0 : Int) (a1_1 : Int), args = [.int .u8 a0, .agg [.int .u64 a1_0, .int .u64 a1_1]] ∧ H = []
  · obtain ⟨a0, a1_0, a1_1, rfl, rfl⟩ := hx
    right; intro K
    exact iff_of_eq (X_kind_Sign.eq a0 a1_0 a1_1 K).symm
  · left; intro K h
    simp only [e_kind_Sign] at h
    split at h
    · exact hx ⟨_, _, _, rfl, rfl⟩
    · exact h
noncomputable def e_shape_at : Entry := ⟨[none, none], false, fun args H K => match args, H with
  | [.int .u64 a0, .int .i64 a1], [] => shape_at a0 a1 (fun y0 y1 => K (EV.agg [EV.int IntKind.u64 y0, EV.int IntKind.u64 y1]) [])
  | _, _ => False⟩
noncomputable def E_shape_at : Env := ⟨look tys, look [], look [], gl, lookL [], false⟩
theorem X_shape_at.eq (a0 : Int) (a1 : Int) (K : EV → Heap → Prop) : evFn E_shape_at Tryd.f115 false [.int .u64 a0, .int .i64 a1] [] K = shape_at a0 a1 (fun y0 y1 => K (EV.agg [EV.int IntKind.u64 y0, EV.int IntKind.u64 y1]) []) := by
  rw [shape_at.is]; exact (evFnQ_eq _ _ _ _ _ _).symm.trans (by kernel_rfl)
theorem X_shape_at.ok : SoundE Tryd.prog gl 115 e_shape_at := by
  refine fnOK (E := E_shape_at) (fn := Tryd.f115) rfl tys_ok rfl (show AllL _ [] from trivial) mixed (by kernel_rfl) (by kernel_rfl) (by kernel_rfl) 0 (by kernel_rfl) false trivial ?_
  intro args H
  by_cases hx : ∃ (a0 : Int) (a1 : Int), args = [.int .u64 a0, .int .i64 a1] ∧ H = []
  · obtain ⟨a0, a1, rfl, rfl⟩ := hx
    right; intro K
    exact iff_of_eq (X_shape_at.eq a0 a1 K).symm
  · left; intro K h
    simp only [e_shape_at] at h
    split at h
    · exact hx ⟨_, _, rfl, rfl⟩
    · exact h
noncomputable def e_shape_with : Entry := ⟨[none, none, none], false, fun args H K => match args, H with
  | [.int .u8 a0, .agg [.int .u64 a1_0, .int .u64 a1_1], .bool a2], [] => shape_with a0 a1_0 a1_1 a2 (fun y0 y1 => K (EV.agg [EV.int IntKind.u64 y0, EV.int IntKind.u64 y1]) [])
  | _, _ => False⟩
noncomputable def l_shape_with : List (Nat × Entry) := [(55, e_shape_Width), (57, e_shape_Check), (115, e_shape_at)]
noncomputable def E_shape_with : Env := ⟨look tys, look l_shape_with, look [], gl, lookL [], false⟩
theorem X_shape_with.eq (a0 : Int) (a1_0 : Int) (a1_1 : Int) (a2 : Bool) (K : EV → Heap → Prop) : evFn E_shape_with Tryd.f94 false [.int .u8 a0, .agg [.int .u64 a1_0, .int .u64 a1_1], .bool a2] [] K = shape_with a0 a1_0 a1_1 a2 (fun y0 y1 => K (EV.agg [EV.int IntKind.u64 y0, EV.int IntKind.u64 y1]) []) := by
  rw [shape_with.is]; exact (evFnQ_eq _ _ _ _ _ _).symm.trans (by kernel_rfl)
theorem X_shape_with.ok : SoundE Tryd.prog gl 94 e_shape_with := by
  refine fnOK (E := E_shape_with) (fn := Tryd.f94) rfl tys_ok rfl (show AllL _ l_shape_with from ⟨X_shape_Width.ok, X_shape_Check.ok, X_shape_at.ok, trivial⟩) mixed (by kernel_rfl) (by kernel_rfl) (by kernel_rfl) 0 (by kernel_rfl) false trivial ?_
  intro args H
  by_cases hx : ∃ (a0 : Int) (a1_0 : Int) (a1_1 : Int) (a2 : Bool), args = [.int .u8 a0, .agg [.int .u64 a1_0, .int .u64 a1_1], .bool a2] ∧ H = []
  · obtain ⟨a0, a1_0, a1_1, a2, rfl, rfl⟩ := hx
    right; intro K
    exact iff_of_eq (X_shape_with.eq a0 a1_0 a1_1 a2 K).symm
  · left; intro K h
    simp only [e_shape_with] at h
    split at h
    · exact hx ⟨_, _, _, _, rfl, rfl⟩
    · exact h
noncomputable def e_shape_Zero : Entry := ⟨[none, none], false, fun args H K => match args, H with
  | [.int .u8 a0, .bool a1], [] => shape_Zero a0 a1 (fun y0 y1 => K (EV.agg [EV.int IntKind.u64 y0, EV.int IntKind.u64 y1]) [])
  | _, _ => False⟩
noncomputable def l_shape_Zero : List (Nat × Entry) := [(94, e_shape_with)]
noncomputable def E_shape_Zero : Env := ⟨look tys, look l_shape_Zero, look [], gl, lookL [], false⟩
theorem X_shape_Zero.eq (a0 : Int) (a1 : Bool) (K : EV → Heap → Prop) : evFn E_shape_Zero Tryd.f63 false [.int .u8 a0, .bool a1] [] K = shape_Zero a0 a1 (fun y0 y1 => K (EV.agg [EV.int IntKind.u64 y0, EV.int IntKind.u64 y1]) []) := by
  rw [shape_Zero.is]; exact (evFnQ_eq _ _ _ _ _ _).symm.trans (by kernel_rfl)
theorem X_shape_Zero.ok : SoundE Tryd.prog gl 63 e_shape_Zero := by
  refine fnOK (E := E_shape_Zero) (fn := Tryd.f63) rfl tys_ok rfl (show AllL _ l_shape_Zero from ⟨X_shape_with.ok, trivial⟩) mixed (by kernel_rfl) (by kernel_rfl) (by kernel_rfl) 0 (by kernel_rfl) false trivial ?_
  intro args H
  by_cases hx : ∃ (a0 : Int) (a1 : Bool), args = [.int .u8 a0, .bool a1] ∧ H = []
  · obtain ⟨a0, a1, rfl, rfl⟩ := hx
    right; intro K
    exact iff_of_eq (X_shape_Zero.eq a0 a1 K).symm
  · left; intro K h
    simp only [e_shape_Zero] at h
    split at h
    · exact hx ⟨_, _, rfl, rfl⟩
    · exact h
noncomputable def e_order_key : Entry := ⟨[none, none], false, fun args H K => match args, H with
  | [.int .u8 a0, .agg [.int .u64 a1_0, .int .u64 a1_1]], [] => order_key a0 a1_0 a1_1 (fun y0 y1 => K (EV.agg [EV.int IntKind.u64 y0, EV.int IntKind.u64 y1]) [])
  | _, _ => False⟩
noncomputable def l_order_key : List (Nat × Entry) := [(63, e_shape_Zero), (81, e_kind_Sign)]
noncomputable def E_order_key : Env := ⟨look tys, look l_order_key, look [], gl, lookL [], false⟩
theorem X_order_key.eq (a0 : Int) (a1_0 : Int) (a1_1 : Int) (K : EV → Heap → Prop) : evFn E_order_key Tryd.f95 false [.int .u8 a0, .agg [.int .u64 a1_0, .int .u64 a1_1]] [] K = order_key a0 a1_0 a1_1 (fun y0 y1 => K (EV.agg [EV.int IntKind.u64 y0, EV.int IntKind.u64 y1]) []) := by
  rw [order_key.is]; exact (evFnQ_eq _ _ _ _ _ _).symm.trans (by kernel_rfl)
theorem X_order_key.ok : SoundE Tryd.prog gl 95 e_order_key := by
  refine fnOK (E := E_order_key) (fn := Tryd.f95) rfl tys_ok rfl (show AllL _ l_order_key from ⟨X_shape_Zero.ok, X_kind_Sign.ok, trivial⟩) mixed (by kernel_rfl) (by kernel_rfl) (by kernel_rfl) 0 (by kernel_rfl) false trivial ?_
  intro args H
  by_cases hx : ∃ (a0 : Int) (a1_0 : Int) (a1_1 : Int), args = [.int .u8 a0, .agg [.int .u64 a1_0, .int .u64 a1_1]] ∧ H = []
  · obtain ⟨a0, a1_0, a1_1, rfl, rfl⟩ := hx
    right; intro K
    exact iff_of_eq (X_order_key.eq a0 a1_0 a1_1 K).symm
  · left; intro K h
    simp only [e_order_key] at h
    split at h
    · exact hx ⟨_, _, _, rfl, rfl⟩
    · exact h
noncomputable def e_order_total : Entry := ⟨[none, none, none], false, fun args H K => match args, H with
  | [.int .u8 a0, .agg [.int .u64 a1_0, .int .u64 a1_1], .agg [.int .u64 a2_0, .int .u64 a2_1]], [] => order_total a0 a1_0 a1_1 a2_0 a2_1 (fun y0 => K (EV.int IntKind.i64 y0) [])
  | _, _ => False⟩
noncomputable def l_order_total : List (Nat × Entry) := [(81, e_kind_Sign), (95, e_order_key)]
noncomputable def E_order_total : Env := ⟨look tys, look l_order_total, look [], gl, lookL [], false⟩
theorem X_order_total.eq (a0 : Int) (a1_0 : Int) (a1_1 : Int) (a2_0 : Int) (a2_1 : Int) (K : EV → Heap → Prop) : evFn E_order_total Tryd.f65 false [.int .u8 a0, .agg [.int .u64 a1_0, .int .u64 a1_1], .agg [.int .u64 a2_0, .int .u64 a2_1]] [] K = order_total a0 a1_0 a1_1 a2_0 a2_1 (fun y0 => K (EV.int IntKind.i64 y0) []) := by
  rw [order_total.is]; exact (evFnQ_eq _ _ _ _ _ _).symm.trans (by kernel_rfl)
theorem X_order_total.ok : SoundE Tryd.prog gl 65 e_order_total := by
  refine fnOK (E := E_order_total) (fn := Tryd.f65) rfl tys_ok rfl (show AllL _ l_order_total from ⟨X_kind_Sign.ok, X_order_key.ok, trivial⟩) mixed (by kernel_rfl) (by kernel_rfl) (by kernel_rfl) 0 (by kernel_rfl) false trivial ?_
  intro args H
  by_cases hx : ∃ (a0 : Int) (a1_0 : Int) (a1_1 : Int) (a2_0 : Int) (a2_1 : Int), args = [.int .u8 a0, .agg [.int .u64 a1_0, .int .u64 a1_1], .agg [.int .u64 a2_0, .int .u64 a2_1]] ∧ H = []
  · obtain ⟨a0, a1_0, a1_1, a2_0, a2_1, rfl, rfl⟩ := hx
    right; intro K
    exact iff_of_eq (X_order_total.eq a0 a1_0 a1_1 a2_0 a2_1 K).symm
  · left; intro K h
    simp only [e_order_total] at h
    split at h
    · exact hx ⟨_, _, _, _, _, rfl, rfl⟩
    · exact h
noncomputable def e_order_Sort_1 : Entry := ⟨[none, none], false, fun args H K => match args, H with
  | [.agg [.int .u64 a0_0, .int .u64 a0_1], .agg [.int .u64 a1_0, .int .u64 a1_1], .rref (.int .u8 c0)], [] => order_Sort_1 a0_0 a0_1 a1_0 a1_1 c0 (fun y0 => K (EV.int IntKind.i64 y0) [])
  | _, _ => False⟩
noncomputable def l_order_Sort_1 : List (Nat × Entry) := [(65, e_order_total)]
noncomputable def E_order_Sort_1 : Env := ⟨look tys, look l_order_Sort_1, look [], gl, lookL [], false⟩
theorem X_order_Sort_1.eq (a0_0 : Int) (a0_1 : Int) (a1_0 : Int) (a1_1 : Int) (c0 : Int) (K : EV → Heap → Prop) : evFn E_order_Sort_1 Tryd.f78 false [.agg [.int .u64 a0_0, .int .u64 a0_1], .agg [.int .u64 a1_0, .int .u64 a1_1], .rref (.int .u8 c0)] [] K = order_Sort_1 a0_0 a0_1 a1_0 a1_1 c0 (fun y0 => K (EV.int IntKind.i64 y0) []) := by
  rw [order_Sort_1.is]; exact (evFnQ_eq _ _ _ _ _ _).symm.trans (by kernel_rfl)
theorem X_order_Sort_1.ok : SoundE Tryd.prog gl 78 e_order_Sort_1 := by
  refine fnOK (E := E_order_Sort_1) (fn := Tryd.f78) rfl tys_ok rfl (show AllL _ l_order_Sort_1 from ⟨X_order_total.ok, trivial⟩) mixed (by kernel_rfl) (by kernel_rfl) (by kernel_rfl) 0 (by kernel_rfl) false trivial ?_
  intro args H
  by_cases hx : ∃ (a0_0 : Int) (a0_1 : Int) (a1_0 : Int) (a1_1 : Int) (c0 : Int), args = [.agg [.int .u64 a0_0, .int .u64 a0_1], .agg [.int .u64 a1_0, .int .u64 a1_1], .rref (.int .u8 c0)] ∧ H = []
  · obtain ⟨a0_0, a0_1, a1_0, a1_1, c0, rfl, rfl⟩ := hx
    right; intro K
    exact iff_of_eq (X_order_Sort_1.eq a0_0 a0_1 a1_0 a1_1 c0 K).symm
  · left; intro K h
    simp only [e_order_Sort_1] at h
    split at h
    · exact hx ⟨_, _, _, _, _, rfl, rfl⟩
    · exact h
end Go.Ev.S

/- order.Sort: that it sorts, in new memory. -/
set_option maxRecDepth 100000
set_option linter.unusedVariables false
set_option linter.unusedSimpArgs false
namespace Go.Ev.S
open Go Go.Proofs Go.Ev Go.RowKit Go.Lib Go.Sort
open Go.Shelf in
def lays_sortFunc_ren : Go.Shelf.Ren := ⟨fun | 6 => 77 | 15 => 110 | 14 => 109 | 28 => 137 | 29 => 138 | 20 => 129 | 21 => 130 | 22 => 131 | 23 => 132 | 24 => 133 | 25 => 134 | 26 => 135 | 27 => 136 | 46 => 149 | 47 => 150 | 48 => 151 | 49 => 152 | 50 => 153 | 57 => 155 | n => n, fun | 22 => 53 | 24 => 25 | 25 => 102 | 3 => 3 | 39 => 77 | 0 => 0 | 53 => 151 | 55 => 23 | 4 => 4 | 46 => 144 | 45 => 143 | 50 => 148 | 5 => 5 | 9 => 9 | 66 => 157 | 70 => 160 | 76 => 162 | 77 => 96 | n => n, fun | n => n⟩
open Go.Shelf in
theorem lays_sortFunc : Go.Proofs.SlLaysF0.n6 Tryd.prog lays_sortFunc_ren where
  mixed := by kernel_rfl
  f6 := ⟨"slices.SortFunc[[]abacus/api.Bits,abacus/api.Bits]", by decide, Tryd.func77.trans (congrArg some (by kernel_rfl))⟩
  f14 := ⟨"slices.pdqsortCmpFunc[abacus/api.Bits]", by decide, Tryd.func109.trans (congrArg some (by kernel_rfl))⟩
  f15 := Tryd.func110.trans (congrArg some (by kernel_rfl))
  f20 := ⟨"slices.insertionSortCmpFunc[abacus/api.Bits]", by decide, Tryd.func129.trans (congrArg some (by kernel_rfl))⟩
  f21 := ⟨"slices.heapSortCmpFunc[abacus/api.Bits]", by decide, Tryd.func130.trans (congrArg some (by kernel_rfl))⟩
  f22 := ⟨"slices.breakPatternsCmpFunc[abacus/api.Bits]", by decide, Tryd.func131.trans (congrArg some (by kernel_rfl))⟩
  f23 := ⟨"slices.choosePivotCmpFunc[abacus/api.Bits]", by decide, Tryd.func132.trans (congrArg some (by kernel_rfl))⟩
  f24 := ⟨"slices.reverseRangeCmpFunc[abacus/api.Bits]", by decide, Tryd.func133.trans (congrArg some (by kernel_rfl))⟩
  f25 := ⟨"slices.partialInsertionSortCmpFunc[abacus/api.Bits]", by decide, Tryd.func134.trans (congrArg some (by kernel_rfl))⟩
  f26 := ⟨"slices.partitionEqualCmpFunc[abacus/api.Bits]", by decide, Tryd.func135.trans (congrArg some (by kernel_rfl))⟩
  f27 := ⟨"slices.partitionCmpFunc[abacus/api.Bits]", by decide, Tryd.func136.trans (congrArg some (by kernel_rfl))⟩
  f28 := Tryd.func137.trans (congrArg some (by kernel_rfl))
  f29 := Tryd.func138.trans (congrArg some (by kernel_rfl))
  f46 := ⟨"slices.siftDownCmpFunc[abacus/api.Bits]", by decide, Tryd.func149.trans (congrArg some (by kernel_rfl))⟩
  f47 := Tryd.func150.trans (congrArg some (by kernel_rfl))
  f48 := Tryd.func151.trans (congrArg some (by kernel_rfl))
  f49 := ⟨"slices.medianAdjacentCmpFunc[abacus/api.Bits]", by decide, Tryd.func152.trans (congrArg some (by kernel_rfl))⟩
  f50 := ⟨"slices.medianCmpFunc[abacus/api.Bits]", by decide, Tryd.func153.trans (congrArg some (by kernel_rfl))⟩
  f57 := ⟨"slices.order2CmpFunc[abacus/api.Bits]", by decide, Tryd.func155.trans (congrArg some (by kernel_rfl))⟩
  t0 := Tryd.underlying0
  a0 := Tryd.isAgg0
  z0 := Tryd.sizeOf0
  v0 := Tryd.zeroValue0
  t3 := Tryd.underlying3
  a3 := Tryd.isAgg3
  z3 := Tryd.sizeOf3
  v3 := Tryd.zeroValue3
  t4 := Tryd.underlying4
  a4 := Tryd.isAgg4
  z4 := Tryd.sizeOf4
  v4 := Tryd.zeroValue4
  t5 := Tryd.underlying5
  a5 := Tryd.isAgg5
  z5 := Tryd.sizeOf5
  v5 := Tryd.zeroValue5
  t9 := Tryd.underlying9
  a9 := Tryd.isAgg9
  z9 := Tryd.sizeOf9
  v9 := Tryd.zeroValue9
  t22 := Tryd.underlying53
  a22 := Tryd.isAgg53
  z22 := Tryd.sizeOf53
  v22 := Tryd.zeroValue53
  t25 := Tryd.underlying102
  a25 := Tryd.isAgg102
  z25 := Tryd.sizeOf102
  v25 := Tryd.zeroValue102
  t39 := Tryd.underlying77
  a39 := Tryd.isAgg77
  z39 := Tryd.sizeOf77
  v39 := Tryd.zeroValue77
  t45 := Tryd.underlying143
  a45 := Tryd.isAgg143
  z45 := Tryd.sizeOf143
  v45 := Tryd.zeroValue143
  t46 := Tryd.underlying144
  a46 := Tryd.isAgg144
  z46 := Tryd.sizeOf144
  v46 := Tryd.zeroValue144
  t50 := Tryd.underlying148
  a50 := Tryd.isAgg148
  z50 := Tryd.sizeOf148
  v50 := Tryd.zeroValue148
  t53 := Tryd.underlying151
  a53 := Tryd.isAgg151
  z53 := Tryd.sizeOf151
  v53 := Tryd.zeroValue151
  t55 := Tryd.underlying23
  a55 := Tryd.isAgg23
  z55 := Tryd.sizeOf23
  v55 := Tryd.zeroValue23
  t66 := Tryd.underlying157
  a66 := Tryd.isAgg157
  z66 := Tryd.sizeOf157
  v66 := Tryd.zeroValue157
  t70 := Tryd.underlying160
  a70 := Tryd.isAgg160
  z70 := Tryd.sizeOf160
  v70 := Tryd.zeroValue160
  t76 := Tryd.underlying162
  a76 := Tryd.isAgg162
  z76 := Tryd.sizeOf162
  v76 := Tryd.zeroValue162
  t77 := Tryd.underlying96
  a77 := Tryd.isAgg96
  z77 := Tryd.sizeOf96
  v77 := Tryd.zeroValue96
abbrev skB : Sk := .agg [.int .u64, .int .u64]
theorem wpList_append_run {P : Program} {w : World} {ops : Array Oper} {rest : List Oper} {o : Oper} {a : Act} {Q : Exit → Act → World → Prop} (hgd : o.guard = none) (s x : Operand) (t : TypeId)
    (ho : o.op = .call { callee := .builtin .append, args := #[s, x], argTypes := #[t, t] }) {S X z : Value} {w' : World} (hs : a.eval s = S) (hx : a.eval x = X) (hr : (Builtin.append_ #[t, t] o.type #[S, X]).run P w = .ok z w')
    (h : wpList P ops Q rest (a.put o.dst z) w') : wpList P ops Q (o :: rest) a w := by
  refine wpList_plain hgd fun K hK => ?_
  unfold Oper.wp execOp
  simp only [ho, resolve, invoke, builtin, Sem.run_bind, Sem.run_pure, Result.andThen_ok, List.map_toArray, List.map_cons, List.map_nil, hs, hx, hr]
  exact hK _ _ h
def appK (n : Nat) (g : Nat → Nat → Lf) : EV → Heap → Prop := fun v H' => v = EV.slice 1 0 (0 + n) none 2 ∧ H' = [none, some (EV.arrT (0 + n) skB (appT 0 (shiftT 0 z2) g))]
theorem append_new (w : World) (b o n c : Nat) (g : Nat → Nat → Lf) (hn : 0 < n) (hn2 : n ≤ 1000) (hc : n ≤ c) (hb : b < w.heap.size) (hcells : CellsAt w b o (Go.Ev.tabL skB n g)) :
    ∃ B O cap cs e fz w', (Builtin.append_ #[53, 53] 53 #[.slice (some ⟨w.heap.size, 0, none⟩) 0 0, .slice (some ⟨b, o, none⟩) n c]).run Tryd.prog (w.alloc (.cells #[] 25)) = .ok (.slice (some ⟨B, O, none⟩) n cap) w' ∧
      w.heap.size ≤ B ∧ w'.heap[B]? = some (.cells cs e fz) ∧ (∀ o, o < cs.size → ¬ (fz.1 ≤ o ∧ o < fz.2)) ∧ n ≤ cap ∧ O + cap * 2 ≤ cs.size ∧ CellsAt w' B O (Go.Ev.tabL skB n g) ∧ Below w.heap.size w w' ∧ w.drawn ≤ w'.drawn := by
  have hf : skB.flat = true := rfl
  have hS0 : Sim ⟨[], []⟩ [] w := ⟨rfl, by intro b h; simp at h, by intro b r h; simp at h, by intro b r h; simp at h, by intro b c r s h; simp at h, by intro b v h; simp at h⟩
  obtain ⟨ρ1, rfl, hS1, hX1⟩ := hS0.new (.arrT 0 skB z2) (.agg #[]) 25 (by simp only [Rel]; exact ⟨#[], rfl, rfl, fun i hi => absurd hi (by omega)⟩)
  simp only [List.nil_append] at hS1 hX1
  have hc1 : (w.alloc (.cells #[] 25)) = w.alloc (.cells (Value.agg #[]).cells 25) := rfl
  have hr1 : Rel ⟨[], [some { mb := w.heap.size, base := 0, sh := (EV.arrT 0 skB z2).shape }]⟩ (w.alloc (.cells #[] 25)) (.slice 0 0 0 (some 0) 2) (.slice (some ⟨w.heap.size, 0, none⟩) 0 0) := by
    simp only [Rel]
    refine ⟨_, _, rfl, _, rfl, fun i hi => ?_⟩
    cases hi
    exact ⟨0, .inr (.inr ⟨_, rfl, rfl⟩), Nat.le_refl _, Nat.le_refl _, (fun c0 h => by cases h; exact ⟨rfl, Nat.le_refl _⟩), .inr (by simp)⟩
  have hr2 : Rel ⟨[], [some { mb := w.heap.size, base := 0, sh := (EV.arrT 0 skB z2).shape }]⟩ (w.alloc (.cells #[] 25)) (.rsT n skB g) (.slice (some ⟨b, o, none⟩) n c) := by
    simp only [Rel]
    refine ⟨_, _, rfl, hc, .inr ⟨b, o, rfl, by simp; omega, by simp [Ren.mbs, Ren.own]; omega, ?_⟩⟩
    refine (tab_rows hf).1 ?_
    exact hcells.keep (by rw [alloc_heap, if_neg (by omega)])
  obtain ⟨v, H', ρ', w', z, hK, hS', hX', hF', hz, hrun⟩ := evAppendT_sound (E := E_order_fitsT) (P := Tryd.prog) (t := 53) (t' := 53) (ty := 53) (K := appK n g) (fun t ti h => look_all _ tys_ok _ _ h) hS1 hr1 hr2 (by
      have e : evAppendT E_order_fitsT 53 53 (.slice 0 0 0 (some 0) 2) (.rsT n skB g) [some (.arrT 0 skB z2)] (appK n g) =
          gd (Nat.beq 53 53 && (skTy E_order_fitsT skB 9 25 && (Nat.ble 1 16 && Nat.ble 16 64))) (gd (skB.beq skB && (Nat.beq 2 2 && leN ((0 + n) * 16) 140737488355328)) (appK n g (.slice 1 0 (0 + n) none 2) [none, some (.arrT (0 + n) skB (appT 0 (shiftT 0 z2) g))])) := by kernel_rfl
      rw [e, gd_t (by kernel_rfl), gd_t (by
        have : leN ((0 + n) * 16) 140737488355328 = true := by unfold leN; exact Nat.ble_eq_true_of_le (by omega)
        rw [this]; rfl)]
      exact ⟨rfl, rfl⟩)
  obtain ⟨rfl, rfl⟩ := hK
  have happ : appT 0 (shiftT 0 z2) g = g := by funext i c; simp only [appT, Nat.sub_zero]; rw [show Nat.blt i 0 = false from by cases i <;> rfl]; rfl
  rw [happ, Nat.zero_add] at hS'
  rw [Nat.zero_add] at hz
  obtain ⟨r, a, cap, cs, e, fz, rfl, q1, q2, q3, q4, q5, q6, q7, q8, q9⟩ := hS'.rowT hf (b := 1) rfl hz
  rcases q9 with ⟨rfl, q9⟩ | ⟨q9, _⟩
  · have hle : w.heap.size ≤ r.mb := by
      rcases Nat.lt_or_ge r.mb w.heap.size with hh | hh
      · exact absurd (mem_own q1) (hX'.newOwn r.mb (by simp; omega) (by simp [Ren.own]; omega))
      · exact hh
    have hbel : Below w.heap.size w w' := by
      refine ⟨hX'.os, hX'.tape, hX'.output, Nat.le_trans (by simp) hX'.size, fun k hk => ?_⟩
      rw [hX'.out k (by simp; omega) (by simp [Ren.own]; omega), alloc_heap, if_neg (by omega)]
    rw [Nat.zero_mul, Nat.add_zero] at hrun
    rw [Nat.zero_add] at q9
    exact ⟨r.mb, r.base, cap, cs, e, fz, w', hrun, hle, q3, q4, q8, q9, q6, hbel, Nat.le_trans (Nat.le_refl _) hX'.drawn⟩
  · omega
set_option maxHeartbeats 2000000 in
theorem clone_calls (w : World) (b o n c : Nat) (g : Nat → Nat → Lf) (hn : 0 < n) (hn2 : n ≤ 1000) (hc : n ≤ c) (hb : b < w.heap.size) (hcells : CellsAt w b o (Go.Ev.tabL skB n g)) :
    Calls Tryd.prog 76 #[.slice (some ⟨b, o, none⟩) n c] w fun e w' => ∃ B O cap cs e' fz, e = .returned (.slice (some ⟨B, O, none⟩) n cap) ∧
      w.heap.size ≤ B ∧ w'.heap[B]? = some (.cells cs e' fz) ∧ (∀ o, o < cs.size → ¬ (fz.1 ≤ o ∧ o < fz.2)) ∧ n ≤ cap ∧ O + cap * 2 ≤ cs.size ∧ CellsAt w' B O (Go.Ev.tabL skB n g) ∧ RowKit.Below w.heap.size w w' ∧ w.drawn ≤ w'.drawn := by
  obtain ⟨B, O, cap, cs, e', fz, w', hrun, hrest⟩ := append_new w b o n c g hn hn2 hc hb hcells
  have q53 : ∀ (w : World) (a : Option Addr) (n c n' c' : Nat), (binOp .eql 53 (.slice a n c) (.slice none n' c')).run Tryd.prog w = .ok (.bool a.isNone) w := fun w a n c n' c' => Lib.run_eql_slice_nil w _ _ a n c n' c' Tryd.underlying53
  go_enter Tryd.func76, Tryd.ntmps76
  go_wp2_with (at_builtin; refine wpList_append_run rfl _ _ 53 rfl rfl rfl hrun ?_)
  go_ret
  exact ⟨B, O, cap, cs, e', fz, rfl, hrest⟩
def encB {f : Nat} (x : Wf f) : List Value := [.int .u64 (Hi x.1), .int .u64 (Lo x.1)]
theorem cel_B (r : Nat → Lf) : skB.cel r = [.int .u64 (r 0).toI, .int .u64 (r 1).toI] := rfl
theorem flat_tab {f n : Nat} (L : List (Wf f)) (hL : L.length = n) (g : Nat → Nat → Lf) (h : ∀ i (v : Wf f), L[i]? = some v → at_ g i v.1) : flatK encB 2 L.toArray = (Go.Ev.tabL skB n g).toArray := by
  have hf : skB.flat = true := rfl
  have hlen := tabL_length hf n g
  have hsz : skB.shape.size = 2 := rfl
  rw [hsz] at hlen
  refine ext_get! (by simp [hL, hlen]) fun t ht => ?_
  rw [size_flatK, List.size_toArray, hL] at ht
  rw [get_flatK _ _ _ _ (by simpa [hL] using ht)]
  have hd : t / 2 < n := by omega
  obtain ⟨v, hv⟩ : ∃ v, L[t / 2]? = some v := ⟨L[t / 2]'(by omega), List.getElem?_eq_getElem (by omega)⟩
  obtain ⟨h0, h1⟩ := h _ _ hv
  have e1 : L.toArray[t / 2]! = v := by
    rw [getElem!_pos _ _ (by simpa [hL] using hd)]
    rw [List.getElem?_eq_getElem (by omega), Option.some.injEq] at hv
    simpa using hv
  have e2 := tabL_get hf n g (t / 2) (t % 2) hd (by rw [hsz]; omega)
  rw [hsz, show t / 2 * 2 + t % 2 = t from by omega, cel_B, h0, h1] at e2
  rw [e1]
  rw [getElem!_pos (Go.Ev.tabL skB n g).toArray t (by simp [hlen]; omega)]
  have e3 : (Go.Ev.tabL skB n g)[t]? = some ((Go.Ev.tabL skB n g)[t]'(by omega)) := List.getElem?_eq_getElem (by omega)
  rw [e3] at e2
  rcases (show t % 2 = 0 ∨ t % 2 = 1 by omega) with q | q
  · rw [q] at e2 ⊢
    simp only [List.getElem?_cons_zero, Option.some.injEq] at e2
    simp only [List.getElem_toArray]
    rw [e2]; rfl
  · rw [q] at e2 ⊢
    simp only [List.getElem?_cons_succ, List.getElem?_cons_zero, Option.some.injEq] at e2
    simp only [List.getElem_toArray]
    rw [e2]; rfl
theorem srt_at (f n : Nat) (g : Nat → Nat → Lf) (i : Nat) (v : Wf f) (h : (srtL f n g)[i]? = some v) : at_ (srt f n g) i v.1 := by
  constructor
  · show (rowOf (((srtL f n g)[i]?).getD default).1 0).toI = _
    rw [h]; rfl
  · show (rowOf (((srtL f n g)[i]?).getD default).1 1).toI = _
    rw [h]; rfl
theorem arr_at {f n : Nat} (h : f ≤ 3) {g : Nat → Nat → Lf} (ho : okA f n g) (i : Nat) (v : Wf f) (hv : (arrOf f n g)[i]? = some v) : at_ g i v.1 := by
  unfold arrOf at hv
  rw [List.getElem?_map] at hv
  have hi : i < n := by
    rcases Nat.lt_or_ge i n with hh | hh
    · exact hh
    · rw [List.getElem?_eq_none (by simpa using hh)] at hv; cases hv
  rw [List.getElem?_range hi] at hv
  obtain ⟨x, hx, e0, e1⟩ := ho i hi
  simp only [Option.map_some, Option.some.injEq] at hv
  subst hv
  simp only [rowN_of h hx e0 e1, Nat.mod_eq_of_lt hx]
  exact ⟨e0, e1⟩
theorem ext_grow {w w' : World} (h : Ext ⟨[], []⟩ w ⟨[], []⟩ w') : ∃ q os, w' = grow (w.drewN q) os := by
  refine ⟨w'.drawn - w.drawn, w'.heap.extract w.heap.size w'.heap.size, ?_⟩
  obtain ⟨hp, tp, dr, os, out⟩ := w'
  have h1 := h.os; have h2 := h.tape; have h3 := h.output; have h4 := h.drawn; have h5 := h.size; have h6 := h.out
  simp only at h1 h2 h3 h4 h5 h6
  unfold grow World.drewN
  simp only
  rw [h1, h2, h3, show w.drawn + (dr - w.drawn) = dr from by omega]
  congr 1
  apply Array.ext_getElem?
  intro k
  rw [Array.getElem?_append]
  by_cases hk : k < w.heap.size
  · rw [if_pos hk]
    exact h6 k hk (by simp [Go.Ev.Ren.own])
  · rw [if_neg hk, Array.getElem?_extract]
    by_cases hk2 : k < hp.size
    · rw [if_pos (by omega)]; congr 1; omega
    · rw [if_neg (by omega), Array.getElem?_eq_none (by omega)]
theorem GOk.of_below {ρ : Go.Ev.Ren} {w W : World} (h : GOk gl ρ w) (hb : ∀ k, k < w.heap.size → k ∉ ρ.mbs → W.heap[k]? = w.heap[k]?) (hs : w.heap.size ≤ W.heap.size) : GOk gl ⟨[], []⟩ W := by
  have h0 : GOk gl ⟨[], []⟩ w := h.sub fun b hb => by simp [Ren.mbs, Ren.own] at hb
  intro g v hg
  obtain ⟨e1, e2, e3⟩ := h g v hg
  have hv : v = .arr .u8 64 tab_deBruijn64tab := by
    have hg' := hg
    unfold gl Go.Ev.look at hg'
    cases hq : Nat.beq 0 g with
    | true => rw [hq] at hg'; simpa using hg'.symm
    | false => rw [hq] at hg'; simp [Go.Ev.look] at hg'
  obtain ⟨b, o, y, f1, f2, f3, f4, f5⟩ := e2
  cases f1
  have hbl := hb g f3 f4
  refine ⟨e1, ⟨g, 0, y, rfl, ?_, Nat.lt_of_lt_of_le f3 hs, by simp [Ren.mbs, Ren.own], f5.keep hbl⟩, fun k n ff he => ?_⟩
  · subst hv; exact f2
  · obtain ⟨cs, t, fz, q1, q2⟩ := e3 k n ff he
    exact ⟨cs, t, fz, hbl.trans q1, q2⟩
theorem cmp_lays (f : Nat) (h : f ≤ 3) (w : World) (pc : Nat) (blk off size : Nat) (hpc : pc < w.heap.size) (hne : pc ≠ blk) (hblk : blk < w.heap.size) (hcell : w.cell? ⟨pc, 0, none⟩ = some (.int .u8 f)) (hG : ∀ W, (∀ k, k < w.heap.size → k ≠ blk → W.heap[k]? = w.heap[k]?) → w.heap.size ≤ W.heap.size → GOk gl ⟨[], []⟩ W) :
    CmpLays Tryd.prog 78 #[.pointer (some ⟨pc, 0, none⟩)] (encB (f := f)) 2 (cfW f) blk off size w := by
  intro m os dk hs x y
  obtain ⟨W, hW⟩ : ∃ W, W = sortWorldK (encB (f := f)) 2 w blk off m dk os := ⟨_, rfl⟩
  rw [← hW]
  have hsz : w.heap.size ≤ W.heap.size := by rw [hW]; unfold sortWorldK putRowK; simp
  have hold : ∀ k, k < w.heap.size → k ≠ blk → W.heap[k]? = w.heap[k]? := by
    intro k hk hkb
    rw [hW]
    unfold sortWorldK putRowK putRow mapBlock
    rw [heap_grow_old _ _ (by simp; exact hk)]
    simp only [heap_ahead, Array.getElem?_modify]
    rw [if_neg (by omega)]
  have hc : W.cell? ⟨pc, 0, none⟩ = some (.int .u8 f) := by rw [cell_of_heap (hold pc hpc hne)]; exact hcell
  have hp := X_order_Sort_1.ok.sound.plain (F := []) (w := W) (args := [.agg [.int .u64 (Hi x.1), .int .u64 (Lo x.1)], .agg [.int .u64 (Hi y.1), .int .u64 (Lo y.1)], .rref (.int .u8 f)]) (xs := [.agg (encB x).toArray, .agg (encB y).toArray, .pointer (some ⟨pc, 0, none⟩)]) (K := fun v => v = .int .i64 (cfW f x y))
    (by
      show order_Sort_1 _ _ _ _ _ _
      rw [order_Sort_1.is]; unfold order_Sort_1.d
      refine order_total_ok f x.1 y.1 h x.2 y.2 _ ?_
      exact (gd_iff _ _).2 ⟨rfl, rfl⟩)
    (by
      refine ⟨_, _, rfl, ?_, _, _, rfl, ?_, _, _, rfl, ?_, rfl⟩
      · simp only [Rel]; exact ⟨_, rfl, ⟨_, _, rfl, rfl, _, _, rfl, rfl, rfl⟩⟩
      · simp only [Rel]; exact ⟨_, rfl, ⟨_, _, rfl, rfl, _, _, rfl, rfl, rfl⟩⟩
      · simp only [Rel]
        refine ⟨pc, 0, .int .u8 f, rfl, rfl, Nat.lt_of_lt_of_le hpc hsz, by simp [Ren.mbs, Ren.own], ?_⟩
        intro i hi
        have hi0 : i = 0 := by simpa [Value.cells] using hi
        subst hi0
        exact hc) (by simp) (hG W hold hsz)
  refine hp.mono ?_
  rintro e w' ⟨v, z, rfl, rfl, hz, hX⟩
  simp only [Rel] at hz
  subst hz
  exact ⟨rfl, ext_grow hX⟩
theorem sort_calls (f : Nat) (h : f ≤ 3) (n cap : Nat) (g : Nat → Nat → Lf) (ho : okA f n g) (hn2 : n ≤ 1000) (w : World) (pc B O : Nat) (cs : Array Value) (ty : TypeId) (fz : Nat × Nat) (hpc : pc < w.heap.size) (hne : pc ≠ B) (hcell : w.cell? ⟨pc, 0, none⟩ = some (.int .u8 f))
    (hG : ∀ W, (∀ k, k < w.heap.size → k ≠ B → W.heap[k]? = w.heap[k]?) → w.heap.size ≤ W.heap.size → GOk gl ⟨[], []⟩ W)
    (hB : w.heap[B]? = some (.cells cs ty fz)) (hfz : ∀ o, o < cs.size → ¬ (fz.1 ≤ o ∧ o < fz.2)) (hcs : O + n * 2 ≤ cs.size) (hcells : CellsAt w B O (Go.Ev.tabL skB n g)) :
    Calls Tryd.prog 77 #[.slice (some ⟨B, O, none⟩) n cap, .func (.func 78) #[] #[.pointer (some ⟨pc, 0, none⟩)]] w fun e w' => e = .returned (.tuple #[]) ∧ w'.os = w.os ∧ w'.tape = w.tape ∧ w'.output = w.output ∧ w.drawn ≤ w'.drawn ∧ w.heap.size ≤ w'.heap.size ∧
      (∀ k, k < w.heap.size → k ≠ B → w'.heap[k]? = w.heap[k]?) ∧ ∃ cs', w'.heap[B]? = some (.cells cs' ty fz) ∧ cs'.size = cs.size ∧ CellsAt w' B O (Go.Ev.tabL skB n (srt f n g)) := by
  have hf : skB.flat = true := rfl
  have hBlt : B < w.heap.size := (Array.getElem?_eq_some_iff.1 hB).1
  have hlen : (arrOf f n g).length = n := by unfold arrOf; simp
  have hflat := flat_tab (arrOf f n g) hlen g (arr_at h ho)
  have hflat2 := flat_tab (srtL f n g) (srtL_len f n g) (srt f n g) (srt_at f n g)
  have hl1 : (Go.Ev.tabL skB n g).length = n * 2 := tabL_length hf n g
  have hl2 : (Go.Ev.tabL skB n (srt f n g)).length = n * 2 := tabL_length hf n _
  have hH : HoldsK (encB (f := f)) 2 w B O (arrOf f n g).toArray := by
    unfold HoldsK
    rw [hflat]
    intro j hj
    rw [List.size_toArray, hl1] at hj
    constructor
    · have := hcells j (by omega)
      rw [this, List.getElem?_eq_getElem (by omega), getElem!_pos _ _ (by simpa [hl1] using hj)]
      simp
    · simp only [World.frozen?, hB]
      have := hfz (O + j) (by omega)
      rw [Bool.and_eq_false_iff, decide_eq_false_iff_not, decide_eq_false_iff_not]
      by_cases hq : fz.1 ≤ O + j
      · right; intro hq2; exact this ⟨hq, hq2⟩
      · left; exact hq
  have hT : ∀ x y : Wf f, (ltOf (cfW f)) x y = false → (ltOf (cfW f)) y x = false → x = y := fun x y h1 h2 => antiW f h x y ((ltW_f f y x).1 h2) ((ltW_f f x y).1 h1)
  have hcon := AnyQ.slices_SortFunc_total lays_sortFunc 2 Tryd.isAgg25 Tryd.sizeOf25 (encB (f := f)) (fun _ => rfl) (fun x v hv => by simp [encB] at hv; rcases hv with rfl | rfl <;> rfl) (cfW f) (swoW f) 78 #[.pointer (some ⟨pc, 0, none⟩)] B O cap (arrOf f n g).toArray w
    (enters_of Tryd.func78 (by kernel_rfl) rfl) (cmp_lays f h w pc B O _ hpc hne hBlt hcell hG) hH hBlt (by rw [List.size_toArray, hlen]; omega) hT
  rw [List.size_toArray, hlen] at hcon
  refine hcon.mono ?_
  rintro e w' ⟨rfl, m, os, hw⟩
  have hms : (arrOf f n g).toArray.toList.mergeSort (fun x y => !(ltOf (cfW f)) y x) = srtL f n g := rfl
  rw [hms] at hw
  have hw' : w' = grow (mapBlock (Go.Sort.ahead w m) B (putCells id O (Go.Ev.tabL skB n (srt f n g)).toArray)) os := by
    rw [hw]; unfold sortWorldK putRowK putRow; rw [hflat2]
  have hnew : w'.heap[B]? = some (.cells (putCells id O (Go.Ev.tabL skB n (srt f n g)).toArray cs) ty fz) := by
    rw [hw', heap_grow_old _ _ (by unfold mapBlock; simpa using hBlt)]
    unfold mapBlock
    simp only [heap_ahead, Array.getElem?_modify, if_true, hB]
    rfl
  refine ⟨rfl, by rw [hw']; rfl, by rw [hw']; rfl, by rw [hw']; rfl, ?_, ?_, ?_, _, hnew, ?_, ?_⟩
  · rw [hw']; exact Nat.le_add_right _ _
  · rw [hw']; simp [mapBlock]
  · intro k hk hkb
    rw [hw', heap_grow_old _ _ (by unfold mapBlock; simpa using hk)]
    unfold mapBlock
    simp only [heap_ahead, Array.getElem?_modify]
    rw [if_neg (by omega)]
  · simp [putCells]
  · rw [cellsAt_row hnew]
    intro i hi
    rw [hl2] at hi
    unfold putCells
    rw [Array.getElem?_mapIdx, Array.getElem?_eq_getElem (show O + i < cs.size by omega)]
    simp only [Option.map_some, List.size_toArray, hl2]
    rw [if_pos ⟨by omega, by omega⟩, Nat.add_sub_cancel_left, getElem!_pos _ _ (by simp [hl2]; omega), List.getElem?_eq_getElem (by omega)]
    simp
theorem rows_of {ρ : Go.Ev.Ren} {w W : World} {b o n c : Nat} {g : Nat → Nat → Lf} (hb : b < w.heap.size) (hs : w.heap.size ≤ W.heap.size) (hk : W.heap[b]? = w.heap[b]?) (hc : CellsAt w b o (Go.Ev.tabL skB n g)) (hn : n ≤ c) :
    Rel ⟨[], []⟩ W (.rsT n skB g) (.slice (some ⟨b, o, none⟩) n c) := by
  simp only [Rel]
  refine ⟨_, _, rfl, hn, .inr ⟨b, o, rfl, Nat.lt_of_lt_of_le hb hs, by simp [Ren.mbs, Ren.own], ?_⟩⟩
  exact (tab_rows (show skB.flat = true from rfl)).1 (hc.keep hk)
theorem fits_det (a0 : Int) (n : Nat) (g : Nat → Nat → Lf) (K : Bool → Prop) (h : order_fitsT a0 n g K) : ∃ b, K b ∧ ∀ K2 : Bool → Prop, K2 b → order_fitsT a0 n g K2 := by
  have hd := X_order_fitsT.ok.det [.int .u8 a0, .rsT n skB g] []
  have h2 : e_order_fitsT.spec [.int .u8 a0, .rsT n skB g] [] fun v H' => match v with | .bool ok => K ok | _ => False := h
  obtain ⟨v, u, h3, h4⟩ := hd _ h2
  cases v <;> simp only at h3 <;> try exact h3.elim
  rename_i b
  exact ⟨b, h3, fun K2 hk => h4 (fun v H' => match v with | .bool ok => K2 ok | _ => False) hk⟩
theorem fits_calls (f : Int) (n : Nat) (g : Nat → Nat → Lf) (W : World) (X : Value) (hr : Rel ⟨[], []⟩ W (.rsT n skB g) X) (hG : GOk gl ⟨[], []⟩ W) (K : Bool → Prop) (h : order_fitsT f n g K) :
    Calls Tryd.prog 64 #[.int .u8 f, X] W fun e w' => ∃ ok, e = .returned (.bool ok) ∧ K ok ∧ Ext ⟨[], []⟩ W ⟨[], []⟩ w' := by
  have hd := X_order_fitsT.ok.det [.int .u8 f, .rsT n skB g] []
  have hq : ∀ (K1 K2 : Bool → Prop), (∀ b, K1 b → K2 b) → order_fitsT f n g K1 → order_fitsT f n g K2 := by
    intro K1 K2 h12 hk
    have h2 : e_order_fitsT.spec [.int .u8 f, .rsT n skB g] [] fun v H' => match v with | .bool ok => K1 ok | _ => False := hk
    have h3 := hd.mono h2 (K' := fun v H' => match v with | .bool ok => K2 ok | _ => False) fun v u hv => by
      cases v <;> simp only at hv ⊢ <;> try exact hv.elim
      exact h12 _ hv
    exact h3
  have h0 : e_order_fitsT.spec [.int .u8 f, .rsT n skB g] [] fun v H' => match v with | .bool ok => K ok ∧ H' = [] | _ => False := hq K _ (fun b hb => ⟨hb, rfl⟩) h
  have hs : e_order_fitsT.spec [.int .u8 f, .rsT n skB g] [] fun v H' => gd (Nat.beq H'.length 0) ((fun v => ∃ ok, v = EV.bool ok ∧ K ok) v) := by
    refine hd.mono h0 fun v u hv => ?_
    cases v <;> simp only at hv <;> try exact hv.elim
    exact (gd_iff _ _).2 ⟨by rw [hv.2]; rfl, _, rfl, hv.1⟩
  refine (X_order_fitsT.ok.sound.plain (F := []) (w := W) (xs := [.int .u8 f, X]) (K := fun v => ∃ ok, v = EV.bool ok ∧ K ok) hs ⟨_, _, rfl, rfl, _, _, rfl, hr, rfl⟩ (by simp) hG).mono ?_
  rintro e w' ⟨v, x, rfl, ⟨ok, rfl, hk⟩, hx, hX⟩
  simp only [Rel] at hx
  subst hx
  exact ⟨ok, rfl, hk, hX⟩
set_option maxHeartbeats 1000000 in
theorem clip_calls (B O n cap : Nat) (hn : n ≤ cap) (w : World) : Calls Tryd.prog 79 #[.slice (some ⟨B, O, none⟩) n cap] w fun e w' => e = .returned (.slice (some ⟨B, O, none⟩) n n) ∧ w' = w := by
  go_enter Tryd.func79, Tryd.ntmps79
  go_wp2
  go_ret
  exact ⟨rfl, rfl⟩
set_option maxHeartbeats 4000000 in
theorem good_calls (f : Nat) (h : f ≤ 3) (n c : Nat) (g : Nat → Nat → Lf) (ho : okA f n g) (hn : 0 < n) (hn2 : n ≤ 1000) (w : World) (ρ : Go.Ev.Ren) (b o : Nat) (hb : b < w.heap.size) (hbm : b ∈ ρ.mbs) (hcells : CellsAt w b o (Go.Ev.tabL skB n g)) (hc : n ≤ c) (hG : GOk gl ρ w) :
    Calls Tryd.prog 39 #[.int .u8 f, .slice (some ⟨b, o, none⟩) n c] w fun e w' => ∃ B O cs ty fz, e = .returned (.tuple #[.slice (some ⟨B, O, none⟩) n n, .int .i64 0]) ∧ w'.os = w.os ∧ w'.tape = w.tape ∧ w'.output = w.output ∧ w.drawn ≤ w'.drawn ∧ w.heap.size ≤ w'.heap.size ∧
      (∀ k, k < w.heap.size → w'.heap[k]? = w.heap[k]?) ∧ w.heap.size ≤ B ∧ w'.heap[B]? = some (.cells cs ty fz) ∧ (∀ o, o < cs.size → ¬ (fz.1 ≤ o ∧ o < fz.2)) ∧ O + n * 2 ≤ cs.size ∧ CellsAt w' B O (Go.Ev.tabL skB n (srt f n g)) := by
  obtain ⟨w0, hw0⟩ : ∃ w0, w0 = w.alloc (.cells #[.int .u8 f] 22) := ⟨_, rfl⟩
  have k0 : ∀ k, k < w.heap.size → w0.heap[k]? = w.heap[k]? := fun k hk => by rw [hw0, alloc_heap, if_neg (by omega)]
  have s0 : w0.heap.size = w.heap.size + 1 := by rw [hw0]; simp
  have c0 : w0.heap[w.heap.size]? = some (.cells #[.int .u8 f] 22 (0, 0)) := by rw [hw0, alloc_heap, if_pos rfl]
  have hfit := fits_calls f n g w0 _ (rows_of (ρ := ρ) hb (by omega) (k0 b hb) hcells hc) (GOk.of_below hG (fun k hk _ => k0 k hk) (by omega)) (fun ok => ok = true) (fitsT_yes f n g h hn2 ho)
  have hcl : ∀ w1, Ext ⟨[], []⟩ w0 ⟨[], []⟩ w1 → _ := fun w1 (hX : Ext ⟨[], []⟩ w0 ⟨[], []⟩ w1) => clone_calls w1 b o n c g hn hn2 hc (Nat.lt_of_lt_of_le hb (by have := hX.size; omega)) (hcells.keep ((hX.out b (by omega) (by simp [Go.Ev.Ren.own])).trans (k0 b hb)))
  have hmf : ∀ (fn : Fn) (first cap : Array Value) (w : World), (Instr.makeFunc fn first cap).run Tryd.prog w = .ok (.func fn first cap) w := fun _ _ _ _ => rfl
  go_enter Tryd.func39, Tryd.ntmps39
  go_wp2_with (first | (go_at_call 64; rw [← hw0]; refine hfit.mono ?_; rintro e w1 ⟨ok, rfl, rfl, hX⟩) | (go_at_call 76; refine (hcl _ hX).mono ?_; rintro e w2 ⟨B, O, cap, cs, ty, fz, rfl, p1, p2, p3, p4, p5, p6, p7, p8⟩))
  have s1 := hX.size
  have s2 := p7.size
  have k2 : ∀ k, k < w.heap.size + 1 → w2.heap[k]? = w0.heap[k]? := fun k hk => (p7.block k (by omega)).trans (hX.out k (by omega) (by simp [Go.Ev.Ren.own]))
  have hso := sort_calls f h n cap g ho hn2 w2 w.heap.size B O cs ty fz (by omega) (by omega) (by rw [cell_of_heap (k2 _ (by omega))]; simp only [World.cell?, c0]; rfl)
    (fun W hW hs => GOk.of_below hG (fun k hk _ => (hW k (by omega) (by omega)).trans ((k2 k (by omega)).trans (k0 k hk))) (by omega)) p2 p3 (by omega) p6
  go_wp2_with (first | (go_at_call 77; refine hso.mono ?_; rintro e w3 ⟨rfl, r1, r2, r3, r4, r5, r6, cs', r7, r8, r9⟩) | (go_at_call 79; refine (clip_calls B O n cap p4 w3).mono ?_; rintro e w4 ⟨rfl, rfl⟩))
  refine bodyPost_ret (results_tmp2 rfl _ _ _) rfl ?_
  have d1 := hX.drawn
  have d0 : w0.drawn = w.drawn := by rw [hw0]; rfl
  refine ⟨B, O, cs', ty, fz, rfl, ?_, ?_, ?_, by omega, by omega, fun k hk => (r6 k (by omega) (by omega)).trans ((k2 k (by omega)).trans (k0 k hk)), by omega, r7, fun o ho => p3 o (by omega), by omega, r9⟩
  · rw [r1, p7.os, hX.os, hw0]; rfl
  · rw [r2, p7.tape, hX.tape, hw0]; rfl
  · rw [r3, p7.output, hX.output, hw0]; rfl
set_option maxHeartbeats 4000000 in
theorem bad_calls (a0 : Int) (n : Nat) (g : Nat → Nat → Lf) (w : World) (ρ : Go.Ev.Ren) (a : Option Addr) (c : Nat) (hr : ∀ W, w.heap.size ≤ W.heap.size → (∀ k, k < w.heap.size → W.heap[k]? = w.heap[k]?) → Rel ⟨[], []⟩ W (.rsT n skB g) (.slice a n c)) (hG : GOk gl ρ w) (k1 : Prop) (hk : order_fitsT a0 n g fun ok => ok = false ∧ k1) :
    Calls Tryd.prog 39 #[.int .u8 a0, .slice a n c] w fun e w' => e = .returned (.tuple #[.slice none 0 0, .int .i64 2]) ∧ k1 ∧ w'.os = w.os ∧ w'.tape = w.tape ∧ w'.output = w.output ∧ w.drawn ≤ w'.drawn ∧ w.heap.size ≤ w'.heap.size ∧
      (∀ k, k < w.heap.size → w'.heap[k]? = w.heap[k]?) := by
  obtain ⟨w0, hw0⟩ : ∃ w0, w0 = w.alloc (.cells #[.int .u8 a0] 22) := ⟨_, rfl⟩
  have k0 : ∀ k, k < w.heap.size → w0.heap[k]? = w.heap[k]? := fun k hk => by rw [hw0, alloc_heap, if_neg (by omega)]
  have s0 : w0.heap.size = w.heap.size + 1 := by rw [hw0]; simp
  have hfit := fits_calls a0 n g w0 _ (hr w0 (by omega) k0) (GOk.of_below hG (fun k hk _ => k0 k hk) (by omega)) _ hk
  go_enter Tryd.func39, Tryd.ntmps39
  go_wp2_with (first | (go_at_call 64; rw [← hw0]; refine hfit.mono ?_; rintro e w1 ⟨ok, rfl, ⟨rfl, hk1⟩, hX⟩))
  refine bodyPost_ret (results_tmp2 rfl _ _ _) rfl ?_
  have s1 := hX.size
  have d1 := hX.drawn
  have d0 : w0.drawn = w.drawn := by rw [hw0]; rfl
  refine ⟨rfl, hk1, ?_, ?_, ?_, by omega, by omega, fun k hk => (hX.out k (by omega) (by simp [Go.Ev.Ren.own])).trans (k0 k hk)⟩
  · rw [hX.os, hw0]; rfl
  · rw [hX.tape, hw0]; rfl
  · rw [hX.output, hw0]; rfl
set_option maxHeartbeats 1000000 in
theorem clone_nil (w : World) : Calls Tryd.prog 76 #[.slice none 0 0] w fun e w' => e = .returned (.slice none 0 0) ∧ w' = w := by
  have q53 : ∀ (w : World) (a : Option Addr) (n c n' c' : Nat), (binOp .eql 53 (.slice a n c) (.slice none n' c')).run Tryd.prog w = .ok (.bool a.isNone) w := fun w a n c n' c' => Lib.run_eql_slice_nil w _ _ a n c n' c' Tryd.underlying53
  go_enter Tryd.func76, Tryd.ntmps76
  go_wp2
  go_ret
  exact ⟨rfl, rfl⟩
set_option maxHeartbeats 1000000 in
theorem clip_nil (w : World) : Calls Tryd.prog 79 #[.slice none 0 0] w fun e w' => e = .returned (.slice none 0 0) ∧ w' = w := by
  go_enter Tryd.func79, Tryd.ntmps79
  go_wp2
  go_ret
  exact ⟨rfl, rfl⟩
set_option maxHeartbeats 4000000 in
theorem nil_calls (f : Nat) (h : f ≤ 3) (w : World) (ρ : Go.Ev.Ren) (hG : GOk gl ρ w) :
    Calls Tryd.prog 39 #[.int .u8 f, .slice none 0 0] w fun e w' => e = .returned (.tuple #[.slice none 0 0, .int .i64 0]) ∧ w'.os = w.os ∧ w'.tape = w.tape ∧ w'.output = w.output ∧ w.drawn ≤ w'.drawn ∧ w.heap.size ≤ w'.heap.size ∧
      (∀ k, k < w.heap.size → w'.heap[k]? = w.heap[k]?) := by
  obtain ⟨w0, hw0⟩ : ∃ w0, w0 = w.alloc (.cells #[.int .u8 f] 22) := ⟨_, rfl⟩
  have k0 : ∀ k, k < w.heap.size → w0.heap[k]? = w.heap[k]? := fun k hk => by rw [hw0, alloc_heap, if_neg (by omega)]
  have s0 : w0.heap.size = w.heap.size + 1 := by rw [hw0]; simp
  have hfit := fits_calls f 0 z2 w0 (.slice none 0 0) (by simp only [Rel]; exact ⟨_, _, rfl, Nat.le_refl _, .inl trivial⟩) (GOk.of_below hG (fun k hk _ => k0 k hk) (by omega)) (fun ok => ok = true) (fitsT_yes f 0 z2 h (by omega) (fun i hi => absurd hi (by omega)))
  have hso := fun w1 => AnyF.slices_SortFunc_none lays_sortFunc none 0 (.func (.func 78) #[] #[.pointer (some ⟨w.heap.size, 0, none⟩)]) w1
  change ∀ w1, Calls Tryd.prog 77 _ _ _ at hso
  have hmf : ∀ (fn : Fn) (first cap : Array Value) (w : World), (Instr.makeFunc fn first cap).run Tryd.prog w = .ok (.func fn first cap) w := fun _ _ _ _ => rfl
  go_enter Tryd.func39, Tryd.ntmps39
  go_wp2_with (first | (go_at_call 64; rw [← hw0]; refine hfit.mono ?_; rintro e w1 ⟨ok, rfl, rfl, hX⟩) | (go_at_call 76; refine (clone_nil _).mono ?_; rintro e w2 ⟨rfl, rfl⟩) | (go_at_call 77; refine (hso _).mono ?_; rintro e w3 ⟨rfl, rfl⟩) | (go_at_call 79; refine (clip_nil _).mono ?_; rintro e w4 ⟨rfl, rfl⟩))
  refine bodyPost_ret (results_tmp2 rfl _ _ _) rfl ?_
  have s1 := hX.size
  have d1 := hX.drawn
  have d0 : w0.drawn = w.drawn := by rw [hw0]; rfl
  refine ⟨rfl, ?_, ?_, ?_, by omega, by omega, fun k hk => (hX.out k (by omega) (by simp [Go.Ev.Ren.own])).trans (k0 k hk)⟩
  · rw [hX.os, hw0]; rfl
  · rw [hX.tape, hw0]; rfl
  · rw [hX.output, hw0]; rfl
theorem Sim.grown {ρ : Go.Ev.Ren} {H : Heap} {w w' : World} (hS : Sim ρ H w) (ho : w'.os = w.os) (ht : w'.tape = w.tape) (hu : w'.output = w.output) (hd : w.drawn ≤ w'.drawn) (hs : w.heap.size ≤ w'.heap.size) (hk : ∀ k, k < w.heap.size → w'.heap[k]? = w.heap[k]?) : Sim ρ H w' ∧ Ext ρ w ρ w' := by
  have hX : ∀ F, Ext ⟨F, []⟩ w ⟨F, []⟩ w' := fun F => ⟨ho, ht, hu, hs, fun k hk' _ => hk k hk', fun _ _ hh => hh, fun _ _ hh => hh, fun _ _ hh => .inl hh, fun b cs e fz hh => ⟨cs, e, fz, (hk b (Array.getElem?_eq_some_iff.1 hh).1).trans hh, rfl⟩, hd⟩
  exact ⟨hS.quiet (hX []), (hX []).quiet⟩
noncomputable def e_order_Sort_0 : Entry := ⟨[none, none], true, fun args H K => match args, H with
  | [.int .u8 a0, .slice 0 0 a1l none 2], [some (.arrT a1n (.agg [.int .u64, .int .u64]) a1)] => order_Sort a0 a1l a1n a1 (fun y0 => K (EV.tuple [EV.slice 1 0 a1l none 2, EV.int IntKind.i64 0]) [some (EV.arrT a1n (Sk.agg [Sk.int IntKind.u64, Sk.int IntKind.u64]) a1), some (EV.arrT a1l (Sk.agg [Sk.int IntKind.u64, Sk.int IntKind.u64]) y0)]) (K (EV.tuple [EV.nilSlice, EV.int IntKind.i64 2]) [some (EV.arrT a1n (Sk.agg [Sk.int IntKind.u64, Sk.int IntKind.u64]) a1)])
  | _, _ => False⟩
noncomputable def e_order_Sort_nil : Entry := ⟨[none, none], true, fun args H K => match args, H with
  | [.int .u8 a0, .nilSlice], [] => order_Sort_nil a0 (K (EV.tuple [EV.nilSlice, EV.int IntKind.i64 0]) []) (K (EV.tuple [EV.nilSlice, EV.int IntKind.i64 2]) [])
  | _, _ => False⟩
noncomputable def e_order_Sort : Entry := Entry.pick (fun args H => match args, H with | [.int .u8 a0, .slice 0 0 a1l none 2], [some (.arrT a1n (.agg [.int .u64, .int .u64]) a1)] => true | _, _ => false) e_order_Sort_0 (e_order_Sort_nil)
theorem X_order_Sort_0.ok : SoundE Tryd.prog gl 39 e_order_Sort_0 := by
  refine ⟨?_, ?_, ⟨_, Tryd.func39, by kernel_rfl, by kernel_rfl⟩⟩
  · intro ρ H w args xs K hs hr hS hG
    simp only [e_order_Sort_0] at hs
    split at hs
    case h_2 => exact hs.elim
    rename_i a0 a1l a1n a1
    rw [order_Sort.is] at hs
    unfold order_Sort.d at hs
    obtain ⟨⟨h1, h2, h3⟩, hs⟩ := hs
    obtain ⟨x0, ys, rfl, hx0, x1, zs, rfl, hx1, hzs⟩ := hr
    obtain rfl : zs = [] := hzs
    obtain rfl : x0 = .int .u8 a0 := hx0
    obtain ⟨r, a, c, cs, e, fz, rfl, q1, q2, q3, q4, q5, q6, q7, q8, q9⟩ := hS.rowT (show skB.flat = true from rfl) (b := 0) rfl hx1
    rcases q9 with ⟨rfl, q9⟩ | ⟨q9, _⟩
    case inr => omega
    rw [Nat.zero_mul, Nat.add_zero] at *
    have hb := hS.lt 0 r q1
    have hcl : CellsAt w r.mb r.base (Go.Ev.tabL skB a1l a1) := by
      have h4 := q6.sub 0 (a1l * 2)
      have h5 := tabL_part (show skB.flat = true from rfl) (n := a1n) (m := a1l) (o := 0) (g := a1) (by omega)
      rw [show skB.shape.size = 2 from rfl, Nat.zero_mul] at h5
      rw [h5, Nat.add_zero] at h4
      exact h4
    rcases hs with ⟨f, rfl, hf, ho, hk⟩ | hk
    · refine (good_calls f hf a1l c a1 ho h1 h3 w ρ r.mb r.base hb (own_mbs (mem_own q1)) hcl q8 hG).mono ?_
      rintro e' w' ⟨B, O, cs', ty', fz', rfl, p1, p2, p3, p4, p5, p6, p7, p8, p9, p10, p11⟩
      have hBl : B < w'.heap.size := (Array.getElem?_eq_some_iff.1 p8).1
      obtain ⟨m1, m2⟩ := hS.moved (D := []) (w' := w') (bi := ⟨B, O, .tab a1l skB.shape⟩) (v := .arrT a1l skB (srt f a1l a1)) rfl ⟨p1, p2, p3, p5, p4⟩ (.inr p7) hBl (fun m hm _ => p6 m hm)
        (fun m cs e fz hm => ⟨cs, e, fz, (p6 m (Array.getElem?_eq_some_iff.1 hm).1).trans hm, rfl⟩)
        (fun ρ' hX => ⟨cs', ty', fz', .agg (Go.Ev.tabL skB a1l (srt f a1l a1)).toArray, p8, p9, (rel_tab (show skB.flat = true from rfl) _ _ _).2 rfl, by rw [cells_agg, List.toList_toArray, tabL_length (show skB.flat = true from rfl)]; exact p10, by rw [cells_agg, List.toList_toArray]; exact p11⟩)
      have hlen : ρ.bs.length = 1 := by rw [hS.len]; rfl
      refine ⟨_, _, _, _, rfl, hk, ?_, m1, m2, rfl⟩
      simp only [Rel]
      refine ⟨_, rfl, _, _, rfl, ?_, _, _, rfl, rfl, rfl⟩
      refine ⟨_, _, rfl, some ⟨B, O, .tab a1l skB.shape⟩, ?_, fun i hi => ?_⟩
      · simp only [killN]
        rw [List.getElem?_append_right (by omega), hlen]; rfl
      · cases hi
        exact ⟨a1l, .inr (.inr ⟨_, rfl, rfl⟩), by omega, Nat.le_refl _, (fun c0 hc => by cases hc), .inl ⟨by simp, ty', cs', fz', p8, by simp only; omega⟩⟩
    · refine (bad_calls a0 a1l a1 w ρ _ c (fun W hs hk => rows_of (ρ := ρ) hb hs (hk _ hb) hcl q8) hG _ hk).mono ?_
      rintro e' w' ⟨rfl, hk1, p1, p2, p3, p4, p5, p6⟩
      obtain ⟨m1, m2⟩ := Sim.grown hS p1 p2 p3 p4 p5 p6
      refine ⟨_, _, _, _, rfl, hk1, ?_, m1, m2, rfl⟩
      simp only [Rel]
      exact ⟨_, rfl, _, _, rfl, rfl, _, _, rfl, rfl, rfl⟩
  · intro args H K hs
    simp only [e_order_Sort_0] at hs ⊢
    split at hs
    case h_2 => exact hs.elim
    rename_i a0 a1l a1n a1
    rw [order_Sort.is] at hs ⊢
    unfold order_Sort.d at hs ⊢
    obtain ⟨g1, hs⟩ := hs
    rcases hs with ⟨f, rfl, hf, ho, hk⟩ | hk
    · exact ⟨_, _, hk, fun K' hk' => ⟨g1, .inl ⟨f, rfl, hf, ho, hk'⟩⟩⟩
    · obtain ⟨b, ⟨hb, hk1⟩, h2⟩ := fits_det _ _ _ _ hk
      exact ⟨_, _, hk1, fun K' hk' => ⟨g1, .inr (h2 _ ⟨hb, hk'⟩)⟩⟩
theorem X_order_Sort_nil.ok : SoundE Tryd.prog gl 39 e_order_Sort_nil := by
  refine ⟨?_, ?_, ⟨_, Tryd.func39, by kernel_rfl, by kernel_rfl⟩⟩
  · intro ρ H w args xs K hs hr hS hG
    simp only [e_order_Sort_nil] at hs
    split at hs
    case h_2 => exact hs.elim
    rename_i a0
    rw [order_Sort_nil.is] at hs
    unfold order_Sort_nil.d at hs
    obtain ⟨x0, ys, rfl, hx0, x1, zs, rfl, hx1, hzs⟩ := hr
    obtain rfl : zs = [] := hzs
    obtain rfl : x0 = .int .u8 a0 := hx0
    obtain rfl : x1 = .slice none 0 0 := hx1
    rcases hs with ⟨f, rfl, hf, hk⟩ | hk
    · refine (nil_calls f hf w ρ hG).mono ?_
      rintro e' w' ⟨rfl, p1, p2, p3, p4, p5, p6⟩
      obtain ⟨m1, m2⟩ := Sim.grown hS p1 p2 p3 p4 p5 p6
      refine ⟨_, _, _, _, rfl, hk, ?_, m1, m2, rfl⟩
      simp only [Rel]
      exact ⟨_, rfl, _, _, rfl, rfl, _, _, rfl, rfl, rfl⟩
    · refine (bad_calls a0 0 z2 w ρ none 0 (fun W _ _ => by simp only [Rel]; exact ⟨_, _, rfl, Nat.le_refl _, .inl trivial⟩) hG _ hk).mono ?_
      rintro e' w' ⟨rfl, hk1, p1, p2, p3, p4, p5, p6⟩
      obtain ⟨m1, m2⟩ := Sim.grown hS p1 p2 p3 p4 p5 p6
      refine ⟨_, _, _, _, rfl, hk1, ?_, m1, m2, rfl⟩
      simp only [Rel]
      exact ⟨_, rfl, _, _, rfl, rfl, _, _, rfl, rfl, rfl⟩
  · intro args H K hs
    simp only [e_order_Sort_nil] at hs ⊢
    split at hs
    case h_2 => exact hs.elim
    rename_i a0
    rw [order_Sort_nil.is] at hs ⊢
    unfold order_Sort_nil.d at hs ⊢
    rcases hs with ⟨f, rfl, hf, hk⟩ | hk
    · exact ⟨_, _, hk, fun K' hk' => .inl ⟨f, rfl, hf, hk'⟩⟩
    · obtain ⟨b, ⟨hb, hk1⟩, h2⟩ := fits_det _ _ _ _ hk
      exact ⟨_, _, hk1, fun K' hk' => .inr (h2 _ ⟨hb, hk'⟩)⟩
theorem X_order_Sort.ok : SoundE Tryd.prog gl 39 e_order_Sort := SoundE.pick X_order_Sort_0.ok X_order_Sort_nil.ok
end Go.Ev.S

/- The functions of the seat: that the evaluator has them as they are. -/
set_option maxRecDepth 100000
set_option linter.unusedVariables false
set_option linter.unusedSimpArgs false
namespace Go.Ev.S
open Go Go.Proofs Go.Ev
noncomputable def e_order_fits : Entry := ⟨[none, none], true, fun args H K => match args, H with
  | [.int .u8 a0, .slice 0 0 2 (some 2) 2], [some (.agg [.agg [.int .u64 a1_0_0, .int .u64 a1_0_1], .agg [.int .u64 a1_1_0, .int .u64 a1_1_1]])] => order_fits a0 a1_0_0 a1_0_1 a1_1_0 a1_1_1 (fun y0 y1 y2 y3 y4 => K (EV.bool y0) [some (EV.agg [EV.agg [EV.int IntKind.u64 y1, EV.int IntKind.u64 y2], EV.agg [EV.int IntKind.u64 y3, EV.int IntKind.u64 y4]])])
  | _, _ => False⟩
noncomputable def l_order_fits : List (Nat × Entry) := [(53, e_shape_Fits), (57, e_shape_Check)]
noncomputable def E_order_fits : Env := ⟨look tys, look l_order_fits, look [(2, order_fits.l2.entry)], gl, lookL [], false⟩
theorem order_fits.l2X.stepEq (R : List EV → Heap → Prop) (K : Ex → List EV → Heap → Prop) (x0 : Int) (x1 : Int) (x2 : Int) (x3 : Int) (x4 : Int) (x5 : Int) (x6 : Int) : loopStep (evCode E_order_fits (loopAt Tryd.f64 0) { (LV.mk 1 [(0, 1)] 16 1 false) with nx := live (.loop (loopAt Tryd.f64 0)) (LV.mk 1 [(0, 1)] 16 1 false) }) (live (.loop (loopAt Tryd.f64 0)) (LV.mk 1 [(0, 1)] 16 1 false)) (LV.mk 1 [(0, 1)] 16 1 false) 1 21 R [EV.int IntKind.u8 x0, EV.slice 0 0 2 (some 2) 2, EV.int IntKind.i64 x1, EV.int IntKind.i64 x2] [some (EV.agg [EV.agg [EV.int IntKind.u64 x3, EV.int IntKind.u64 x4], EV.agg [EV.int IntKind.u64 x5, EV.int IntKind.u64 x6]])] K = order_fits.l2.step (fun x0 x1 x2 x3 x4 x5 x6 => R [EV.int IntKind.u8 x0, EV.slice 0 0 2 (some 2) 2, EV.int IntKind.i64 x1, EV.int IntKind.i64 x2] [some (EV.agg [EV.agg [EV.int IntKind.u64 x3, EV.int IntKind.u64 x4], EV.agg [EV.int IntKind.u64 x5, EV.int IntKind.u64 x6]])]) (fun y0 y1 y2 y3 y4 => K .ret [EV.bool y0] [some (EV.agg [EV.agg [EV.int IntKind.u64 y1, EV.int IntKind.u64 y2], EV.agg [EV.int IntKind.u64 y3, EV.int IntKind.u64 y4]])]) (fun y0 y1 y2 y3 y4 => K (.exit 0) [EV.int IntKind.u8 y0] [some (EV.agg [EV.agg [EV.int IntKind.u64 y1, EV.int IntKind.u64 y2], EV.agg [EV.int IntKind.u64 y3, EV.int IntKind.u64 y4]])]) x0 x1 x2 x3 x4 x5 x6 := (stepQ_eq _ _ _ _ _ _ _ _ _ _ _).symm.trans (by kernel_rfl)
theorem order_fits.l2X.eq (K : Ex → List EV → Heap → Prop) : ∀ (n : Nat) (x0 : Int) (x1 : Int) (x2 : Int) (x3 : Int) (x4 : Int) (x5 : Int) (x6 : Int), loopE E_order_fits (loopAt Tryd.f64 0) (LV.mk 1 [(0, 1)] 16 1 false) 1 21 K n [EV.int IntKind.u8 x0, EV.slice 0 0 2 (some 2) 2, EV.int IntKind.i64 x1, EV.int IntKind.i64 x2] [some (EV.agg [EV.agg [EV.int IntKind.u64 x3, EV.int IntKind.u64 x4], EV.agg [EV.int IntKind.u64 x5, EV.int IntKind.u64 x6]])] = order_fits.l2 (fun y0 y1 y2 y3 y4 => K .ret [EV.bool y0] [some (EV.agg [EV.agg [EV.int IntKind.u64 y1, EV.int IntKind.u64 y2], EV.agg [EV.int IntKind.u64 y3, EV.int IntKind.u64 y4]])]) (fun y0 y1 y2 y3 y4 => K (.exit 0) [EV.int IntKind.u8 y0] [some (EV.agg [EV.agg [EV.int IntKind.u64 y1, EV.int IntKind.u64 y2], EV.agg [EV.int IntKind.u64 y3, EV.int IntKind.u64 y4]])]) n x0 x1 x2 x3 x4 x5 x6
  | 0, _, _, _, _, _, _, _ => rfl
  | n + 1, x0, x1, x2, x3, x4, x5, x6 => by
    have ih : (fun (x0 : Int) (x1 : Int) (x2 : Int) (x3 : Int) (x4 : Int) (x5 : Int) (x6 : Int) => loopE E_order_fits (loopAt Tryd.f64 0) (LV.mk 1 [(0, 1)] 16 1 false) 1 21 K n [EV.int IntKind.u8 x0, EV.slice 0 0 2 (some 2) 2, EV.int IntKind.i64 x1, EV.int IntKind.i64 x2] [some (EV.agg [EV.agg [EV.int IntKind.u64 x3, EV.int IntKind.u64 x4], EV.agg [EV.int IntKind.u64 x5, EV.int IntKind.u64 x6]])]) = order_fits.l2 (fun y0 y1 y2 y3 y4 => K .ret [EV.bool y0] [some (EV.agg [EV.agg [EV.int IntKind.u64 y1, EV.int IntKind.u64 y2], EV.agg [EV.int IntKind.u64 y3, EV.int IntKind.u64 y4]])]) (fun y0 y1 y2 y3 y4 => K (.exit 0) [EV.int IntKind.u8 y0] [some (EV.agg [EV.agg [EV.int IntKind.u64 y1, EV.int IntKind.u64 y2], EV.agg [EV.int IntKind.u64 y3, EV.int IntKind.u64 y4]])]) n := by funext x0 x1 x2 x3 x4 x5 x6; exact order_fits.l2X.eq K n x0 x1 x2 x3 x4 x5 x6
    show loopStep _ _ _ _ _ (loopE E_order_fits (loopAt Tryd.f64 0) (LV.mk 1 [(0, 1)] 16 1 false) 1 21 K n) [EV.int IntKind.u8 x0, EV.slice 0 0 2 (some 2) 2, EV.int IntKind.i64 x1, EV.int IntKind.i64 x2] [some (EV.agg [EV.agg [EV.int IntKind.u64 x3, EV.int IntKind.u64 x4], EV.agg [EV.int IntKind.u64 x5, EV.int IntKind.u64 x6]])] K = order_fits.l2.step (order_fits.l2 (fun y0 y1 y2 y3 y4 => K .ret [EV.bool y0] [some (EV.agg [EV.agg [EV.int IntKind.u64 y1, EV.int IntKind.u64 y2], EV.agg [EV.int IntKind.u64 y3, EV.int IntKind.u64 y4]])]) (fun y0 y1 y2 y3 y4 => K (.exit 0) [EV.int IntKind.u8 y0] [some (EV.agg [EV.agg [EV.int IntKind.u64 y1, EV.int IntKind.u64 y2], EV.agg [EV.int IntKind.u64 y3, EV.int IntKind.u64 y4]])]) n) (fun y0 y1 y2 y3 y4 => K .ret [EV.bool y0] [some (EV.agg [EV.agg [EV.int IntKind.u64 y1, EV.int IntKind.u64 y2], EV.agg [EV.int IntKind.u64 y3, EV.int IntKind.u64 y4]])]) (fun y0 y1 y2 y3 y4 => K (.exit 0) [EV.int IntKind.u8 y0] [some (EV.agg [EV.agg [EV.int IntKind.u64 y1, EV.int IntKind.u64 y2], EV.agg [EV.int IntKind.u64 y3, EV.int IntKind.u64 y4]])]) x0 x1 x2 x3 x4 x5 x6
    rw [← ih]
    exact order_fits.l2X.stepEq _ K x0 x1 x2 x3 x4 x5 x6
theorem order_fits.l2X.ok : LoopEq E_order_fits (loopAt Tryd.f64 0) := by
  intro L hL vs H
  have h1 : E_order_fits.lp (firstRegion (loopAt Tryd.f64 0)) = some order_fits.l2.entry := by kernel_rfl
  have h2 : L = order_fits.l2.entry := Option.some.inj (hL.symm.trans h1)
  subst h2
  by_cases hx0 : ∃ (x0 : Int) (x1 : Int) (x2 : Int) (x3 : Int) (x4 : Int) (x5 : Int) (x6 : Int), vs = [EV.int IntKind.u8 x0, EV.slice 0 0 2 (some 2) 2, EV.int IntKind.i64 x1, EV.int IntKind.i64 x2] ∧ H = [some (EV.agg [EV.agg [EV.int IntKind.u64 x3, EV.int IntKind.u64 x4], EV.agg [EV.int IntKind.u64 x5, EV.int IntKind.u64 x6]])]
  · obtain ⟨x0, x1, x2, x3, x4, x5, x6, rfl, rfl⟩ := hx0
    right; intro K
    exact exists_congr fun n => iff_of_eq (order_fits.l2X.eq K n x0 x1 x2 x3 x4 x5 x6).symm
  left; intro K h
  simp only [order_fits.l2.entry] at h
  split at h
  · exact hx0 ⟨_, _, _, _, _, _, _, rfl, rfl⟩
  · exact h
theorem X_order_fits.eq (a0 : Int) (a1_0_0 : Int) (a1_0_1 : Int) (a1_1_0 : Int) (a1_1_1 : Int) (K : EV → Heap → Prop) : evFn E_order_fits Tryd.f64 false [.int .u8 a0, .slice 0 0 2 (some 2) 2] [some (.agg [.agg [.int .u64 a1_0_0, .int .u64 a1_0_1], .agg [.int .u64 a1_1_0, .int .u64 a1_1_1]])] K = order_fits a0 a1_0_0 a1_0_1 a1_1_0 a1_1_1 (fun y0 y1 y2 y3 y4 => K (EV.bool y0) [some (EV.agg [EV.agg [EV.int IntKind.u64 y1, EV.int IntKind.u64 y2], EV.agg [EV.int IntKind.u64 y3, EV.int IntKind.u64 y4]])]) := by
  rw [order_fits.is]; exact (evFnQ_eq _ _ _ _ _ _).symm.trans (by kernel_rfl)
theorem X_order_fits.ok : SoundE Tryd.prog gl 64 e_order_fits := by
  refine fnOK (E := E_order_fits) (fn := Tryd.f64) rfl tys_ok rfl (show AllL _ l_order_fits from ⟨X_shape_Fits.ok, X_shape_Check.ok, trivial⟩) mixed (by kernel_rfl) (by kernel_rfl) (by kernel_rfl) 1 (by kernel_rfl) false ⟨order_fits.l2X.ok, trivial⟩ ?_
  intro args H
  by_cases hx : ∃ (a0 : Int) (a1_0_0 : Int) (a1_0_1 : Int) (a1_1_0 : Int) (a1_1_1 : Int), args = [.int .u8 a0, .slice 0 0 2 (some 2) 2] ∧ H = [some (.agg [.agg [.int .u64 a1_0_0, .int .u64 a1_0_1], .agg [.int .u64 a1_1_0, .int .u64 a1_1_1]])]
  · obtain ⟨a0, a1_0_0, a1_0_1, a1_1_0, a1_1_1, rfl, rfl⟩ := hx
    right; intro K
    exact iff_of_eq (X_order_fits.eq a0 a1_0_0 a1_0_1 a1_1_0 a1_1_1 K).symm
  · left; intro K h
    simp only [e_order_fits] at h
    split at h
    · exact hx ⟨_, _, _, _, _, rfl, rfl⟩
    · exact h
noncomputable def e_order_Total : Entry := ⟨[none, none, none], false, fun args H K => match args, H with
  | [.int .u8 a0, .agg [.int .u64 a1_0, .int .u64 a1_1], .agg [.int .u64 a2_0, .int .u64 a2_1]], [] => order_Total a0 a1_0 a1_1 a2_0 a2_1 (fun y0 y1 => K (EV.tuple [EV.int IntKind.i64 y0, EV.int IntKind.i64 y1]) [])
  | _, _ => False⟩
noncomputable def l_order_Total : List (Nat × Entry) := [(64, e_order_fits), (65, e_order_total)]
noncomputable def E_order_Total : Env := ⟨look tys, look l_order_Total, look [], gl, lookL [], false⟩
theorem X_order_Total.eq (a0 : Int) (a1_0 : Int) (a1_1 : Int) (a2_0 : Int) (a2_1 : Int) (K : EV → Heap → Prop) : evFn E_order_Total Tryd.f25 false [.int .u8 a0, .agg [.int .u64 a1_0, .int .u64 a1_1], .agg [.int .u64 a2_0, .int .u64 a2_1]] [] K = order_Total a0 a1_0 a1_1 a2_0 a2_1 (fun y0 y1 => K (EV.tuple [EV.int IntKind.i64 y0, EV.int IntKind.i64 y1]) []) := by
  rw [order_Total.is]; exact (evFnQ_eq _ _ _ _ _ _).symm.trans (by kernel_rfl)
theorem X_order_Total.ok : SoundE Tryd.prog gl 25 e_order_Total := by
  refine fnOK (E := E_order_Total) (fn := Tryd.f25) rfl tys_ok rfl (show AllL _ l_order_Total from ⟨X_order_fits.ok, X_order_total.ok, trivial⟩) mixed (by kernel_rfl) (by kernel_rfl) (by kernel_rfl) 0 (by kernel_rfl) false trivial ?_
  intro args H
  by_cases hx : ∃ (a0 : Int) (a1_0 : Int) (a1_1 : Int) (a2_0 : Int) (a2_1 : Int), args = [.int .u8 a0, .agg [.int .u64 a1_0, .int .u64 a1_1], .agg [.int .u64 a2_0, .int .u64 a2_1]] ∧ H = []
  · obtain ⟨a0, a1_0, a1_1, a2_0, a2_1, rfl, rfl⟩ := hx
    right; intro K
    exact iff_of_eq (X_order_Total.eq a0 a1_0 a1_1 a2_0 a2_1 K).symm
  · left; intro K h
    simp only [e_order_Total] at h
    split at h
    · exact hx ⟨_, _, _, _, _, rfl, rfl⟩
    · exact h
noncomputable def e_shape_Precision : Entry := ⟨[none], false, fun args H K => match args, H with
  | [.int .u8 a0], [] => shape_Precision a0 (fun y0 => K (EV.int IntKind.i64 y0) [])
  | _, _ => False⟩
noncomputable def l_shape_Precision : List (Nat × Entry) := [(88, e_shape_numbers)]
noncomputable def E_shape_Precision : Env := ⟨look tys, look l_shape_Precision, look [], gl, lookL [], false⟩
theorem X_shape_Precision.eq (a0 : Int) (K : EV → Heap → Prop) : evFn E_shape_Precision Tryd.f108 false [.int .u8 a0] [] K = shape_Precision a0 (fun y0 => K (EV.int IntKind.i64 y0) []) := by
  rw [shape_Precision.is]; exact (evFnQ_eq _ _ _ _ _ _).symm.trans (by kernel_rfl)
theorem X_shape_Precision.ok : SoundE Tryd.prog gl 108 e_shape_Precision := by
  refine fnOK (E := E_shape_Precision) (fn := Tryd.f108) rfl tys_ok rfl (show AllL _ l_shape_Precision from ⟨X_shape_numbers.ok, trivial⟩) mixed (by kernel_rfl) (by kernel_rfl) (by kernel_rfl) 0 (by kernel_rfl) false trivial ?_
  intro args H
  by_cases hx : ∃ (a0 : Int), args = [.int .u8 a0] ∧ H = []
  · obtain ⟨a0, rfl, rfl⟩ := hx
    right; intro K
    exact iff_of_eq (X_shape_Precision.eq a0 K).symm
  · left; intro K h
    simp only [e_shape_Precision] at h
    split at h
    · exact hx ⟨_, rfl, rfl⟩
    · exact h
noncomputable def e_wide_And : Entry := ⟨[none, none], false, fun args H K => match args, H with
  | [.arr .u64 6 a0, .arr .u64 6 a1], [] => wide_And a0 a1 (fun y0 => K (EV.arr IntKind.u64 6 y0) [])
  | _, _ => False⟩
noncomputable def E_wide_And : Env := ⟨look tys, look [], look [(2, wide_And.l2.entry)], gl, lookL [], false⟩
theorem wide_And.l2X.stepEq (R : List EV → Heap → Prop) (K : Ex → List EV → Heap → Prop) (x0 : Int) (x1 : Nat → Int) (x2 : Nat → Int) (x3 : Nat → Int) : loopStep (evCode E_wide_And (loopAt Tryd.f126 0) { (LV.mk 20 [(0, 20)] 16 0 false) with nx := live (.loop (loopAt Tryd.f126 0)) (LV.mk 20 [(0, 20)] 16 0 false) }) (live (.loop (loopAt Tryd.f126 0)) (LV.mk 20 [(0, 20)] 16 0 false)) (LV.mk 20 [(0, 20)] 16 0 false) 0 19 R [EV.ptr 0 [], EV.ptr 1 [], EV.ptr 2 [], EV.int IntKind.i64 x0] [some (EV.arr IntKind.u64 6 x1), some (EV.arr IntKind.u64 6 x2), some (EV.arr IntKind.u64 6 x3)] K = wide_And.l2.step (fun x0 x1 x2 x3 => R [EV.ptr 0 [], EV.ptr 1 [], EV.ptr 2 [], EV.int IntKind.i64 x0] [some (EV.arr IntKind.u64 6 x1), some (EV.arr IntKind.u64 6 x2), some (EV.arr IntKind.u64 6 x3)]) (fun y0 y1 => K (.exit 0) [EV.ptr 0 [], EV.ptr 1 []] [some (EV.arr IntKind.u64 6 y0), some (EV.arr IntKind.u64 6 y1)]) x0 x1 x2 x3 := (stepQ_eq _ _ _ _ _ _ _ _ _ _ _).symm.trans (by kernel_rfl)
theorem wide_And.l2X.eq (K : Ex → List EV → Heap → Prop) : ∀ (n : Nat) (x0 : Int) (x1 : Nat → Int) (x2 : Nat → Int) (x3 : Nat → Int), loopE E_wide_And (loopAt Tryd.f126 0) (LV.mk 20 [(0, 20)] 16 0 false) 0 19 K n [EV.ptr 0 [], EV.ptr 1 [], EV.ptr 2 [], EV.int IntKind.i64 x0] [some (EV.arr IntKind.u64 6 x1), some (EV.arr IntKind.u64 6 x2), some (EV.arr IntKind.u64 6 x3)] = wide_And.l2 (fun y0 y1 => K (.exit 0) [EV.ptr 0 [], EV.ptr 1 []] [some (EV.arr IntKind.u64 6 y0), some (EV.arr IntKind.u64 6 y1)]) n x0 x1 x2 x3
  | 0, _, _, _, _ => rfl
  | n + 1, x0, x1, x2, x3 => by
    have ih : (fun (x0 : Int) (x1 : Nat → Int) (x2 : Nat → Int) (x3 : Nat → Int) => loopE E_wide_And (loopAt Tryd.f126 0) (LV.mk 20 [(0, 20)] 16 0 false) 0 19 K n [EV.ptr 0 [], EV.ptr 1 [], EV.ptr 2 [], EV.int IntKind.i64 x0] [some (EV.arr IntKind.u64 6 x1), some (EV.arr IntKind.u64 6 x2), some (EV.arr IntKind.u64 6 x3)]) = wide_And.l2 (fun y0 y1 => K (.exit 0) [EV.ptr 0 [], EV.ptr 1 []] [some (EV.arr IntKind.u64 6 y0), some (EV.arr IntKind.u64 6 y1)]) n := by funext x0 x1 x2 x3; exact wide_And.l2X.eq K n x0 x1 x2 x3
    show loopStep _ _ _ _ _ (loopE E_wide_And (loopAt Tryd.f126 0) (LV.mk 20 [(0, 20)] 16 0 false) 0 19 K n) [EV.ptr 0 [], EV.ptr 1 [], EV.ptr 2 [], EV.int IntKind.i64 x0] [some (EV.arr IntKind.u64 6 x1), some (EV.arr IntKind.u64 6 x2), some (EV.arr IntKind.u64 6 x3)] K = wide_And.l2.step (wide_And.l2 (fun y0 y1 => K (.exit 0) [EV.ptr 0 [], EV.ptr 1 []] [some (EV.arr IntKind.u64 6 y0), some (EV.arr IntKind.u64 6 y1)]) n) (fun y0 y1 => K (.exit 0) [EV.ptr 0 [], EV.ptr 1 []] [some (EV.arr IntKind.u64 6 y0), some (EV.arr IntKind.u64 6 y1)]) x0 x1 x2 x3
    rw [← ih]
    exact wide_And.l2X.stepEq _ K x0 x1 x2 x3
theorem wide_And.l2X.ok : LoopEq E_wide_And (loopAt Tryd.f126 0) := by
  intro L hL vs H
  have h1 : E_wide_And.lp (firstRegion (loopAt Tryd.f126 0)) = some wide_And.l2.entry := by kernel_rfl
  have h2 : L = wide_And.l2.entry := Option.some.inj (hL.symm.trans h1)
  subst h2
  by_cases hx0 : ∃ (x0 : Int) (x1 : Nat → Int) (x2 : Nat → Int) (x3 : Nat → Int), vs = [EV.ptr 0 [], EV.ptr 1 [], EV.ptr 2 [], EV.int IntKind.i64 x0] ∧ H = [some (EV.arr IntKind.u64 6 x1), some (EV.arr IntKind.u64 6 x2), some (EV.arr IntKind.u64 6 x3)]
  · obtain ⟨x0, x1, x2, x3, rfl, rfl⟩ := hx0
    right; intro K
    exact exists_congr fun n => iff_of_eq (wide_And.l2X.eq K n x0 x1 x2 x3).symm
  left; intro K h
  simp only [wide_And.l2.entry] at h
  split at h
  · exact hx0 ⟨_, _, _, _, rfl, rfl⟩
  · exact h
theorem X_wide_And.eq (a0 : Nat → Int) (a1 : Nat → Int) (K : EV → Heap → Prop) : evFn E_wide_And Tryd.f126 false [.arr .u64 6 a0, .arr .u64 6 a1] [] K = wide_And a0 a1 (fun y0 => K (EV.arr IntKind.u64 6 y0) []) := by
  rw [wide_And.is]; exact (evFnQ_eq _ _ _ _ _ _).symm.trans (by kernel_rfl)
theorem X_wide_And.ok : SoundE Tryd.prog gl 126 e_wide_And := by
  refine fnOK (E := E_wide_And) (fn := Tryd.f126) rfl tys_ok rfl (show AllL _ [] from trivial) mixed (by kernel_rfl) (by kernel_rfl) (by kernel_rfl) 1 (by kernel_rfl) false ⟨wide_And.l2X.ok, trivial⟩ ?_
  intro args H
  by_cases hx : ∃ (a0 : Nat → Int) (a1 : Nat → Int), args = [.arr .u64 6 a0, .arr .u64 6 a1] ∧ H = []
  · obtain ⟨a0, a1, rfl, rfl⟩ := hx
    right; intro K
    exact iff_of_eq (X_wide_And.eq a0 a1 K).symm
  · left; intro K h
    simp only [e_wide_And] at h
    split at h
    · exact hx ⟨_, _, rfl, rfl⟩
    · exact h
noncomputable def e_word_count : Entry := ⟨[none], false, fun args H K => match args, H with
  | [.int .i64 a0], [] => word_count a0 (fun y0 => K (EV.int IntKind.u64 y0) [])
  | _, _ => False⟩
noncomputable def E_word_count : Env := ⟨look tys, look [], look [], gl, lookL [], false⟩
theorem X_word_count.eq (a0 : Int) (K : EV → Heap → Prop) : evFn E_word_count Tryd.f92 false [.int .i64 a0] [] K = word_count a0 (fun y0 => K (EV.int IntKind.u64 y0) []) := by
  rw [word_count.is]; exact (evFnQ_eq _ _ _ _ _ _).symm.trans (by kernel_rfl)
theorem X_word_count.ok : SoundE Tryd.prog gl 92 e_word_count := by
  refine fnOK (E := E_word_count) (fn := Tryd.f92) rfl tys_ok rfl (show AllL _ [] from trivial) mixed (by kernel_rfl) (by kernel_rfl) (by kernel_rfl) 0 (by kernel_rfl) false trivial ?_
  intro args H
  by_cases hx : ∃ (a0 : Int), args = [.int .i64 a0] ∧ H = []
  · obtain ⟨a0, rfl, rfl⟩ := hx
    right; intro K
    exact iff_of_eq (X_word_count.eq a0 K).symm
  · left; intro K h
    simp only [e_word_count] at h
    split at h
    · exact hx ⟨_, rfl, rfl⟩
    · exact h
noncomputable def e_word_Mask : Entry := ⟨[none], false, fun args H K => match args, H with
  | [.int .i64 a0], [] => word_Mask a0 (fun y0 => K (EV.int IntKind.u64 y0) [])
  | _, _ => False⟩
noncomputable def l_word_Mask : List (Nat × Entry) := [(92, e_word_count)]
noncomputable def E_word_Mask : Env := ⟨look tys, look l_word_Mask, look [], gl, lookL [], false⟩
theorem X_word_Mask.eq (a0 : Int) (K : EV → Heap → Prop) : evFn E_word_Mask Tryd.f58 false [.int .i64 a0] [] K = word_Mask a0 (fun y0 => K (EV.int IntKind.u64 y0) []) := by
  rw [word_Mask.is]; exact (evFnQ_eq _ _ _ _ _ _).symm.trans (by kernel_rfl)
theorem X_word_Mask.ok : SoundE Tryd.prog gl 58 e_word_Mask := by
  refine fnOK (E := E_word_Mask) (fn := Tryd.f58) rfl tys_ok rfl (show AllL _ l_word_Mask from ⟨X_word_count.ok, trivial⟩) mixed (by kernel_rfl) (by kernel_rfl) (by kernel_rfl) 0 (by kernel_rfl) false trivial ?_
  intro args H
  by_cases hx : ∃ (a0 : Int), args = [.int .i64 a0] ∧ H = []
  · obtain ⟨a0, rfl, rfl⟩ := hx
    right; intro K
    exact iff_of_eq (X_word_Mask.eq a0 K).symm
  · left; intro K h
    simp only [e_word_Mask] at h
    split at h
    · exact hx ⟨_, rfl, rfl⟩
    · exact h
noncomputable def e_wide_count : Entry := ⟨[none], false, fun args H K => match args, H with
  | [.int .i64 a0], [] => wide_count a0 (fun y0 => K (EV.int IntKind.i64 y0) [])
  | _, _ => False⟩
noncomputable def E_wide_count : Env := ⟨look tys, look [], look [], gl, lookL [], false⟩
theorem X_wide_count.eq (a0 : Int) (K : EV → Heap → Prop) : evFn E_wide_count Tryd.f147 false [.int .i64 a0] [] K = wide_count a0 (fun y0 => K (EV.int IntKind.i64 y0) []) := by
  rw [wide_count.is]; exact (evFnQ_eq _ _ _ _ _ _).symm.trans (by kernel_rfl)
theorem X_wide_count.ok : SoundE Tryd.prog gl 147 e_wide_count := by
  refine fnOK (E := E_wide_count) (fn := Tryd.f147) rfl tys_ok rfl (show AllL _ [] from trivial) mixed (by kernel_rfl) (by kernel_rfl) (by kernel_rfl) 0 (by kernel_rfl) false trivial ?_
  intro args H
  by_cases hx : ∃ (a0 : Int), args = [.int .i64 a0] ∧ H = []
  · obtain ⟨a0, rfl, rfl⟩ := hx
    right; intro K
    exact iff_of_eq (X_wide_count.eq a0 K).symm
  · left; intro K h
    simp only [e_wide_count] at h
    split at h
    · exact hx ⟨_, rfl, rfl⟩
    · exact h
noncomputable def e_wide_Mask : Entry := ⟨[none], false, fun args H K => match args, H with
  | [.int .i64 a0], [] => wide_Mask a0 (fun y0 => K (EV.arr IntKind.u64 6 y0) [])
  | _, _ => False⟩
noncomputable def l_wide_Mask : List (Nat × Entry) := [(58, e_word_Mask), (147, e_wide_count)]
noncomputable def E_wide_Mask : Env := ⟨look tys, look l_wide_Mask, look [(4, wide_Mask.l4.entry)], gl, lookL [], false⟩
theorem wide_Mask.l4X.stepEq (R : List EV → Heap → Prop) (K : Ex → List EV → Heap → Prop) (x0 : Int) (x1 : Int) (x2 : Nat → Int) (x3 : Nat → Int) : loopStep (evCode E_wide_Mask (loopAt Tryd.f127 0) { (LV.mk 12 [(0, 12)] 4 0 false) with nx := live (.loop (loopAt Tryd.f127 0)) (LV.mk 12 [(0, 12)] 4 0 false) }) (live (.loop (loopAt Tryd.f127 0)) (LV.mk 12 [(0, 12)] 4 0 false)) (LV.mk 12 [(0, 12)] 4 0 false) 0 19 R [EV.int IntKind.i64 x0, EV.ptr 0 [], EV.ptr 1 [], EV.int IntKind.i64 x1] [some (EV.arr IntKind.u64 6 x2), some (EV.arr IntKind.u64 6 x3)] K = wide_Mask.l4.step (fun x0 x1 x2 x3 => R [EV.int IntKind.i64 x0, EV.ptr 0 [], EV.ptr 1 [], EV.int IntKind.i64 x1] [some (EV.arr IntKind.u64 6 x2), some (EV.arr IntKind.u64 6 x3)]) (fun y0 y1 => K (.exit 0) [EV.ptr 0 [], EV.ptr 1 []] [some (EV.arr IntKind.u64 6 y0), some (EV.arr IntKind.u64 6 y1)]) x0 x1 x2 x3 := (stepQ_eq _ _ _ _ _ _ _ _ _ _ _).symm.trans (by kernel_rfl)
theorem wide_Mask.l4X.eq (K : Ex → List EV → Heap → Prop) : ∀ (n : Nat) (x0 : Int) (x1 : Int) (x2 : Nat → Int) (x3 : Nat → Int), loopE E_wide_Mask (loopAt Tryd.f127 0) (LV.mk 12 [(0, 12)] 4 0 false) 0 19 K n [EV.int IntKind.i64 x0, EV.ptr 0 [], EV.ptr 1 [], EV.int IntKind.i64 x1] [some (EV.arr IntKind.u64 6 x2), some (EV.arr IntKind.u64 6 x3)] = wide_Mask.l4 (fun y0 y1 => K (.exit 0) [EV.ptr 0 [], EV.ptr 1 []] [some (EV.arr IntKind.u64 6 y0), some (EV.arr IntKind.u64 6 y1)]) n x0 x1 x2 x3
  | 0, _, _, _, _ => rfl
  | n + 1, x0, x1, x2, x3 => by
    have ih : (fun (x0 : Int) (x1 : Int) (x2 : Nat → Int) (x3 : Nat → Int) => loopE E_wide_Mask (loopAt Tryd.f127 0) (LV.mk 12 [(0, 12)] 4 0 false) 0 19 K n [EV.int IntKind.i64 x0, EV.ptr 0 [], EV.ptr 1 [], EV.int IntKind.i64 x1] [some (EV.arr IntKind.u64 6 x2), some (EV.arr IntKind.u64 6 x3)]) = wide_Mask.l4 (fun y0 y1 => K (.exit 0) [EV.ptr 0 [], EV.ptr 1 []] [some (EV.arr IntKind.u64 6 y0), some (EV.arr IntKind.u64 6 y1)]) n := by funext x0 x1 x2 x3; exact wide_Mask.l4X.eq K n x0 x1 x2 x3
    show loopStep _ _ _ _ _ (loopE E_wide_Mask (loopAt Tryd.f127 0) (LV.mk 12 [(0, 12)] 4 0 false) 0 19 K n) [EV.int IntKind.i64 x0, EV.ptr 0 [], EV.ptr 1 [], EV.int IntKind.i64 x1] [some (EV.arr IntKind.u64 6 x2), some (EV.arr IntKind.u64 6 x3)] K = wide_Mask.l4.step (wide_Mask.l4 (fun y0 y1 => K (.exit 0) [EV.ptr 0 [], EV.ptr 1 []] [some (EV.arr IntKind.u64 6 y0), some (EV.arr IntKind.u64 6 y1)]) n) (fun y0 y1 => K (.exit 0) [EV.ptr 0 [], EV.ptr 1 []] [some (EV.arr IntKind.u64 6 y0), some (EV.arr IntKind.u64 6 y1)]) x0 x1 x2 x3
    rw [← ih]
    exact wide_Mask.l4X.stepEq _ K x0 x1 x2 x3
theorem wide_Mask.l4X.ok : LoopEq E_wide_Mask (loopAt Tryd.f127 0) := by
  intro L hL vs H
  have h1 : E_wide_Mask.lp (firstRegion (loopAt Tryd.f127 0)) = some wide_Mask.l4.entry := by kernel_rfl
  have h2 : L = wide_Mask.l4.entry := Option.some.inj (hL.symm.trans h1)
  subst h2
  by_cases hx0 : ∃ (x0 : Int) (x1 : Int) (x2 : Nat → Int) (x3 : Nat → Int), vs = [EV.int IntKind.i64 x0, EV.ptr 0 [], EV.ptr 1 [], EV.int IntKind.i64 x1] ∧ H = [some (EV.arr IntKind.u64 6 x2), some (EV.arr IntKind.u64 6 x3)]
  · obtain ⟨x0, x1, x2, x3, rfl, rfl⟩ := hx0
    right; intro K
    exact exists_congr fun n => iff_of_eq (wide_Mask.l4X.eq K n x0 x1 x2 x3).symm
  left; intro K h
  simp only [wide_Mask.l4.entry] at h
  split at h
  · exact hx0 ⟨_, _, _, _, rfl, rfl⟩
  · exact h
theorem X_wide_Mask.eq (a0 : Int) (K : EV → Heap → Prop) : evFn E_wide_Mask Tryd.f127 false [.int .i64 a0] [] K = wide_Mask a0 (fun y0 => K (EV.arr IntKind.u64 6 y0) []) := by
  rw [wide_Mask.is]; exact (evFnQ_eq _ _ _ _ _ _).symm.trans (by kernel_rfl)
theorem X_wide_Mask.ok : SoundE Tryd.prog gl 127 e_wide_Mask := by
  refine fnOK (E := E_wide_Mask) (fn := Tryd.f127) rfl tys_ok rfl (show AllL _ l_wide_Mask from ⟨X_word_Mask.ok, X_wide_count.ok, trivial⟩) mixed (by kernel_rfl) (by kernel_rfl) (by kernel_rfl) 1 (by kernel_rfl) false ⟨wide_Mask.l4X.ok, trivial⟩ ?_
  intro args H
  by_cases hx : ∃ (a0 : Int), args = [.int .i64 a0] ∧ H = []
  · obtain ⟨a0, rfl, rfl⟩ := hx
    right; intro K
    exact iff_of_eq (X_wide_Mask.eq a0 K).symm
  · left; intro K h
    simp only [e_wide_Mask] at h
    split at h
    · exact hx ⟨_, rfl, rfl⟩
    · exact h
noncomputable def e_bits_TrailingZeros64 : Entry := ⟨[none], false, fun args H K => match args, H with
  | [.int .u64 a0], [] => bits_TrailingZeros64 a0 (fun y0 => K (EV.int IntKind.i64 y0) [])
  | _, _ => False⟩
noncomputable def E_bits_TrailingZeros64 : Env := ⟨look tys, look [], look [], gl, lookL [], false⟩
theorem X_bits_TrailingZeros64.eq (a0 : Int) (K : EV → Heap → Prop) : evFn E_bits_TrailingZeros64 Tryd.f156 false [.int .u64 a0] [] K = bits_TrailingZeros64 a0 (fun y0 => K (EV.int IntKind.i64 y0) []) := by
  rw [bits_TrailingZeros64.is]; exact (evFnQ_eq _ _ _ _ _ _).symm.trans (by kernel_rfl)
theorem X_bits_TrailingZeros64.ok : SoundE Tryd.prog gl 156 e_bits_TrailingZeros64 := by
  refine fnOK (E := E_bits_TrailingZeros64) (fn := Tryd.f156) rfl tys_ok rfl (show AllL _ [] from trivial) mixed (by kernel_rfl) (by kernel_rfl) (by kernel_rfl) 0 (by kernel_rfl) false trivial ?_
  intro args H
  by_cases hx : ∃ (a0 : Int), args = [.int .u64 a0] ∧ H = []
  · obtain ⟨a0, rfl, rfl⟩ := hx
    right; intro K
    exact iff_of_eq (X_bits_TrailingZeros64.eq a0 K).symm
  · left; intro K h
    simp only [e_bits_TrailingZeros64] at h
    split at h
    · exact hx ⟨_, rfl, rfl⟩
    · exact h
noncomputable def e_word_Low : Entry := ⟨[none], false, fun args H K => match args, H with
  | [.int .u64 a0], [] => word_Low a0 (fun y0 => K (EV.int IntKind.i64 y0) [])
  | _, _ => False⟩
noncomputable def l_word_Low : List (Nat × Entry) := [(156, e_bits_TrailingZeros64)]
noncomputable def E_word_Low : Env := ⟨look tys, look l_word_Low, look [], gl, lookL [], false⟩
theorem X_word_Low.eq (a0 : Int) (K : EV → Heap → Prop) : evFn E_word_Low Tryd.f154 false [.int .u64 a0] [] K = word_Low a0 (fun y0 => K (EV.int IntKind.i64 y0) []) := by
  rw [word_Low.is]; exact (evFnQ_eq _ _ _ _ _ _).symm.trans (by kernel_rfl)
theorem X_word_Low.ok : SoundE Tryd.prog gl 154 e_word_Low := by
  refine fnOK (E := E_word_Low) (fn := Tryd.f154) rfl tys_ok rfl (show AllL _ l_word_Low from ⟨X_bits_TrailingZeros64.ok, trivial⟩) mixed (by kernel_rfl) (by kernel_rfl) (by kernel_rfl) 0 (by kernel_rfl) false trivial ?_
  intro args H
  by_cases hx : ∃ (a0 : Int), args = [.int .u64 a0] ∧ H = []
  · obtain ⟨a0, rfl, rfl⟩ := hx
    right; intro K
    exact iff_of_eq (X_word_Low.eq a0 K).symm
  · left; intro K h
    simp only [e_word_Low] at h
    split at h
    · exact hx ⟨_, rfl, rfl⟩
    · exact h
noncomputable def e_wide_Low : Entry := ⟨[none], false, fun args H K => match args, H with
  | [.arr .u64 6 a0], [] => wide_Low a0 (fun y0 => K (EV.int IntKind.i64 y0) [])
  | _, _ => False⟩
noncomputable def l_wide_Low : List (Nat × Entry) := [(154, e_word_Low)]
noncomputable def E_wide_Low : Env := ⟨look tys, look l_wide_Low, look [(2, wide_Low.l2.entry)], gl, lookL [], false⟩
theorem wide_Low.l2X.stepEq (R : List EV → Heap → Prop) (K : Ex → List EV → Heap → Prop) (x0 : Nat → Int) (x1 : Int) : loopStep (evCode E_wide_Low (loopAt Tryd.f148 0) { (LV.mk 0 [(0, 0)] 4 0 false) with nx := live (.loop (loopAt Tryd.f148 0)) (LV.mk 0 [(0, 0)] 4 0 false) }) (live (.loop (loopAt Tryd.f148 0)) (LV.mk 0 [(0, 0)] 4 0 false)) (LV.mk 0 [(0, 0)] 4 0 false) 0 18 R [EV.arr IntKind.u64 6 x0, EV.int IntKind.i64 x1] [] K = wide_Low.l2.step (fun x0 x1 => R [EV.arr IntKind.u64 6 x0, EV.int IntKind.i64 x1] []) (fun y0 => K .ret [EV.int IntKind.i64 y0] []) (K (.exit 0) [] []) x0 x1 := (stepQ_eq _ _ _ _ _ _ _ _ _ _ _).symm.trans (by kernel_rfl)
theorem wide_Low.l2X.eq (K : Ex → List EV → Heap → Prop) : ∀ (n : Nat) (x0 : Nat → Int) (x1 : Int), loopE E_wide_Low (loopAt Tryd.f148 0) (LV.mk 0 [(0, 0)] 4 0 false) 0 18 K n [EV.arr IntKind.u64 6 x0, EV.int IntKind.i64 x1] [] = wide_Low.l2 (fun y0 => K .ret [EV.int IntKind.i64 y0] []) (K (.exit 0) [] []) n x0 x1
  | 0, _, _ => rfl
  | n + 1, x0, x1 => by
    have ih : (fun (x0 : Nat → Int) (x1 : Int) => loopE E_wide_Low (loopAt Tryd.f148 0) (LV.mk 0 [(0, 0)] 4 0 false) 0 18 K n [EV.arr IntKind.u64 6 x0, EV.int IntKind.i64 x1] []) = wide_Low.l2 (fun y0 => K .ret [EV.int IntKind.i64 y0] []) (K (.exit 0) [] []) n := by funext x0 x1; exact wide_Low.l2X.eq K n x0 x1
    show loopStep _ _ _ _ _ (loopE E_wide_Low (loopAt Tryd.f148 0) (LV.mk 0 [(0, 0)] 4 0 false) 0 18 K n) [EV.arr IntKind.u64 6 x0, EV.int IntKind.i64 x1] [] K = wide_Low.l2.step (wide_Low.l2 (fun y0 => K .ret [EV.int IntKind.i64 y0] []) (K (.exit 0) [] []) n) (fun y0 => K .ret [EV.int IntKind.i64 y0] []) (K (.exit 0) [] []) x0 x1
    rw [← ih]
    exact wide_Low.l2X.stepEq _ K x0 x1
theorem wide_Low.l2X.ok : LoopEq E_wide_Low (loopAt Tryd.f148 0) := by
  intro L hL vs H
  have h1 : E_wide_Low.lp (firstRegion (loopAt Tryd.f148 0)) = some wide_Low.l2.entry := by kernel_rfl
  have h2 : L = wide_Low.l2.entry := Option.some.inj (hL.symm.trans h1)
  subst h2
  by_cases hx0 : ∃ (x0 : Nat → Int) (x1 : Int), vs = [EV.arr IntKind.u64 6 x0, EV.int IntKind.i64 x1] ∧ H = []
  · obtain ⟨x0, x1, rfl, rfl⟩ := hx0
    right; intro K
    exact exists_congr fun n => iff_of_eq (wide_Low.l2X.eq K n x0 x1).symm
  left; intro K h
  simp only [wide_Low.l2.entry] at h
  split at h
  · exact hx0 ⟨_, _, rfl, rfl⟩
  · exact h
theorem X_wide_Low.eq (a0 : Nat → Int) (K : EV → Heap → Prop) : evFn E_wide_Low Tryd.f148 false [.arr .u64 6 a0] [] K = wide_Low a0 (fun y0 => K (EV.int IntKind.i64 y0) []) := by
  rw [wide_Low.is]; exact (evFnQ_eq _ _ _ _ _ _).symm.trans (by kernel_rfl)
theorem X_wide_Low.ok : SoundE Tryd.prog gl 148 e_wide_Low := by
  refine fnOK (E := E_wide_Low) (fn := Tryd.f148) rfl tys_ok rfl (show AllL _ l_wide_Low from ⟨X_word_Low.ok, trivial⟩) mixed (by kernel_rfl) (by kernel_rfl) (by kernel_rfl) 1 (by kernel_rfl) false ⟨wide_Low.l2X.ok, trivial⟩ ?_
  intro args H
  by_cases hx : ∃ (a0 : Nat → Int), args = [.arr .u64 6 a0] ∧ H = []
  · obtain ⟨a0, rfl, rfl⟩ := hx
    right; intro K
    exact iff_of_eq (X_wide_Low.eq a0 K).symm
  · left; intro K h
    simp only [e_wide_Low] at h
    split at h
    · exact hx ⟨_, rfl, rfl⟩
    · exact h
noncomputable def e_wide_Right : Entry := ⟨[none, none], false, fun args H K => match args, H with
  | [.arr .u64 6 a0, .int .i64 a1], [] => wide_Right a0 a1 (fun y0 y1 => K (EV.tuple [EV.arr IntKind.u64 6 y0, EV.bool y1]) [])
  | _, _ => False⟩
noncomputable def l_wide_Right : List (Nat × Entry) := [(147, e_wide_count), (148, e_wide_Low)]
noncomputable def E_wide_Right : Env := ⟨look tys, look l_wide_Right, look [(5, wide_Right.l5.entry)], gl, lookL [], false⟩
theorem wide_Right.l5X.stepEq (R : List EV → Heap → Prop) (K : Ex → List EV → Heap → Prop) (x0 : Bool) (x1 : Int) (x2 : Int) (x3 : Int) (x4 : Nat → Int) (x5 : Nat → Int) : loopStep (evCode E_wide_Right (loopAt Tryd.f128 0) { (LV.mk 48 [(0, 48)] 48 0 false) with nx := live (.loop (loopAt Tryd.f128 0)) (LV.mk 48 [(0, 48)] 48 0 false) }) (live (.loop (loopAt Tryd.f128 0)) (LV.mk 48 [(0, 48)] 48 0 false)) (LV.mk 48 [(0, 48)] 48 0 false) 0 60 R [EV.ptr 0 [], EV.ptr 1 [], EV.bool x0, EV.int IntKind.i64 x1, EV.int IntKind.u64 x2, EV.int IntKind.i64 x3] [some (EV.arr IntKind.u64 6 x4), some (EV.arr IntKind.u64 6 x5)] K = wide_Right.l5.step (fun x0 x1 x2 x3 x4 x5 => R [EV.ptr 0 [], EV.ptr 1 [], EV.bool x0, EV.int IntKind.i64 x1, EV.int IntKind.u64 x2, EV.int IntKind.i64 x3] [some (EV.arr IntKind.u64 6 x4), some (EV.arr IntKind.u64 6 x5)]) (fun y0 y1 => K (.exit 0) [EV.ptr 0 [], EV.bool y0] [some (EV.arr IntKind.u64 6 y1)]) x0 x1 x2 x3 x4 x5 := (stepQ_eq _ _ _ _ _ _ _ _ _ _ _).symm.trans (by kernel_rfl)
theorem wide_Right.l5X.eq (K : Ex → List EV → Heap → Prop) : ∀ (n : Nat) (x0 : Bool) (x1 : Int) (x2 : Int) (x3 : Int) (x4 : Nat → Int) (x5 : Nat → Int), loopE E_wide_Right (loopAt Tryd.f128 0) (LV.mk 48 [(0, 48)] 48 0 false) 0 60 K n [EV.ptr 0 [], EV.ptr 1 [], EV.bool x0, EV.int IntKind.i64 x1, EV.int IntKind.u64 x2, EV.int IntKind.i64 x3] [some (EV.arr IntKind.u64 6 x4), some (EV.arr IntKind.u64 6 x5)] = wide_Right.l5 (fun y0 y1 => K (.exit 0) [EV.ptr 0 [], EV.bool y0] [some (EV.arr IntKind.u64 6 y1)]) n x0 x1 x2 x3 x4 x5
  | 0, _, _, _, _, _, _ => rfl
  | n + 1, x0, x1, x2, x3, x4, x5 => by
    have ih : (fun (x0 : Bool) (x1 : Int) (x2 : Int) (x3 : Int) (x4 : Nat → Int) (x5 : Nat → Int) => loopE E_wide_Right (loopAt Tryd.f128 0) (LV.mk 48 [(0, 48)] 48 0 false) 0 60 K n [EV.ptr 0 [], EV.ptr 1 [], EV.bool x0, EV.int IntKind.i64 x1, EV.int IntKind.u64 x2, EV.int IntKind.i64 x3] [some (EV.arr IntKind.u64 6 x4), some (EV.arr IntKind.u64 6 x5)]) = wide_Right.l5 (fun y0 y1 => K (.exit 0) [EV.ptr 0 [], EV.bool y0] [some (EV.arr IntKind.u64 6 y1)]) n := by funext x0 x1 x2 x3 x4 x5; exact wide_Right.l5X.eq K n x0 x1 x2 x3 x4 x5
    show loopStep _ _ _ _ _ (loopE E_wide_Right (loopAt Tryd.f128 0) (LV.mk 48 [(0, 48)] 48 0 false) 0 60 K n) [EV.ptr 0 [], EV.ptr 1 [], EV.bool x0, EV.int IntKind.i64 x1, EV.int IntKind.u64 x2, EV.int IntKind.i64 x3] [some (EV.arr IntKind.u64 6 x4), some (EV.arr IntKind.u64 6 x5)] K = wide_Right.l5.step (wide_Right.l5 (fun y0 y1 => K (.exit 0) [EV.ptr 0 [], EV.bool y0] [some (EV.arr IntKind.u64 6 y1)]) n) (fun y0 y1 => K (.exit 0) [EV.ptr 0 [], EV.bool y0] [some (EV.arr IntKind.u64 6 y1)]) x0 x1 x2 x3 x4 x5
    rw [← ih]
    exact wide_Right.l5X.stepEq _ K x0 x1 x2 x3 x4 x5
theorem wide_Right.l5X.ok : LoopEq E_wide_Right (loopAt Tryd.f128 0) := by
  intro L hL vs H
  have h1 : E_wide_Right.lp (firstRegion (loopAt Tryd.f128 0)) = some wide_Right.l5.entry := by kernel_rfl
  have h2 : L = wide_Right.l5.entry := Option.some.inj (hL.symm.trans h1)
  subst h2
  by_cases hx0 : ∃ (x0 : Bool) (x1 : Int) (x2 : Int) (x3 : Int) (x4 : Nat → Int) (x5 : Nat → Int), vs = [EV.ptr 0 [], EV.ptr 1 [], EV.bool x0, EV.int IntKind.i64 x1, EV.int IntKind.u64 x2, EV.int IntKind.i64 x3] ∧ H = [some (EV.arr IntKind.u64 6 x4), some (EV.arr IntKind.u64 6 x5)]
  · obtain ⟨x0, x1, x2, x3, x4, x5, rfl, rfl⟩ := hx0
    right; intro K
    exact exists_congr fun n => iff_of_eq (wide_Right.l5X.eq K n x0 x1 x2 x3 x4 x5).symm
  left; intro K h
  simp only [wide_Right.l5.entry] at h
  split at h
  · exact hx0 ⟨_, _, _, _, _, _, rfl, rfl⟩
  · exact h
theorem X_wide_Right.eq (a0 : Nat → Int) (a1 : Int) (K : EV → Heap → Prop) : evFn E_wide_Right Tryd.f128 false [.arr .u64 6 a0, .int .i64 a1] [] K = wide_Right a0 a1 (fun y0 y1 => K (EV.tuple [EV.arr IntKind.u64 6 y0, EV.bool y1]) []) := by
  rw [wide_Right.is]; exact (evFnQ_eq _ _ _ _ _ _).symm.trans (by kernel_rfl)
theorem X_wide_Right.ok : SoundE Tryd.prog gl 128 e_wide_Right := by
  refine fnOK (E := E_wide_Right) (fn := Tryd.f128) rfl tys_ok rfl (show AllL _ l_wide_Right from ⟨X_wide_count.ok, X_wide_Low.ok, trivial⟩) mixed (by kernel_rfl) (by kernel_rfl) (by kernel_rfl) 1 (by kernel_rfl) false ⟨wide_Right.l5X.ok, trivial⟩ ?_
  intro args H
  by_cases hx : ∃ (a0 : Nat → Int) (a1 : Int), args = [.arr .u64 6 a0, .int .i64 a1] ∧ H = []
  · obtain ⟨a0, a1, rfl, rfl⟩ := hx
    right; intro K
    exact iff_of_eq (X_wide_Right.eq a0 a1 K).symm
  · left; intro K h
    simp only [e_wide_Right] at h
    split at h
    · exact hx ⟨_, _, rfl, rfl⟩
    · exact h
noncomputable def e_kind_fields : Entry := ⟨[none, none], false, fun args H K => match args, H with
  | [.int .u8 a0, .agg [.int .u64 a1_0, .int .u64 a1_1]], [] => kind_fields a0 a1_0 a1_1 (fun y0 y1 y2 => K (EV.tuple [EV.bool y0, EV.int IntKind.i64 y1, EV.arr IntKind.u64 6 y2]) [])
  | _, _ => False⟩
noncomputable def l_kind_fields : List (Nat × Entry) := [(55, e_shape_Width), (107, e_wide_Bit), (108, e_shape_Precision), (111, e_wide_OfBits), (126, e_wide_And), (127, e_wide_Mask), (128, e_wide_Right)]
noncomputable def E_kind_fields : Env := ⟨look tys, look l_kind_fields, look [], gl, lookL [], false⟩
theorem X_kind_fields.eq (a0 : Int) (a1_0 : Int) (a1_1 : Int) (K : EV → Heap → Prop) : evFn E_kind_fields Tryd.f105 false [.int .u8 a0, .agg [.int .u64 a1_0, .int .u64 a1_1]] [] K = kind_fields a0 a1_0 a1_1 (fun y0 y1 y2 => K (EV.tuple [EV.bool y0, EV.int IntKind.i64 y1, EV.arr IntKind.u64 6 y2]) []) := by
  rw [kind_fields.is]; exact (evFnQ_eq _ _ _ _ _ _).symm.trans (by kernel_rfl)
theorem X_kind_fields.ok : SoundE Tryd.prog gl 105 e_kind_fields := by
  refine fnOK (E := E_kind_fields) (fn := Tryd.f105) rfl tys_ok rfl (show AllL _ l_kind_fields from ⟨X_shape_Width.ok, X_wide_Bit.ok, X_shape_Precision.ok, X_wide_OfBits.ok, X_wide_And.ok, X_wide_Mask.ok, X_wide_Right.ok, trivial⟩) mixed (by kernel_rfl) (by kernel_rfl) (by kernel_rfl) 0 (by kernel_rfl) false trivial ?_
  intro args H
  by_cases hx : ∃ (a0 : Int) (a1_0 : Int) (a1_1 : Int), args = [.int .u8 a0, .agg [.int .u64 a1_0, .int .u64 a1_1]] ∧ H = []
  · obtain ⟨a0, a1_0, a1_1, rfl, rfl⟩ := hx
    right; intro K
    exact iff_of_eq (X_kind_fields.eq a0 a1_0 a1_1 K).symm
  · left; intro K h
    simp only [e_kind_fields] at h
    split at h
    · exact hx ⟨_, _, _, rfl, rfl⟩
    · exact h
noncomputable def e_shape_Emax : Entry := ⟨[none], false, fun args H K => match args, H with
  | [.int .u8 a0], [] => shape_Emax a0 (fun y0 => K (EV.int IntKind.i64 y0) [])
  | _, _ => False⟩
noncomputable def l_shape_Emax : List (Nat × Entry) := [(88, e_shape_numbers)]
noncomputable def E_shape_Emax : Env := ⟨look tys, look l_shape_Emax, look [], gl, lookL [], false⟩
theorem X_shape_Emax.eq (a0 : Int) (K : EV → Heap → Prop) : evFn E_shape_Emax Tryd.f106 false [.int .u8 a0] [] K = shape_Emax a0 (fun y0 => K (EV.int IntKind.i64 y0) []) := by
  rw [shape_Emax.is]; exact (evFnQ_eq _ _ _ _ _ _).symm.trans (by kernel_rfl)
theorem X_shape_Emax.ok : SoundE Tryd.prog gl 106 e_shape_Emax := by
  refine fnOK (E := E_shape_Emax) (fn := Tryd.f106) rfl tys_ok rfl (show AllL _ l_shape_Emax from ⟨X_shape_numbers.ok, trivial⟩) mixed (by kernel_rfl) (by kernel_rfl) (by kernel_rfl) 0 (by kernel_rfl) false trivial ?_
  intro args H
  by_cases hx : ∃ (a0 : Int), args = [.int .u8 a0] ∧ H = []
  · obtain ⟨a0, rfl, rfl⟩ := hx
    right; intro K
    exact iff_of_eq (X_shape_Emax.eq a0 K).symm
  · left; intro K h
    simp only [e_shape_Emax] at h
    split at h
    · exact hx ⟨_, rfl, rfl⟩
    · exact h
noncomputable def e_kind_class : Entry := ⟨[none, none], false, fun args H K => match args, H with
  | [.int .u8 a0, .agg [.int .u64 a1_0, .int .u64 a1_1]], [] => kind_class a0 a1_0 a1_1 (fun y0 => K (EV.int IntKind.u8 y0) [])
  | _, _ => False⟩
noncomputable def l_kind_class : List (Nat × Entry) := [(105, e_kind_fields), (106, e_shape_Emax), (107, e_wide_Bit), (108, e_shape_Precision)]
noncomputable def E_kind_class : Env := ⟨look tys, look l_kind_class, look [], gl, lookL [], false⟩
theorem X_kind_class.eq (a0 : Int) (a1_0 : Int) (a1_1 : Int) (K : EV → Heap → Prop) : evFn E_kind_class Tryd.f75 false [.int .u8 a0, .agg [.int .u64 a1_0, .int .u64 a1_1]] [] K = kind_class a0 a1_0 a1_1 (fun y0 => K (EV.int IntKind.u8 y0) []) := by
  rw [kind_class.is]; exact (evFnQ_eq _ _ _ _ _ _).symm.trans (by kernel_rfl)
theorem X_kind_class.ok : SoundE Tryd.prog gl 75 e_kind_class := by
  refine fnOK (E := E_kind_class) (fn := Tryd.f75) rfl tys_ok rfl (show AllL _ l_kind_class from ⟨X_kind_fields.ok, X_shape_Emax.ok, X_wide_Bit.ok, X_shape_Precision.ok, trivial⟩) mixed (by kernel_rfl) (by kernel_rfl) (by kernel_rfl) 0 (by kernel_rfl) false trivial ?_
  intro args H
  by_cases hx : ∃ (a0 : Int) (a1_0 : Int) (a1_1 : Int), args = [.int .u8 a0, .agg [.int .u64 a1_0, .int .u64 a1_1]] ∧ H = []
  · obtain ⟨a0, a1_0, a1_1, rfl, rfl⟩ := hx
    right; intro K
    exact iff_of_eq (X_kind_class.eq a0 a1_0 a1_1 K).symm
  · left; intro K h
    simp only [e_kind_class] at h
    split at h
    · exact hx ⟨_, _, _, rfl, rfl⟩
    · exact h
noncomputable def e_kind_Class : Entry := ⟨[none, none], false, fun args H K => match args, H with
  | [.int .u8 a0, .agg [.int .u64 a1_0, .int .u64 a1_1]], [] => kind_Class a0 a1_0 a1_1 (fun y0 y1 => K (EV.tuple [EV.int IntKind.u8 y0, EV.int IntKind.i64 y1]) [])
  | _, _ => False⟩
noncomputable def l_kind_Class : List (Nat × Entry) := [(53, e_shape_Fits), (75, e_kind_class)]
noncomputable def E_kind_Class : Env := ⟨look tys, look l_kind_Class, look [], gl, lookL [], false⟩
theorem X_kind_Class.eq (a0 : Int) (a1_0 : Int) (a1_1 : Int) (K : EV → Heap → Prop) : evFn E_kind_Class Tryd.f38 false [.int .u8 a0, .agg [.int .u64 a1_0, .int .u64 a1_1]] [] K = kind_Class a0 a1_0 a1_1 (fun y0 y1 => K (EV.tuple [EV.int IntKind.u8 y0, EV.int IntKind.i64 y1]) []) := by
  rw [kind_Class.is]; exact (evFnQ_eq _ _ _ _ _ _).symm.trans (by kernel_rfl)
theorem X_kind_Class.ok : SoundE Tryd.prog gl 38 e_kind_Class := by
  refine fnOK (E := E_kind_Class) (fn := Tryd.f38) rfl tys_ok rfl (show AllL _ l_kind_Class from ⟨X_shape_Fits.ok, X_kind_class.ok, trivial⟩) mixed (by kernel_rfl) (by kernel_rfl) (by kernel_rfl) 0 (by kernel_rfl) false trivial ?_
  intro args H
  by_cases hx : ∃ (a0 : Int) (a1_0 : Int) (a1_1 : Int), args = [.int .u8 a0, .agg [.int .u64 a1_0, .int .u64 a1_1]] ∧ H = []
  · obtain ⟨a0, a1_0, a1_1, rfl, rfl⟩ := hx
    right; intro K
    exact iff_of_eq (X_kind_Class.eq a0 a1_0 a1_1 K).symm
  · left; intro K h
    simp only [e_kind_Class] at h
    split at h
    · exact hx ⟨_, _, _, rfl, rfl⟩
    · exact h
noncomputable def e_order_nan : Entry := ⟨[none, none], false, fun args H K => match args, H with
  | [.int .u8 a0, .agg [.int .u64 a1_0, .int .u64 a1_1]], [] => order_nan a0 a1_0 a1_1 (fun y0 => K (EV.bool y0) [])
  | _, _ => False⟩
noncomputable def l_order_nan : List (Nat × Entry) := [(38, e_kind_Class)]
noncomputable def E_order_nan : Env := ⟨look tys, look l_order_nan, look [], gl, lookL [], false⟩
theorem X_order_nan.eq (a0 : Int) (a1_0 : Int) (a1_1 : Int) (K : EV → Heap → Prop) : evFn E_order_nan Tryd.f66 false [.int .u8 a0, .agg [.int .u64 a1_0, .int .u64 a1_1]] [] K = order_nan a0 a1_0 a1_1 (fun y0 => K (EV.bool y0) []) := by
  rw [order_nan.is]; exact (evFnQ_eq _ _ _ _ _ _).symm.trans (by kernel_rfl)
theorem X_order_nan.ok : SoundE Tryd.prog gl 66 e_order_nan := by
  refine fnOK (E := E_order_nan) (fn := Tryd.f66) rfl tys_ok rfl (show AllL _ l_order_nan from ⟨X_kind_Class.ok, trivial⟩) mixed (by kernel_rfl) (by kernel_rfl) (by kernel_rfl) 0 (by kernel_rfl) false trivial ?_
  intro args H
  by_cases hx : ∃ (a0 : Int) (a1_0 : Int) (a1_1 : Int), args = [.int .u8 a0, .agg [.int .u64 a1_0, .int .u64 a1_1]] ∧ H = []
  · obtain ⟨a0, a1_0, a1_1, rfl, rfl⟩ := hx
    right; intro K
    exact iff_of_eq (X_order_nan.eq a0 a1_0 a1_1 K).symm
  · left; intro K h
    simp only [e_order_nan] at h
    split at h
    · exact hx ⟨_, _, _, rfl, rfl⟩
    · exact h
noncomputable def e_order_Compare : Entry := ⟨[none, none, none], false, fun args H K => match args, H with
  | [.int .u8 a0, .agg [.int .u64 a1_0, .int .u64 a1_1], .agg [.int .u64 a2_0, .int .u64 a2_1]], [] => order_Compare a0 a1_0 a1_1 a2_0 a2_1 (fun y0 y1 => K (EV.tuple [EV.int IntKind.u8 y0, EV.int IntKind.i64 y1]) [])
  | _, _ => False⟩
noncomputable def l_order_Compare : List (Nat × Entry) := [(63, e_shape_Zero), (64, e_order_fits), (65, e_order_total), (66, e_order_nan)]
noncomputable def E_order_Compare : Env := ⟨look tys, look l_order_Compare, look [], gl, lookL [], false⟩
theorem X_order_Compare.eq (a0 : Int) (a1_0 : Int) (a1_1 : Int) (a2_0 : Int) (a2_1 : Int) (K : EV → Heap → Prop) : evFn E_order_Compare Tryd.f27 false [.int .u8 a0, .agg [.int .u64 a1_0, .int .u64 a1_1], .agg [.int .u64 a2_0, .int .u64 a2_1]] [] K = order_Compare a0 a1_0 a1_1 a2_0 a2_1 (fun y0 y1 => K (EV.tuple [EV.int IntKind.u8 y0, EV.int IntKind.i64 y1]) []) := by
  rw [order_Compare.is]; exact (evFnQ_eq _ _ _ _ _ _).symm.trans (by kernel_rfl)
theorem X_order_Compare.ok : SoundE Tryd.prog gl 27 e_order_Compare := by
  refine fnOK (E := E_order_Compare) (fn := Tryd.f27) rfl tys_ok rfl (show AllL _ l_order_Compare from ⟨X_shape_Zero.ok, X_order_fits.ok, X_order_total.ok, X_order_nan.ok, trivial⟩) mixed (by kernel_rfl) (by kernel_rfl) (by kernel_rfl) 0 (by kernel_rfl) false trivial ?_
  intro args H
  by_cases hx : ∃ (a0 : Int) (a1_0 : Int) (a1_1 : Int) (a2_0 : Int) (a2_1 : Int), args = [.int .u8 a0, .agg [.int .u64 a1_0, .int .u64 a1_1], .agg [.int .u64 a2_0, .int .u64 a2_1]] ∧ H = []
  · obtain ⟨a0, a1_0, a1_1, a2_0, a2_1, rfl, rfl⟩ := hx
    right; intro K
    exact iff_of_eq (X_order_Compare.eq a0 a1_0 a1_1 a2_0 a2_1 K).symm
  · left; intro K h
    simp only [e_order_Compare] at h
    split at h
    · exact hx ⟨_, _, _, _, _, rfl, rfl⟩
    · exact h
noncomputable def e_order_loud : Entry := ⟨[none, none, none], true, fun args H K => match args, H with
  | [.int .u8 a0, .bool a1, .slice 0 0 2 (some 2) 2], [some (.agg [.agg [.int .u64 a2_0_0, .int .u64 a2_0_1], .agg [.int .u64 a2_1_0, .int .u64 a2_1_1]])] => order_loud a0 a1 a2_0_0 a2_0_1 a2_1_0 a2_1_1 (fun y0 y1 y2 y3 y4 => K (EV.int IntKind.u8 y0) [some (EV.agg [EV.agg [EV.int IntKind.u64 y1, EV.int IntKind.u64 y2], EV.agg [EV.int IntKind.u64 y3, EV.int IntKind.u64 y4]])])
  | _, _ => False⟩
noncomputable def l_order_loud : List (Nat × Entry) := [(38, e_kind_Class)]
noncomputable def E_order_loud : Env := ⟨look tys, look l_order_loud, look [(2, order_loud.l2.entry)], gl, lookL [], false⟩
theorem order_loud.l2X.stepEq (R : List EV → Heap → Prop) (K : Ex → List EV → Heap → Prop) (x0 : Int) (x1 : Bool) (x2 : Int) (x3 : Int) (x4 : Int) (x5 : Int) (x6 : Int) (x7 : Int) : loopStep (evCode E_order_loud (loopAt Tryd.f67 0) { (LV.mk 0 [(0, 0)] 64 1 false) with nx := live (.loop (loopAt Tryd.f67 0)) (LV.mk 0 [(0, 0)] 64 1 false) }) (live (.loop (loopAt Tryd.f67 0)) (LV.mk 0 [(0, 0)] 64 1 false)) (LV.mk 0 [(0, 0)] 64 1 false) 1 33 R [EV.int IntKind.u8 x0, EV.bool x1, EV.slice 0 0 2 (some 2) 2, EV.int IntKind.i64 x2, EV.int IntKind.i64 x3] [some (EV.agg [EV.agg [EV.int IntKind.u64 x4, EV.int IntKind.u64 x5], EV.agg [EV.int IntKind.u64 x6, EV.int IntKind.u64 x7]])] K = order_loud.l2.step (fun x0 x1 x2 x3 x4 x5 x6 x7 => R [EV.int IntKind.u8 x0, EV.bool x1, EV.slice 0 0 2 (some 2) 2, EV.int IntKind.i64 x2, EV.int IntKind.i64 x3] [some (EV.agg [EV.agg [EV.int IntKind.u64 x4, EV.int IntKind.u64 x5], EV.agg [EV.int IntKind.u64 x6, EV.int IntKind.u64 x7]])]) (fun y0 y1 y2 y3 y4 => K .ret [EV.int IntKind.u8 y0] [some (EV.agg [EV.agg [EV.int IntKind.u64 y1, EV.int IntKind.u64 y2], EV.agg [EV.int IntKind.u64 y3, EV.int IntKind.u64 y4]])]) (fun y0 y1 y2 y3 => K (.exit 0) [] [some (EV.agg [EV.agg [EV.int IntKind.u64 y0, EV.int IntKind.u64 y1], EV.agg [EV.int IntKind.u64 y2, EV.int IntKind.u64 y3]])]) x0 x1 x2 x3 x4 x5 x6 x7 := (stepQ_eq _ _ _ _ _ _ _ _ _ _ _).symm.trans (by kernel_rfl)
theorem order_loud.l2X.eq (K : Ex → List EV → Heap → Prop) : ∀ (n : Nat) (x0 : Int) (x1 : Bool) (x2 : Int) (x3 : Int) (x4 : Int) (x5 : Int) (x6 : Int) (x7 : Int), loopE E_order_loud (loopAt Tryd.f67 0) (LV.mk 0 [(0, 0)] 64 1 false) 1 33 K n [EV.int IntKind.u8 x0, EV.bool x1, EV.slice 0 0 2 (some 2) 2, EV.int IntKind.i64 x2, EV.int IntKind.i64 x3] [some (EV.agg [EV.agg [EV.int IntKind.u64 x4, EV.int IntKind.u64 x5], EV.agg [EV.int IntKind.u64 x6, EV.int IntKind.u64 x7]])] = order_loud.l2 (fun y0 y1 y2 y3 y4 => K .ret [EV.int IntKind.u8 y0] [some (EV.agg [EV.agg [EV.int IntKind.u64 y1, EV.int IntKind.u64 y2], EV.agg [EV.int IntKind.u64 y3, EV.int IntKind.u64 y4]])]) (fun y0 y1 y2 y3 => K (.exit 0) [] [some (EV.agg [EV.agg [EV.int IntKind.u64 y0, EV.int IntKind.u64 y1], EV.agg [EV.int IntKind.u64 y2, EV.int IntKind.u64 y3]])]) n x0 x1 x2 x3 x4 x5 x6 x7
  | 0, _, _, _, _, _, _, _, _ => rfl
  | n + 1, x0, x1, x2, x3, x4, x5, x6, x7 => by
    have ih : (fun (x0 : Int) (x1 : Bool) (x2 : Int) (x3 : Int) (x4 : Int) (x5 : Int) (x6 : Int) (x7 : Int) => loopE E_order_loud (loopAt Tryd.f67 0) (LV.mk 0 [(0, 0)] 64 1 false) 1 33 K n [EV.int IntKind.u8 x0, EV.bool x1, EV.slice 0 0 2 (some 2) 2, EV.int IntKind.i64 x2, EV.int IntKind.i64 x3] [some (EV.agg [EV.agg [EV.int IntKind.u64 x4, EV.int IntKind.u64 x5], EV.agg [EV.int IntKind.u64 x6, EV.int IntKind.u64 x7]])]) = order_loud.l2 (fun y0 y1 y2 y3 y4 => K .ret [EV.int IntKind.u8 y0] [some (EV.agg [EV.agg [EV.int IntKind.u64 y1, EV.int IntKind.u64 y2], EV.agg [EV.int IntKind.u64 y3, EV.int IntKind.u64 y4]])]) (fun y0 y1 y2 y3 => K (.exit 0) [] [some (EV.agg [EV.agg [EV.int IntKind.u64 y0, EV.int IntKind.u64 y1], EV.agg [EV.int IntKind.u64 y2, EV.int IntKind.u64 y3]])]) n := by funext x0 x1 x2 x3 x4 x5 x6 x7; exact order_loud.l2X.eq K n x0 x1 x2 x3 x4 x5 x6 x7
    show loopStep _ _ _ _ _ (loopE E_order_loud (loopAt Tryd.f67 0) (LV.mk 0 [(0, 0)] 64 1 false) 1 33 K n) [EV.int IntKind.u8 x0, EV.bool x1, EV.slice 0 0 2 (some 2) 2, EV.int IntKind.i64 x2, EV.int IntKind.i64 x3] [some (EV.agg [EV.agg [EV.int IntKind.u64 x4, EV.int IntKind.u64 x5], EV.agg [EV.int IntKind.u64 x6, EV.int IntKind.u64 x7]])] K = order_loud.l2.step (order_loud.l2 (fun y0 y1 y2 y3 y4 => K .ret [EV.int IntKind.u8 y0] [some (EV.agg [EV.agg [EV.int IntKind.u64 y1, EV.int IntKind.u64 y2], EV.agg [EV.int IntKind.u64 y3, EV.int IntKind.u64 y4]])]) (fun y0 y1 y2 y3 => K (.exit 0) [] [some (EV.agg [EV.agg [EV.int IntKind.u64 y0, EV.int IntKind.u64 y1], EV.agg [EV.int IntKind.u64 y2, EV.int IntKind.u64 y3]])]) n) (fun y0 y1 y2 y3 y4 => K .ret [EV.int IntKind.u8 y0] [some (EV.agg [EV.agg [EV.int IntKind.u64 y1, EV.int IntKind.u64 y2], EV.agg [EV.int IntKind.u64 y3, EV.int IntKind.u64 y4]])]) (fun y0 y1 y2 y3 => K (.exit 0) [] [some (EV.agg [EV.agg [EV.int IntKind.u64 y0, EV.int IntKind.u64 y1], EV.agg [EV.int IntKind.u64 y2, EV.int IntKind.u64 y3]])]) x0 x1 x2 x3 x4 x5 x6 x7
    rw [← ih]
    exact order_loud.l2X.stepEq _ K x0 x1 x2 x3 x4 x5 x6 x7
theorem order_loud.l2X.ok : LoopEq E_order_loud (loopAt Tryd.f67 0) := by
  intro L hL vs H
  have h1 : E_order_loud.lp (firstRegion (loopAt Tryd.f67 0)) = some order_loud.l2.entry := by kernel_rfl
  have h2 : L = order_loud.l2.entry := Option.some.inj (hL.symm.trans h1)
  subst h2
  by_cases hx0 : ∃ (x0 : Int) (x1 : Bool) (x2 : Int) (x3 : Int) (x4 : Int) (x5 : Int) (x6 : Int) (x7 : Int), vs = [EV.int IntKind.u8 x0, EV.bool x1, EV.slice 0 0 2 (some 2) 2, EV.int IntKind.i64 x2, EV.int IntKind.i64 x3] ∧ H = [some (EV.agg [EV.agg [EV.int IntKind.u64 x4, EV.int IntKind.u64 x5], EV.agg [EV.int IntKind.u64 x6, EV.int IntKind.u64 x7]])]
  · obtain ⟨x0, x1, x2, x3, x4, x5, x6, x7, rfl, rfl⟩ := hx0
    right; intro K
    exact exists_congr fun n => iff_of_eq (order_loud.l2X.eq K n x0 x1 x2 x3 x4 x5 x6 x7).symm
  left; intro K h
  simp only [order_loud.l2.entry] at h
  split at h
  · exact hx0 ⟨_, _, _, _, _, _, _, _, rfl, rfl⟩
  · exact h
theorem X_order_loud.eq (a0 : Int) (a1 : Bool) (a2_0_0 : Int) (a2_0_1 : Int) (a2_1_0 : Int) (a2_1_1 : Int) (K : EV → Heap → Prop) : evFn E_order_loud Tryd.f67 false [.int .u8 a0, .bool a1, .slice 0 0 2 (some 2) 2] [some (.agg [.agg [.int .u64 a2_0_0, .int .u64 a2_0_1], .agg [.int .u64 a2_1_0, .int .u64 a2_1_1]])] K = order_loud a0 a1 a2_0_0 a2_0_1 a2_1_0 a2_1_1 (fun y0 y1 y2 y3 y4 => K (EV.int IntKind.u8 y0) [some (EV.agg [EV.agg [EV.int IntKind.u64 y1, EV.int IntKind.u64 y2], EV.agg [EV.int IntKind.u64 y3, EV.int IntKind.u64 y4]])]) := by
  rw [order_loud.is]; exact (evFnQ_eq _ _ _ _ _ _).symm.trans (by kernel_rfl)
theorem X_order_loud.ok : SoundE Tryd.prog gl 67 e_order_loud := by
  refine fnOK (E := E_order_loud) (fn := Tryd.f67) rfl tys_ok rfl (show AllL _ l_order_loud from ⟨X_kind_Class.ok, trivial⟩) mixed (by kernel_rfl) (by kernel_rfl) (by kernel_rfl) 1 (by kernel_rfl) false ⟨order_loud.l2X.ok, trivial⟩ ?_
  intro args H
  by_cases hx : ∃ (a0 : Int) (a1 : Bool) (a2_0_0 : Int) (a2_0_1 : Int) (a2_1_0 : Int) (a2_1_1 : Int), args = [.int .u8 a0, .bool a1, .slice 0 0 2 (some 2) 2] ∧ H = [some (.agg [.agg [.int .u64 a2_0_0, .int .u64 a2_0_1], .agg [.int .u64 a2_1_0, .int .u64 a2_1_1]])]
  · obtain ⟨a0, a1, a2_0_0, a2_0_1, a2_1_0, a2_1_1, rfl, rfl⟩ := hx
    right; intro K
    exact iff_of_eq (X_order_loud.eq a0 a1 a2_0_0 a2_0_1 a2_1_0 a2_1_1 K).symm
  · left; intro K h
    simp only [e_order_loud] at h
    split at h
    · exact hx ⟨_, _, _, _, _, _, rfl, rfl⟩
    · exact h
noncomputable def e_order_Lt : Entry := ⟨[none, none, none], false, fun args H K => match args, H with
  | [.int .u8 a0, .agg [.int .u64 a1_0, .int .u64 a1_1], .agg [.int .u64 a2_0, .int .u64 a2_1]], [] => order_Lt a0 a1_0 a1_1 a2_0 a2_1 (fun y0 y1 y2 => K (EV.tuple [EV.bool y0, EV.int IntKind.u8 y1, EV.int IntKind.i64 y2]) [])
  | _, _ => False⟩
noncomputable def l_order_Lt : List (Nat × Entry) := [(27, e_order_Compare), (67, e_order_loud)]
noncomputable def E_order_Lt : Env := ⟨look tys, look l_order_Lt, look [], gl, lookL [], false⟩
theorem X_order_Lt.eq (a0 : Int) (a1_0 : Int) (a1_1 : Int) (a2_0 : Int) (a2_1 : Int) (K : EV → Heap → Prop) : evFn E_order_Lt Tryd.f29 false [.int .u8 a0, .agg [.int .u64 a1_0, .int .u64 a1_1], .agg [.int .u64 a2_0, .int .u64 a2_1]] [] K = order_Lt a0 a1_0 a1_1 a2_0 a2_1 (fun y0 y1 y2 => K (EV.tuple [EV.bool y0, EV.int IntKind.u8 y1, EV.int IntKind.i64 y2]) []) := by
  rw [order_Lt.is]; exact (evFnQ_eq _ _ _ _ _ _).symm.trans (by kernel_rfl)
theorem X_order_Lt.ok : SoundE Tryd.prog gl 29 e_order_Lt := by
  refine fnOK (E := E_order_Lt) (fn := Tryd.f29) rfl tys_ok rfl (show AllL _ l_order_Lt from ⟨X_order_Compare.ok, X_order_loud.ok, trivial⟩) mixed (by kernel_rfl) (by kernel_rfl) (by kernel_rfl) 0 (by kernel_rfl) false trivial ?_
  intro args H
  by_cases hx : ∃ (a0 : Int) (a1_0 : Int) (a1_1 : Int) (a2_0 : Int) (a2_1 : Int), args = [.int .u8 a0, .agg [.int .u64 a1_0, .int .u64 a1_1], .agg [.int .u64 a2_0, .int .u64 a2_1]] ∧ H = []
  · obtain ⟨a0, a1_0, a1_1, a2_0, a2_1, rfl, rfl⟩ := hx
    right; intro K
    exact iff_of_eq (X_order_Lt.eq a0 a1_0 a1_1 a2_0 a2_1 K).symm
  · left; intro K h
    simp only [e_order_Lt] at h
    split at h
    · exact hx ⟨_, _, _, _, _, rfl, rfl⟩
    · exact h
noncomputable def e_law16_alive : Entry := ⟨[], false, fun args H K => match args, H with
  | [], [] => law16_alive  (fun y0 => K (EV.bool y0) [])
  | _, _ => False⟩
noncomputable def l_law16_alive : List (Nat × Entry) := [(27, e_order_Compare), (29, e_order_Lt)]
noncomputable def E_law16_alive : Env := ⟨look tys, look l_law16_alive, look [], gl, lookL [], false⟩
theorem X_law16_alive.eq (K : EV → Heap → Prop) : evFn E_law16_alive Tryd.f26 false [] [] K = law16_alive  (fun y0 => K (EV.bool y0) []) := by
  rw [law16_alive.is]; exact (evFnQ_eq _ _ _ _ _ _).symm.trans (by kernel_rfl)
theorem X_law16_alive.ok : SoundE Tryd.prog gl 26 e_law16_alive := by
  refine fnOK (E := E_law16_alive) (fn := Tryd.f26) rfl tys_ok rfl (show AllL _ l_law16_alive from ⟨X_order_Compare.ok, X_order_Lt.ok, trivial⟩) mixed (by kernel_rfl) (by kernel_rfl) (by kernel_rfl) 0 (by kernel_rfl) false trivial ?_
  intro args H
  by_cases hx : args = [] ∧ H = []
  · obtain ⟨rfl, rfl⟩ := hx
    right; intro K
    exact iff_of_eq (X_law16_alive.eq  K).symm
  · left; intro K h
    simp only [e_law16_alive] at h
    split at h
    · exact hx ⟨rfl, rfl⟩
    · exact h
noncomputable def e_r07_Right : Entry := ⟨[none], false, fun args H K => match args, H with
  | [.int .u8 a0], [] => r07_Right a0 (fun y0 => K (EV.bool y0) [])
  | _, _ => False⟩
noncomputable def E_r07_Right : Env := ⟨look tys, look [], look [], gl, lookL [], false⟩
theorem X_r07_Right.eq (a0 : Int) (K : EV → Heap → Prop) : evFn E_r07_Right Tryd.f46 false [.int .u8 a0] [] K = r07_Right a0 (fun y0 => K (EV.bool y0) []) := by
  rw [r07_Right.is]; exact (evFnQ_eq _ _ _ _ _ _).symm.trans (by kernel_rfl)
theorem X_r07_Right.ok : SoundE Tryd.prog gl 46 e_r07_Right := by
  refine fnOK (E := E_r07_Right) (fn := Tryd.f46) rfl tys_ok rfl (show AllL _ [] from trivial) mixed (by kernel_rfl) (by kernel_rfl) (by kernel_rfl) 0 (by kernel_rfl) false trivial ?_
  intro args H
  by_cases hx : ∃ (a0 : Int), args = [.int .u8 a0] ∧ H = []
  · obtain ⟨a0, rfl, rfl⟩ := hx
    right; intro K
    exact iff_of_eq (X_r07_Right.eq a0 K).symm
  · left; intro K h
    simp only [e_r07_Right] at h
    split at h
    · exact hx ⟨_, rfl, rfl⟩
    · exact h
noncomputable def e_r01_Bit : Entry := ⟨[none, none], false, fun args H K => match args, H with
  | [.int .u64 a0, .int .i64 a1], [] => r01_Bit a0 a1 (fun y0 => K (EV.bool y0) [])
  | _, _ => False⟩
noncomputable def E_r01_Bit : Env := ⟨look tys, look [], look [], gl, lookL [], false⟩
theorem X_r01_Bit.eq (a0 : Int) (a1 : Int) (K : EV → Heap → Prop) : evFn E_r01_Bit Tryd.f91 false [.int .u64 a0, .int .i64 a1] [] K = r01_Bit a0 a1 (fun y0 => K (EV.bool y0) []) := by
  rw [r01_Bit.is]; exact (evFnQ_eq _ _ _ _ _ _).symm.trans (by kernel_rfl)
theorem X_r01_Bit.ok : SoundE Tryd.prog gl 91 e_r01_Bit := by
  refine fnOK (E := E_r01_Bit) (fn := Tryd.f91) rfl tys_ok rfl (show AllL _ [] from trivial) mixed (by kernel_rfl) (by kernel_rfl) (by kernel_rfl) 0 (by kernel_rfl) false trivial ?_
  intro args H
  by_cases hx : ∃ (a0 : Int) (a1 : Int), args = [.int .u64 a0, .int .i64 a1] ∧ H = []
  · obtain ⟨a0, a1, rfl, rfl⟩ := hx
    right; intro K
    exact iff_of_eq (X_r01_Bit.eq a0 a1 K).symm
  · left; intro K h
    simp only [e_r01_Bit] at h
    split at h
    · exact hx ⟨_, _, rfl, rfl⟩
    · exact h
noncomputable def e_r01_Len : Entry := ⟨[none], false, fun args H K => match args, H with
  | [.int .u64 a0], [] => r01_Len a0 (fun y0 => K (EV.int IntKind.i64 y0) [])
  | _, _ => False⟩
noncomputable def l_r01_Len : List (Nat × Entry) := [(91, e_r01_Bit)]
noncomputable def E_r01_Len : Env := ⟨look tys, look l_r01_Len, look [(3, r01_Len.l3.entry)], gl, lookL [], false⟩
theorem r01_Len.l3X.stepEq (R : List EV → Heap → Prop) (K : Ex → List EV → Heap → Prop) (x0 : Int) (x1 : Int) (x2 : Int) : loopStep (evCode E_r01_Len (loopAt Tryd.f82 0) { (LV.mk 8 [(0, 8)] 4 0 false) with nx := live (.loop (loopAt Tryd.f82 0)) (LV.mk 8 [(0, 8)] 4 0 false) }) (live (.loop (loopAt Tryd.f82 0)) (LV.mk 8 [(0, 8)] 4 0 false)) (LV.mk 8 [(0, 8)] 4 0 false) 0 15 R [EV.int IntKind.u64 x0, EV.int IntKind.i64 x1, EV.int IntKind.i64 x2] [] K = r01_Len.l3.step (fun x0 x1 x2 => R [EV.int IntKind.u64 x0, EV.int IntKind.i64 x1, EV.int IntKind.i64 x2] []) (fun y0 => K (.exit 0) [EV.int IntKind.i64 y0] []) x0 x1 x2 := (stepQ_eq _ _ _ _ _ _ _ _ _ _ _).symm.trans (by kernel_rfl)
theorem r01_Len.l3X.eq (K : Ex → List EV → Heap → Prop) : ∀ (n : Nat) (x0 : Int) (x1 : Int) (x2 : Int), loopE E_r01_Len (loopAt Tryd.f82 0) (LV.mk 8 [(0, 8)] 4 0 false) 0 15 K n [EV.int IntKind.u64 x0, EV.int IntKind.i64 x1, EV.int IntKind.i64 x2] [] = r01_Len.l3 (fun y0 => K (.exit 0) [EV.int IntKind.i64 y0] []) n x0 x1 x2
  | 0, _, _, _ => rfl
  | n + 1, x0, x1, x2 => by
    have ih : (fun (x0 : Int) (x1 : Int) (x2 : Int) => loopE E_r01_Len (loopAt Tryd.f82 0) (LV.mk 8 [(0, 8)] 4 0 false) 0 15 K n [EV.int IntKind.u64 x0, EV.int IntKind.i64 x1, EV.int IntKind.i64 x2] []) = r01_Len.l3 (fun y0 => K (.exit 0) [EV.int IntKind.i64 y0] []) n := by funext x0 x1 x2; exact r01_Len.l3X.eq K n x0 x1 x2
    show loopStep _ _ _ _ _ (loopE E_r01_Len (loopAt Tryd.f82 0) (LV.mk 8 [(0, 8)] 4 0 false) 0 15 K n) [EV.int IntKind.u64 x0, EV.int IntKind.i64 x1, EV.int IntKind.i64 x2] [] K = r01_Len.l3.step (r01_Len.l3 (fun y0 => K (.exit 0) [EV.int IntKind.i64 y0] []) n) (fun y0 => K (.exit 0) [EV.int IntKind.i64 y0] []) x0 x1 x2
    rw [← ih]
    exact r01_Len.l3X.stepEq _ K x0 x1 x2
theorem r01_Len.l3X.ok : LoopEq E_r01_Len (loopAt Tryd.f82 0) := by
  intro L hL vs H
  have h1 : E_r01_Len.lp (firstRegion (loopAt Tryd.f82 0)) = some r01_Len.l3.entry := by kernel_rfl
  have h2 : L = r01_Len.l3.entry := Option.some.inj (hL.symm.trans h1)
  subst h2
  by_cases hx0 : ∃ (x0 : Int) (x1 : Int) (x2 : Int), vs = [EV.int IntKind.u64 x0, EV.int IntKind.i64 x1, EV.int IntKind.i64 x2] ∧ H = []
  · obtain ⟨x0, x1, x2, rfl, rfl⟩ := hx0
    right; intro K
    exact exists_congr fun n => iff_of_eq (r01_Len.l3X.eq K n x0 x1 x2).symm
  left; intro K h
  simp only [r01_Len.l3.entry] at h
  split at h
  · exact hx0 ⟨_, _, _, rfl, rfl⟩
  · exact h
theorem X_r01_Len.eq (a0 : Int) (K : EV → Heap → Prop) : evFn E_r01_Len Tryd.f82 false [.int .u64 a0] [] K = r01_Len a0 (fun y0 => K (EV.int IntKind.i64 y0) []) := by
  rw [r01_Len.is]; exact (evFnQ_eq _ _ _ _ _ _).symm.trans (by kernel_rfl)
theorem X_r01_Len.ok : SoundE Tryd.prog gl 82 e_r01_Len := by
  refine fnOK (E := E_r01_Len) (fn := Tryd.f82) rfl tys_ok rfl (show AllL _ l_r01_Len from ⟨X_r01_Bit.ok, trivial⟩) mixed (by kernel_rfl) (by kernel_rfl) (by kernel_rfl) 1 (by kernel_rfl) false ⟨r01_Len.l3X.ok, trivial⟩ ?_
  intro args H
  by_cases hx : ∃ (a0 : Int), args = [.int .u64 a0] ∧ H = []
  · obtain ⟨a0, rfl, rfl⟩ := hx
    right; intro K
    exact iff_of_eq (X_r01_Len.eq a0 K).symm
  · left; intro K h
    simp only [e_r01_Len] at h
    split at h
    · exact hx ⟨_, rfl, rfl⟩
    · exact h
noncomputable def e_r02_Len : Entry := ⟨[none], false, fun args H K => match args, H with
  | [.arr .u64 6 a0], [] => r02_Len a0 (fun y0 => K (EV.int IntKind.i64 y0) [])
  | _, _ => False⟩
noncomputable def l_r02_Len : List (Nat × Entry) := [(82, e_r01_Len)]
noncomputable def E_r02_Len : Env := ⟨look tys, look l_r02_Len, look [(2, r02_Len.l2.entry)], gl, lookL [], false⟩
theorem r02_Len.l2X.stepEq (R : List EV → Heap → Prop) (K : Ex → List EV → Heap → Prop) (x0 : Int) (x1 : Nat → Int) : loopStep (evCode E_r02_Len (loopAt Tryd.f47 0) { (LV.mk 0 [(0, 0)] 4 0 false) with nx := live (.loop (loopAt Tryd.f47 0)) (LV.mk 0 [(0, 0)] 4 0 false) }) (live (.loop (loopAt Tryd.f47 0)) (LV.mk 0 [(0, 0)] 4 0 false)) (LV.mk 0 [(0, 0)] 4 0 false) 0 19 R [EV.ptr 0 [], EV.int IntKind.i64 x0] [some (EV.arr IntKind.u64 6 x1)] K = r02_Len.l2.step (fun x0 x1 => R [EV.ptr 0 [], EV.int IntKind.i64 x0] [some (EV.arr IntKind.u64 6 x1)]) (fun y0 => K .ret [EV.int IntKind.i64 y0] []) (K (.exit 0) [] []) x0 x1 := (stepQ_eq _ _ _ _ _ _ _ _ _ _ _).symm.trans (by kernel_rfl)
theorem r02_Len.l2X.eq (K : Ex → List EV → Heap → Prop) : ∀ (n : Nat) (x0 : Int) (x1 : Nat → Int), loopE E_r02_Len (loopAt Tryd.f47 0) (LV.mk 0 [(0, 0)] 4 0 false) 0 19 K n [EV.ptr 0 [], EV.int IntKind.i64 x0] [some (EV.arr IntKind.u64 6 x1)] = r02_Len.l2 (fun y0 => K .ret [EV.int IntKind.i64 y0] []) (K (.exit 0) [] []) n x0 x1
  | 0, _, _ => rfl
  | n + 1, x0, x1 => by
    have ih : (fun (x0 : Int) (x1 : Nat → Int) => loopE E_r02_Len (loopAt Tryd.f47 0) (LV.mk 0 [(0, 0)] 4 0 false) 0 19 K n [EV.ptr 0 [], EV.int IntKind.i64 x0] [some (EV.arr IntKind.u64 6 x1)]) = r02_Len.l2 (fun y0 => K .ret [EV.int IntKind.i64 y0] []) (K (.exit 0) [] []) n := by funext x0 x1; exact r02_Len.l2X.eq K n x0 x1
    show loopStep _ _ _ _ _ (loopE E_r02_Len (loopAt Tryd.f47 0) (LV.mk 0 [(0, 0)] 4 0 false) 0 19 K n) [EV.ptr 0 [], EV.int IntKind.i64 x0] [some (EV.arr IntKind.u64 6 x1)] K = r02_Len.l2.step (r02_Len.l2 (fun y0 => K .ret [EV.int IntKind.i64 y0] []) (K (.exit 0) [] []) n) (fun y0 => K .ret [EV.int IntKind.i64 y0] []) (K (.exit 0) [] []) x0 x1
    rw [← ih]
    exact r02_Len.l2X.stepEq _ K x0 x1
theorem r02_Len.l2X.ok : LoopEq E_r02_Len (loopAt Tryd.f47 0) := by
  intro L hL vs H
  have h1 : E_r02_Len.lp (firstRegion (loopAt Tryd.f47 0)) = some r02_Len.l2.entry := by kernel_rfl
  have h2 : L = r02_Len.l2.entry := Option.some.inj (hL.symm.trans h1)
  subst h2
  by_cases hx0 : ∃ (x0 : Int) (x1 : Nat → Int), vs = [EV.ptr 0 [], EV.int IntKind.i64 x0] ∧ H = [some (EV.arr IntKind.u64 6 x1)]
  · obtain ⟨x0, x1, rfl, rfl⟩ := hx0
    right; intro K
    exact exists_congr fun n => iff_of_eq (r02_Len.l2X.eq K n x0 x1).symm
  left; intro K h
  simp only [r02_Len.l2.entry] at h
  split at h
  · exact hx0 ⟨_, _, rfl, rfl⟩
  · exact h
theorem X_r02_Len.eq (a0 : Nat → Int) (K : EV → Heap → Prop) : evFn E_r02_Len Tryd.f47 false [.arr .u64 6 a0] [] K = r02_Len a0 (fun y0 => K (EV.int IntKind.i64 y0) []) := by
  rw [r02_Len.is]; exact (evFnQ_eq _ _ _ _ _ _).symm.trans (by kernel_rfl)
theorem X_r02_Len.ok : SoundE Tryd.prog gl 47 e_r02_Len := by
  refine fnOK (E := E_r02_Len) (fn := Tryd.f47) rfl tys_ok rfl (show AllL _ l_r02_Len from ⟨X_r01_Len.ok, trivial⟩) mixed (by kernel_rfl) (by kernel_rfl) (by kernel_rfl) 1 (by kernel_rfl) false ⟨r02_Len.l2X.ok, trivial⟩ ?_
  intro args H
  by_cases hx : ∃ (a0 : Nat → Int), args = [.arr .u64 6 a0] ∧ H = []
  · obtain ⟨a0, rfl, rfl⟩ := hx
    right; intro K
    exact iff_of_eq (X_r02_Len.eq a0 K).symm
  · left; intro K h
    simp only [e_r02_Len] at h
    split at h
    · exact hx ⟨_, rfl, rfl⟩
    · exact h
noncomputable def e_r02_OfBits : Entry := ⟨[none], false, fun args H K => match args, H with
  | [.agg [.int .u64 a0_0, .int .u64 a0_1]], [] => r02_OfBits a0_0 a0_1 (fun y0 => K (EV.arr IntKind.u64 6 y0) [])
  | _, _ => False⟩
noncomputable def E_r02_OfBits : Env := ⟨look tys, look [], look [], gl, lookL [], false⟩
theorem X_r02_OfBits.eq (a0_0 : Int) (a0_1 : Int) (K : EV → Heap → Prop) : evFn E_r02_OfBits Tryd.f48 false [.agg [.int .u64 a0_0, .int .u64 a0_1]] [] K = r02_OfBits a0_0 a0_1 (fun y0 => K (EV.arr IntKind.u64 6 y0) []) := by
  rw [r02_OfBits.is]; exact (evFnQ_eq _ _ _ _ _ _).symm.trans (by kernel_rfl)
theorem X_r02_OfBits.ok : SoundE Tryd.prog gl 48 e_r02_OfBits := by
  refine fnOK (E := E_r02_OfBits) (fn := Tryd.f48) rfl tys_ok rfl (show AllL _ [] from trivial) mixed (by kernel_rfl) (by kernel_rfl) (by kernel_rfl) 0 (by kernel_rfl) false trivial ?_
  intro args H
  by_cases hx : ∃ (a0_0 : Int) (a0_1 : Int), args = [.agg [.int .u64 a0_0, .int .u64 a0_1]] ∧ H = []
  · obtain ⟨a0_0, a0_1, rfl, rfl⟩ := hx
    right; intro K
    exact iff_of_eq (X_r02_OfBits.eq a0_0 a0_1 K).symm
  · left; intro K h
    simp only [e_r02_OfBits] at h
    split at h
    · exact hx ⟨_, _, rfl, rfl⟩
    · exact h
noncomputable def e_r07_Width : Entry := ⟨[none], false, fun args H K => match args, H with
  | [.int .u8 a0], [] => r07_Width a0 (fun y0 => K (EV.int IntKind.i64 y0) [])
  | _, _ => False⟩
noncomputable def E_r07_Width : Env := ⟨look tys, look [], look [], gl, lookL [], false⟩
theorem X_r07_Width.eq (a0 : Int) (K : EV → Heap → Prop) : evFn E_r07_Width Tryd.f49 false [.int .u8 a0] [] K = r07_Width a0 (fun y0 => K (EV.int IntKind.i64 y0) []) := by
  rw [r07_Width.is]; exact (evFnQ_eq _ _ _ _ _ _).symm.trans (by kernel_rfl)
theorem X_r07_Width.ok : SoundE Tryd.prog gl 49 e_r07_Width := by
  refine fnOK (E := E_r07_Width) (fn := Tryd.f49) rfl tys_ok rfl (show AllL _ [] from trivial) mixed (by kernel_rfl) (by kernel_rfl) (by kernel_rfl) 0 (by kernel_rfl) false trivial ?_
  intro args H
  by_cases hx : ∃ (a0 : Int), args = [.int .u8 a0] ∧ H = []
  · obtain ⟨a0, rfl, rfl⟩ := hx
    right; intro K
    exact iff_of_eq (X_r07_Width.eq a0 K).symm
  · left; intro K h
    simp only [e_r07_Width] at h
    split at h
    · exact hx ⟨_, rfl, rfl⟩
    · exact h
noncomputable def e_r07_Fits : Entry := ⟨[none, none], false, fun args H K => match args, H with
  | [.int .u8 a0, .agg [.int .u64 a1_0, .int .u64 a1_1]], [] => r07_Fits a0 a1_0 a1_1 (fun y0 => K (EV.bool y0) [])
  | _, _ => False⟩
noncomputable def l_r07_Fits : List (Nat × Entry) := [(46, e_r07_Right), (47, e_r02_Len), (48, e_r02_OfBits), (49, e_r07_Width)]
noncomputable def E_r07_Fits : Env := ⟨look tys, look l_r07_Fits, look [], gl, lookL [], false⟩
theorem X_r07_Fits.eq (a0 : Int) (a1_0 : Int) (a1_1 : Int) (K : EV → Heap → Prop) : evFn E_r07_Fits Tryd.f14 false [.int .u8 a0, .agg [.int .u64 a1_0, .int .u64 a1_1]] [] K = r07_Fits a0 a1_0 a1_1 (fun y0 => K (EV.bool y0) []) := by
  rw [r07_Fits.is]; exact (evFnQ_eq _ _ _ _ _ _).symm.trans (by kernel_rfl)
theorem X_r07_Fits.ok : SoundE Tryd.prog gl 14 e_r07_Fits := by
  refine fnOK (E := E_r07_Fits) (fn := Tryd.f14) rfl tys_ok rfl (show AllL _ l_r07_Fits from ⟨X_r07_Right.ok, X_r02_Len.ok, X_r02_OfBits.ok, X_r07_Width.ok, trivial⟩) mixed (by kernel_rfl) (by kernel_rfl) (by kernel_rfl) 0 (by kernel_rfl) false trivial ?_
  intro args H
  by_cases hx : ∃ (a0 : Int) (a1_0 : Int) (a1_1 : Int), args = [.int .u8 a0, .agg [.int .u64 a1_0, .int .u64 a1_1]] ∧ H = []
  · obtain ⟨a0, a1_0, a1_1, rfl, rfl⟩ := hx
    right; intro K
    exact iff_of_eq (X_r07_Fits.eq a0 a1_0 a1_1 K).symm
  · left; intro K h
    simp only [e_r07_Fits] at h
    split at h
    · exact hx ⟨_, _, _, rfl, rfl⟩
    · exact h
noncomputable def e_r16_FitsT : Entry := ⟨[none, some (.sk (.agg [.int .u64, .int .u64]))], false, fun args H K => match args, H with
  | [.int .u8 a0, .rsT a1n (.agg [.int .u64, .int .u64]) a1], [] => r16_FitsT a0 a1n a1 (fun y0 => K (EV.bool y0) [])
  | _, _ => False⟩
noncomputable def l_r16_FitsT : List (Nat × Entry) := [(14, e_r07_Fits), (46, e_r07_Right)]
noncomputable def E_r16_FitsT : Env := ⟨look tys, look l_r16_FitsT, look [(4, r16_FitsT.l4.entry)], gl, lookL [], false⟩
theorem r16_FitsT.l4X.stepEq (R : List EV → Heap → Prop) (K : Ex → List EV → Heap → Prop) (x0 : Int) (x1 : Nat) (x2 : Nat → Nat → Lf) (x3 : Int) : loopStep (evCode E_r16_FitsT (loopAt Tryd.f31 0) { (LV.mk 0 [(0, 0)] 16 0 false) with nx := live (.loop (loopAt Tryd.f31 0)) (LV.mk 0 [(0, 0)] 16 0 false) }) (live (.loop (loopAt Tryd.f31 0)) (LV.mk 0 [(0, 0)] 16 0 false)) (LV.mk 0 [(0, 0)] 16 0 false) 0 22 R [EV.int IntKind.u8 x0, EV.rsT x1 (Sk.agg [Sk.int IntKind.u64, Sk.int IntKind.u64]) x2, EV.int IntKind.i64 x3] [] K = r16_FitsT.l4.step (fun x0 x1 x2 x3 => R [EV.int IntKind.u8 x0, EV.rsT x1 (Sk.agg [Sk.int IntKind.u64, Sk.int IntKind.u64]) x2, EV.int IntKind.i64 x3] []) (fun y0 => K .ret [EV.bool y0] []) (K (.exit 0) [] []) x0 x1 x2 x3 := (stepQ_eq _ _ _ _ _ _ _ _ _ _ _).symm.trans (by kernel_rfl)
theorem r16_FitsT.l4X.eq (K : Ex → List EV → Heap → Prop) : ∀ (n : Nat) (x0 : Int) (x1 : Nat) (x2 : Nat → Nat → Lf) (x3 : Int), loopE E_r16_FitsT (loopAt Tryd.f31 0) (LV.mk 0 [(0, 0)] 16 0 false) 0 22 K n [EV.int IntKind.u8 x0, EV.rsT x1 (Sk.agg [Sk.int IntKind.u64, Sk.int IntKind.u64]) x2, EV.int IntKind.i64 x3] [] = r16_FitsT.l4 (fun y0 => K .ret [EV.bool y0] []) (K (.exit 0) [] []) n x0 x1 x2 x3
  | 0, _, _, _, _ => rfl
  | n + 1, x0, x1, x2, x3 => by
    have ih : (fun (x0 : Int) (x1 : Nat) (x2 : Nat → Nat → Lf) (x3 : Int) => loopE E_r16_FitsT (loopAt Tryd.f31 0) (LV.mk 0 [(0, 0)] 16 0 false) 0 22 K n [EV.int IntKind.u8 x0, EV.rsT x1 (Sk.agg [Sk.int IntKind.u64, Sk.int IntKind.u64]) x2, EV.int IntKind.i64 x3] []) = r16_FitsT.l4 (fun y0 => K .ret [EV.bool y0] []) (K (.exit 0) [] []) n := by funext x0 x1 x2 x3; exact r16_FitsT.l4X.eq K n x0 x1 x2 x3
    show loopStep _ _ _ _ _ (loopE E_r16_FitsT (loopAt Tryd.f31 0) (LV.mk 0 [(0, 0)] 16 0 false) 0 22 K n) [EV.int IntKind.u8 x0, EV.rsT x1 (Sk.agg [Sk.int IntKind.u64, Sk.int IntKind.u64]) x2, EV.int IntKind.i64 x3] [] K = r16_FitsT.l4.step (r16_FitsT.l4 (fun y0 => K .ret [EV.bool y0] []) (K (.exit 0) [] []) n) (fun y0 => K .ret [EV.bool y0] []) (K (.exit 0) [] []) x0 x1 x2 x3
    rw [← ih]
    exact r16_FitsT.l4X.stepEq _ K x0 x1 x2 x3
theorem r16_FitsT.l4X.ok : LoopEq E_r16_FitsT (loopAt Tryd.f31 0) := by
  intro L hL vs H
  have h1 : E_r16_FitsT.lp (firstRegion (loopAt Tryd.f31 0)) = some r16_FitsT.l4.entry := by kernel_rfl
  have h2 : L = r16_FitsT.l4.entry := Option.some.inj (hL.symm.trans h1)
  subst h2
  by_cases hx0 : ∃ (x0 : Int) (x1 : Nat) (x2 : Nat → Nat → Lf) (x3 : Int), vs = [EV.int IntKind.u8 x0, EV.rsT x1 (Sk.agg [Sk.int IntKind.u64, Sk.int IntKind.u64]) x2, EV.int IntKind.i64 x3] ∧ H = []
  · obtain ⟨x0, x1, x2, x3, rfl, rfl⟩ := hx0
    right; intro K
    exact exists_congr fun n => iff_of_eq (r16_FitsT.l4X.eq K n x0 x1 x2 x3).symm
  left; intro K h
  simp only [r16_FitsT.l4.entry] at h
  split at h
  · exact hx0 ⟨_, _, _, _, rfl, rfl⟩
  · exact h
theorem X_r16_FitsT.eq (a0 : Int) (a1n : Nat) (a1 : Nat → Nat → Lf) (K : EV → Heap → Prop) : evFn E_r16_FitsT Tryd.f31 false [.int .u8 a0, .rsT a1n (.agg [.int .u64, .int .u64]) a1] [] K = r16_FitsT a0 a1n a1 (fun y0 => K (EV.bool y0) []) := by
  rw [r16_FitsT.is]; exact (evFnQ_eq _ _ _ _ _ _).symm.trans (by kernel_rfl)
theorem X_r16_FitsT.ok : SoundE Tryd.prog gl 31 e_r16_FitsT := by
  refine fnOK (E := E_r16_FitsT) (fn := Tryd.f31) rfl tys_ok rfl (show AllL _ l_r16_FitsT from ⟨X_r07_Fits.ok, X_r07_Right.ok, trivial⟩) mixed (by kernel_rfl) (by kernel_rfl) (by kernel_rfl) 1 (by kernel_rfl) false ⟨r16_FitsT.l4X.ok, trivial⟩ ?_
  intro args H
  by_cases hx : ∃ (a0 : Int) (a1n : Nat) (a1 : Nat → Nat → Lf), args = [.int .u8 a0, .rsT a1n (.agg [.int .u64, .int .u64]) a1] ∧ H = []
  · obtain ⟨a0, a1n, a1, rfl, rfl⟩ := hx
    right; intro K
    exact iff_of_eq (X_r16_FitsT.eq a0 a1n a1 K).symm
  · left; intro K h
    simp only [e_r16_FitsT] at h
    split at h
    · exact hx ⟨_, _, _, rfl, rfl⟩
    · exact h
noncomputable def e_r02_And : Entry := ⟨[none, none], false, fun args H K => match args, H with
  | [.arr .u64 6 a0, .arr .u64 6 a1], [] => r02_And a0 a1 (fun y0 => K (EV.arr IntKind.u64 6 y0) [])
  | _, _ => False⟩
noncomputable def E_r02_And : Env := ⟨look tys, look [], look [(2, r02_And.l2.entry)], gl, lookL [], false⟩
theorem r02_And.l2X.stepEq (R : List EV → Heap → Prop) (K : Ex → List EV → Heap → Prop) (x0 : Int) (x1 : Nat → Int) (x2 : Nat → Int) (x3 : Nat → Int) : loopStep (evCode E_r02_And (loopAt Tryd.f60 0) { (LV.mk 20 [(0, 20)] 16 0 false) with nx := live (.loop (loopAt Tryd.f60 0)) (LV.mk 20 [(0, 20)] 16 0 false) }) (live (.loop (loopAt Tryd.f60 0)) (LV.mk 20 [(0, 20)] 16 0 false)) (LV.mk 20 [(0, 20)] 16 0 false) 0 20 R [EV.ptr 0 [], EV.ptr 1 [], EV.ptr 2 [], EV.int IntKind.i64 x0] [some (EV.arr IntKind.u64 6 x1), some (EV.arr IntKind.u64 6 x2), some (EV.arr IntKind.u64 6 x3)] K = r02_And.l2.step (fun x0 x1 x2 x3 => R [EV.ptr 0 [], EV.ptr 1 [], EV.ptr 2 [], EV.int IntKind.i64 x0] [some (EV.arr IntKind.u64 6 x1), some (EV.arr IntKind.u64 6 x2), some (EV.arr IntKind.u64 6 x3)]) (fun y0 y1 => K (.exit 0) [EV.ptr 0 [], EV.ptr 1 []] [some (EV.arr IntKind.u64 6 y0), some (EV.arr IntKind.u64 6 y1)]) x0 x1 x2 x3 := (stepQ_eq _ _ _ _ _ _ _ _ _ _ _).symm.trans (by kernel_rfl)
theorem r02_And.l2X.eq (K : Ex → List EV → Heap → Prop) : ∀ (n : Nat) (x0 : Int) (x1 : Nat → Int) (x2 : Nat → Int) (x3 : Nat → Int), loopE E_r02_And (loopAt Tryd.f60 0) (LV.mk 20 [(0, 20)] 16 0 false) 0 20 K n [EV.ptr 0 [], EV.ptr 1 [], EV.ptr 2 [], EV.int IntKind.i64 x0] [some (EV.arr IntKind.u64 6 x1), some (EV.arr IntKind.u64 6 x2), some (EV.arr IntKind.u64 6 x3)] = r02_And.l2 (fun y0 y1 => K (.exit 0) [EV.ptr 0 [], EV.ptr 1 []] [some (EV.arr IntKind.u64 6 y0), some (EV.arr IntKind.u64 6 y1)]) n x0 x1 x2 x3
  | 0, _, _, _, _ => rfl
  | n + 1, x0, x1, x2, x3 => by
    have ih : (fun (x0 : Int) (x1 : Nat → Int) (x2 : Nat → Int) (x3 : Nat → Int) => loopE E_r02_And (loopAt Tryd.f60 0) (LV.mk 20 [(0, 20)] 16 0 false) 0 20 K n [EV.ptr 0 [], EV.ptr 1 [], EV.ptr 2 [], EV.int IntKind.i64 x0] [some (EV.arr IntKind.u64 6 x1), some (EV.arr IntKind.u64 6 x2), some (EV.arr IntKind.u64 6 x3)]) = r02_And.l2 (fun y0 y1 => K (.exit 0) [EV.ptr 0 [], EV.ptr 1 []] [some (EV.arr IntKind.u64 6 y0), some (EV.arr IntKind.u64 6 y1)]) n := by funext x0 x1 x2 x3; exact r02_And.l2X.eq K n x0 x1 x2 x3
    show loopStep _ _ _ _ _ (loopE E_r02_And (loopAt Tryd.f60 0) (LV.mk 20 [(0, 20)] 16 0 false) 0 20 K n) [EV.ptr 0 [], EV.ptr 1 [], EV.ptr 2 [], EV.int IntKind.i64 x0] [some (EV.arr IntKind.u64 6 x1), some (EV.arr IntKind.u64 6 x2), some (EV.arr IntKind.u64 6 x3)] K = r02_And.l2.step (r02_And.l2 (fun y0 y1 => K (.exit 0) [EV.ptr 0 [], EV.ptr 1 []] [some (EV.arr IntKind.u64 6 y0), some (EV.arr IntKind.u64 6 y1)]) n) (fun y0 y1 => K (.exit 0) [EV.ptr 0 [], EV.ptr 1 []] [some (EV.arr IntKind.u64 6 y0), some (EV.arr IntKind.u64 6 y1)]) x0 x1 x2 x3
    rw [← ih]
    exact r02_And.l2X.stepEq _ K x0 x1 x2 x3
theorem r02_And.l2X.ok : LoopEq E_r02_And (loopAt Tryd.f60 0) := by
  intro L hL vs H
  have h1 : E_r02_And.lp (firstRegion (loopAt Tryd.f60 0)) = some r02_And.l2.entry := by kernel_rfl
  have h2 : L = r02_And.l2.entry := Option.some.inj (hL.symm.trans h1)
  subst h2
  by_cases hx0 : ∃ (x0 : Int) (x1 : Nat → Int) (x2 : Nat → Int) (x3 : Nat → Int), vs = [EV.ptr 0 [], EV.ptr 1 [], EV.ptr 2 [], EV.int IntKind.i64 x0] ∧ H = [some (EV.arr IntKind.u64 6 x1), some (EV.arr IntKind.u64 6 x2), some (EV.arr IntKind.u64 6 x3)]
  · obtain ⟨x0, x1, x2, x3, rfl, rfl⟩ := hx0
    right; intro K
    exact exists_congr fun n => iff_of_eq (r02_And.l2X.eq K n x0 x1 x2 x3).symm
  left; intro K h
  simp only [r02_And.l2.entry] at h
  split at h
  · exact hx0 ⟨_, _, _, _, rfl, rfl⟩
  · exact h
theorem X_r02_And.eq (a0 : Nat → Int) (a1 : Nat → Int) (K : EV → Heap → Prop) : evFn E_r02_And Tryd.f60 false [.arr .u64 6 a0, .arr .u64 6 a1] [] K = r02_And a0 a1 (fun y0 => K (EV.arr IntKind.u64 6 y0) []) := by
  rw [r02_And.is]; exact (evFnQ_eq _ _ _ _ _ _).symm.trans (by kernel_rfl)
theorem X_r02_And.ok : SoundE Tryd.prog gl 60 e_r02_And := by
  refine fnOK (E := E_r02_And) (fn := Tryd.f60) rfl tys_ok rfl (show AllL _ [] from trivial) mixed (by kernel_rfl) (by kernel_rfl) (by kernel_rfl) 1 (by kernel_rfl) false ⟨r02_And.l2X.ok, trivial⟩ ?_
  intro args H
  by_cases hx : ∃ (a0 : Nat → Int) (a1 : Nat → Int), args = [.arr .u64 6 a0, .arr .u64 6 a1] ∧ H = []
  · obtain ⟨a0, a1, rfl, rfl⟩ := hx
    right; intro K
    exact iff_of_eq (X_r02_And.eq a0 a1 K).symm
  · left; intro K h
    simp only [e_r02_And] at h
    split at h
    · exact hx ⟨_, _, rfl, rfl⟩
    · exact h
noncomputable def e_r02_Count : Entry := ⟨[none], false, fun args H K => match args, H with
  | [.int .i64 a0], [] => r02_Count a0 (fun y0 => K (EV.int IntKind.i64 y0) [])
  | _, _ => False⟩
noncomputable def E_r02_Count : Env := ⟨look tys, look [], look [], gl, lookL [], false⟩
theorem X_r02_Count.eq (a0 : Int) (K : EV → Heap → Prop) : evFn E_r02_Count Tryd.f93 false [.int .i64 a0] [] K = r02_Count a0 (fun y0 => K (EV.int IntKind.i64 y0) []) := by
  rw [r02_Count.is]; exact (evFnQ_eq _ _ _ _ _ _).symm.trans (by kernel_rfl)
theorem X_r02_Count.ok : SoundE Tryd.prog gl 93 e_r02_Count := by
  refine fnOK (E := E_r02_Count) (fn := Tryd.f93) rfl tys_ok rfl (show AllL _ [] from trivial) mixed (by kernel_rfl) (by kernel_rfl) (by kernel_rfl) 0 (by kernel_rfl) false trivial ?_
  intro args H
  by_cases hx : ∃ (a0 : Int), args = [.int .i64 a0] ∧ H = []
  · obtain ⟨a0, rfl, rfl⟩ := hx
    right; intro K
    exact iff_of_eq (X_r02_Count.eq a0 K).symm
  · left; intro K h
    simp only [e_r02_Count] at h
    split at h
    · exact hx ⟨_, rfl, rfl⟩
    · exact h
noncomputable def e_r02_Mask : Entry := ⟨[none], false, fun args H K => match args, H with
  | [.int .i64 a0], [] => r02_Mask a0 (fun y0 => K (EV.arr IntKind.u64 6 y0) [])
  | _, _ => False⟩
noncomputable def l_r02_Mask : List (Nat × Entry) := [(93, e_r02_Count)]
noncomputable def E_r02_Mask : Env := ⟨look tys, look l_r02_Mask, look [(4, r02_Mask.l4.entry)], gl, lookL [], false⟩
theorem r02_Mask.l4X.stepEq (R : List EV → Heap → Prop) (K : Ex → List EV → Heap → Prop) (x0 : Int) (x1 : Int) (x2 : Nat → Int) (x3 : Nat → Int) : loopStep (evCode E_r02_Mask (loopAt Tryd.f62 0) { (LV.mk 12 [(0, 12)] 4 0 false) with nx := live (.loop (loopAt Tryd.f62 0)) (LV.mk 12 [(0, 12)] 4 0 false) }) (live (.loop (loopAt Tryd.f62 0)) (LV.mk 12 [(0, 12)] 4 0 false)) (LV.mk 12 [(0, 12)] 4 0 false) 0 25 R [EV.int IntKind.i64 x0, EV.ptr 0 [], EV.ptr 1 [], EV.int IntKind.i64 x1] [some (EV.arr IntKind.u64 6 x2), some (EV.arr IntKind.u64 6 x3)] K = r02_Mask.l4.step (fun x0 x1 x2 x3 => R [EV.int IntKind.i64 x0, EV.ptr 0 [], EV.ptr 1 [], EV.int IntKind.i64 x1] [some (EV.arr IntKind.u64 6 x2), some (EV.arr IntKind.u64 6 x3)]) (fun y0 y1 => K (.exit 0) [EV.ptr 0 [], EV.ptr 1 []] [some (EV.arr IntKind.u64 6 y0), some (EV.arr IntKind.u64 6 y1)]) x0 x1 x2 x3 := (stepQ_eq _ _ _ _ _ _ _ _ _ _ _).symm.trans (by kernel_rfl)
theorem r02_Mask.l4X.eq (K : Ex → List EV → Heap → Prop) : ∀ (n : Nat) (x0 : Int) (x1 : Int) (x2 : Nat → Int) (x3 : Nat → Int), loopE E_r02_Mask (loopAt Tryd.f62 0) (LV.mk 12 [(0, 12)] 4 0 false) 0 25 K n [EV.int IntKind.i64 x0, EV.ptr 0 [], EV.ptr 1 [], EV.int IntKind.i64 x1] [some (EV.arr IntKind.u64 6 x2), some (EV.arr IntKind.u64 6 x3)] = r02_Mask.l4 (fun y0 y1 => K (.exit 0) [EV.ptr 0 [], EV.ptr 1 []] [some (EV.arr IntKind.u64 6 y0), some (EV.arr IntKind.u64 6 y1)]) n x0 x1 x2 x3
  | 0, _, _, _, _ => rfl
  | n + 1, x0, x1, x2, x3 => by
    have ih : (fun (x0 : Int) (x1 : Int) (x2 : Nat → Int) (x3 : Nat → Int) => loopE E_r02_Mask (loopAt Tryd.f62 0) (LV.mk 12 [(0, 12)] 4 0 false) 0 25 K n [EV.int IntKind.i64 x0, EV.ptr 0 [], EV.ptr 1 [], EV.int IntKind.i64 x1] [some (EV.arr IntKind.u64 6 x2), some (EV.arr IntKind.u64 6 x3)]) = r02_Mask.l4 (fun y0 y1 => K (.exit 0) [EV.ptr 0 [], EV.ptr 1 []] [some (EV.arr IntKind.u64 6 y0), some (EV.arr IntKind.u64 6 y1)]) n := by funext x0 x1 x2 x3; exact r02_Mask.l4X.eq K n x0 x1 x2 x3
    show loopStep _ _ _ _ _ (loopE E_r02_Mask (loopAt Tryd.f62 0) (LV.mk 12 [(0, 12)] 4 0 false) 0 25 K n) [EV.int IntKind.i64 x0, EV.ptr 0 [], EV.ptr 1 [], EV.int IntKind.i64 x1] [some (EV.arr IntKind.u64 6 x2), some (EV.arr IntKind.u64 6 x3)] K = r02_Mask.l4.step (r02_Mask.l4 (fun y0 y1 => K (.exit 0) [EV.ptr 0 [], EV.ptr 1 []] [some (EV.arr IntKind.u64 6 y0), some (EV.arr IntKind.u64 6 y1)]) n) (fun y0 y1 => K (.exit 0) [EV.ptr 0 [], EV.ptr 1 []] [some (EV.arr IntKind.u64 6 y0), some (EV.arr IntKind.u64 6 y1)]) x0 x1 x2 x3
    rw [← ih]
    exact r02_Mask.l4X.stepEq _ K x0 x1 x2 x3
theorem r02_Mask.l4X.ok : LoopEq E_r02_Mask (loopAt Tryd.f62 0) := by
  intro L hL vs H
  have h1 : E_r02_Mask.lp (firstRegion (loopAt Tryd.f62 0)) = some r02_Mask.l4.entry := by kernel_rfl
  have h2 : L = r02_Mask.l4.entry := Option.some.inj (hL.symm.trans h1)
  subst h2
  by_cases hx0 : ∃ (x0 : Int) (x1 : Int) (x2 : Nat → Int) (x3 : Nat → Int), vs = [EV.int IntKind.i64 x0, EV.ptr 0 [], EV.ptr 1 [], EV.int IntKind.i64 x1] ∧ H = [some (EV.arr IntKind.u64 6 x2), some (EV.arr IntKind.u64 6 x3)]
  · obtain ⟨x0, x1, x2, x3, rfl, rfl⟩ := hx0
    right; intro K
    exact exists_congr fun n => iff_of_eq (r02_Mask.l4X.eq K n x0 x1 x2 x3).symm
  left; intro K h
  simp only [r02_Mask.l4.entry] at h
  split at h
  · exact hx0 ⟨_, _, _, _, rfl, rfl⟩
  · exact h
theorem X_r02_Mask.eq (a0 : Int) (K : EV → Heap → Prop) : evFn E_r02_Mask Tryd.f62 false [.int .i64 a0] [] K = r02_Mask a0 (fun y0 => K (EV.arr IntKind.u64 6 y0) []) := by
  rw [r02_Mask.is]; exact (evFnQ_eq _ _ _ _ _ _).symm.trans (by kernel_rfl)
theorem X_r02_Mask.ok : SoundE Tryd.prog gl 62 e_r02_Mask := by
  refine fnOK (E := E_r02_Mask) (fn := Tryd.f62) rfl tys_ok rfl (show AllL _ l_r02_Mask from ⟨X_r02_Count.ok, trivial⟩) mixed (by kernel_rfl) (by kernel_rfl) (by kernel_rfl) 1 (by kernel_rfl) false ⟨r02_Mask.l4X.ok, trivial⟩ ?_
  intro args H
  by_cases hx : ∃ (a0 : Int), args = [.int .i64 a0] ∧ H = []
  · obtain ⟨a0, rfl, rfl⟩ := hx
    right; intro K
    exact iff_of_eq (X_r02_Mask.eq a0 K).symm
  · left; intro K h
    simp only [e_r02_Mask] at h
    split at h
    · exact hx ⟨_, rfl, rfl⟩
    · exact h
noncomputable def e_r02_Bit : Entry := ⟨[none, none], false, fun args H K => match args, H with
  | [.arr .u64 6 a0, .int .i64 a1], [] => r02_Bit a0 a1 (fun y0 => K (EV.bool y0) [])
  | _, _ => False⟩
noncomputable def l_r02_Bit : List (Nat × Entry) := [(91, e_r01_Bit)]
noncomputable def E_r02_Bit : Env := ⟨look tys, look l_r02_Bit, look [], gl, lookL [], false⟩
theorem X_r02_Bit.eq (a0 : Nat → Int) (a1 : Int) (K : EV → Heap → Prop) : evFn E_r02_Bit Tryd.f83 false [.arr .u64 6 a0, .int .i64 a1] [] K = r02_Bit a0 a1 (fun y0 => K (EV.bool y0) []) := by
  rw [r02_Bit.is]; exact (evFnQ_eq _ _ _ _ _ _).symm.trans (by kernel_rfl)
theorem X_r02_Bit.ok : SoundE Tryd.prog gl 83 e_r02_Bit := by
  refine fnOK (E := E_r02_Bit) (fn := Tryd.f83) rfl tys_ok rfl (show AllL _ l_r02_Bit from ⟨X_r01_Bit.ok, trivial⟩) mixed (by kernel_rfl) (by kernel_rfl) (by kernel_rfl) 0 (by kernel_rfl) false trivial ?_
  intro args H
  by_cases hx : ∃ (a0 : Nat → Int) (a1 : Int), args = [.arr .u64 6 a0, .int .i64 a1] ∧ H = []
  · obtain ⟨a0, a1, rfl, rfl⟩ := hx
    right; intro K
    exact iff_of_eq (X_r02_Bit.eq a0 a1 K).symm
  · left; intro K h
    simp only [e_r02_Bit] at h
    split at h
    · exact hx ⟨_, _, rfl, rfl⟩
    · exact h
noncomputable def e_r07_Precision : Entry := ⟨[none], false, fun args H K => match args, H with
  | [.int .u8 a0], [] => r07_Precision a0 (fun y0 => K (EV.int IntKind.i64 y0) [])
  | _, _ => False⟩
noncomputable def E_r07_Precision : Env := ⟨look tys, look [], look [], gl, lookL [], false⟩
theorem X_r07_Precision.eq (a0 : Int) (K : EV → Heap → Prop) : evFn E_r07_Precision Tryd.f84 false [.int .u8 a0] [] K = r07_Precision a0 (fun y0 => K (EV.int IntKind.i64 y0) []) := by
  rw [r07_Precision.is]; exact (evFnQ_eq _ _ _ _ _ _).symm.trans (by kernel_rfl)
theorem X_r07_Precision.ok : SoundE Tryd.prog gl 84 e_r07_Precision := by
  refine fnOK (E := E_r07_Precision) (fn := Tryd.f84) rfl tys_ok rfl (show AllL _ [] from trivial) mixed (by kernel_rfl) (by kernel_rfl) (by kernel_rfl) 0 (by kernel_rfl) false trivial ?_
  intro args H
  by_cases hx : ∃ (a0 : Int), args = [.int .u8 a0] ∧ H = []
  · obtain ⟨a0, rfl, rfl⟩ := hx
    right; intro K
    exact iff_of_eq (X_r07_Precision.eq a0 K).symm
  · left; intro K h
    simp only [e_r07_Precision] at h
    split at h
    · exact hx ⟨_, rfl, rfl⟩
    · exact h
noncomputable def e_r02_Right : Entry := ⟨[none, none], false, fun args H K => match args, H with
  | [.arr .u64 6 a0, .int .i64 a1], [] => r02_Right a0 a1 (fun y0 y1 => K (EV.tuple [EV.arr IntKind.u64 6 y0, EV.bool y1]) [])
  | _, _ => False⟩
noncomputable def l_r02_Right : List (Nat × Entry) := [(83, e_r02_Bit), (93, e_r02_Count)]
noncomputable def E_r02_Right : Env := ⟨look tys, look l_r02_Right, look [(5, r02_Right.l5.entry)], gl, lookL [], false⟩
theorem r02_Right.l5X.stepEq (R : List EV → Heap → Prop) (K : Ex → List EV → Heap → Prop) (x0 : Int) (x1 : Bool) (x2 : Int) (x3 : Nat → Int) (x4 : Nat → Int) (x5 : Nat → Int) : loopStep (evCode E_r02_Right (loopAt Tryd.f85 0) { (LV.mk 208 [(0, 208)] 48 0 false) with nx := live (.loop (loopAt Tryd.f85 0)) (LV.mk 208 [(0, 208)] 48 0 false) }) (live (.loop (loopAt Tryd.f85 0)) (LV.mk 208 [(0, 208)] 48 0 false)) (LV.mk 208 [(0, 208)] 48 0 false) 0 41 R [EV.int IntKind.i64 x0, EV.ptr 0 [], EV.ptr 1 [], EV.ptr 2 [], EV.bool x1, EV.int IntKind.i64 x2] [some (EV.arr IntKind.u64 6 x3), some (EV.arr IntKind.u64 6 x4), some (EV.arr IntKind.u64 6 x5)] K = r02_Right.l5.step (fun x0 x1 x2 x3 x4 x5 => R [EV.int IntKind.i64 x0, EV.ptr 0 [], EV.ptr 1 [], EV.ptr 2 [], EV.bool x1, EV.int IntKind.i64 x2] [some (EV.arr IntKind.u64 6 x3), some (EV.arr IntKind.u64 6 x4), some (EV.arr IntKind.u64 6 x5)]) (fun y0 y1 y2 => K (.exit 0) [EV.ptr 0 [], EV.ptr 1 [], EV.bool y0] [some (EV.arr IntKind.u64 6 y1), some (EV.arr IntKind.u64 6 y2)]) x0 x1 x2 x3 x4 x5 := (stepQ_eq _ _ _ _ _ _ _ _ _ _ _).symm.trans (by kernel_rfl)
theorem r02_Right.l5X.eq (K : Ex → List EV → Heap → Prop) : ∀ (n : Nat) (x0 : Int) (x1 : Bool) (x2 : Int) (x3 : Nat → Int) (x4 : Nat → Int) (x5 : Nat → Int), loopE E_r02_Right (loopAt Tryd.f85 0) (LV.mk 208 [(0, 208)] 48 0 false) 0 41 K n [EV.int IntKind.i64 x0, EV.ptr 0 [], EV.ptr 1 [], EV.ptr 2 [], EV.bool x1, EV.int IntKind.i64 x2] [some (EV.arr IntKind.u64 6 x3), some (EV.arr IntKind.u64 6 x4), some (EV.arr IntKind.u64 6 x5)] = r02_Right.l5 (fun y0 y1 y2 => K (.exit 0) [EV.ptr 0 [], EV.ptr 1 [], EV.bool y0] [some (EV.arr IntKind.u64 6 y1), some (EV.arr IntKind.u64 6 y2)]) n x0 x1 x2 x3 x4 x5
  | 0, _, _, _, _, _, _ => rfl
  | n + 1, x0, x1, x2, x3, x4, x5 => by
    have ih : (fun (x0 : Int) (x1 : Bool) (x2 : Int) (x3 : Nat → Int) (x4 : Nat → Int) (x5 : Nat → Int) => loopE E_r02_Right (loopAt Tryd.f85 0) (LV.mk 208 [(0, 208)] 48 0 false) 0 41 K n [EV.int IntKind.i64 x0, EV.ptr 0 [], EV.ptr 1 [], EV.ptr 2 [], EV.bool x1, EV.int IntKind.i64 x2] [some (EV.arr IntKind.u64 6 x3), some (EV.arr IntKind.u64 6 x4), some (EV.arr IntKind.u64 6 x5)]) = r02_Right.l5 (fun y0 y1 y2 => K (.exit 0) [EV.ptr 0 [], EV.ptr 1 [], EV.bool y0] [some (EV.arr IntKind.u64 6 y1), some (EV.arr IntKind.u64 6 y2)]) n := by funext x0 x1 x2 x3 x4 x5; exact r02_Right.l5X.eq K n x0 x1 x2 x3 x4 x5
    show loopStep _ _ _ _ _ (loopE E_r02_Right (loopAt Tryd.f85 0) (LV.mk 208 [(0, 208)] 48 0 false) 0 41 K n) [EV.int IntKind.i64 x0, EV.ptr 0 [], EV.ptr 1 [], EV.ptr 2 [], EV.bool x1, EV.int IntKind.i64 x2] [some (EV.arr IntKind.u64 6 x3), some (EV.arr IntKind.u64 6 x4), some (EV.arr IntKind.u64 6 x5)] K = r02_Right.l5.step (r02_Right.l5 (fun y0 y1 y2 => K (.exit 0) [EV.ptr 0 [], EV.ptr 1 [], EV.bool y0] [some (EV.arr IntKind.u64 6 y1), some (EV.arr IntKind.u64 6 y2)]) n) (fun y0 y1 y2 => K (.exit 0) [EV.ptr 0 [], EV.ptr 1 [], EV.bool y0] [some (EV.arr IntKind.u64 6 y1), some (EV.arr IntKind.u64 6 y2)]) x0 x1 x2 x3 x4 x5
    rw [← ih]
    exact r02_Right.l5X.stepEq _ K x0 x1 x2 x3 x4 x5
theorem r02_Right.l5X.ok : LoopEq E_r02_Right (loopAt Tryd.f85 0) := by
  intro L hL vs H
  have h1 : E_r02_Right.lp (firstRegion (loopAt Tryd.f85 0)) = some r02_Right.l5.entry := by kernel_rfl
  have h2 : L = r02_Right.l5.entry := Option.some.inj (hL.symm.trans h1)
  subst h2
  by_cases hx0 : ∃ (x0 : Int) (x1 : Bool) (x2 : Int) (x3 : Nat → Int) (x4 : Nat → Int) (x5 : Nat → Int), vs = [EV.int IntKind.i64 x0, EV.ptr 0 [], EV.ptr 1 [], EV.ptr 2 [], EV.bool x1, EV.int IntKind.i64 x2] ∧ H = [some (EV.arr IntKind.u64 6 x3), some (EV.arr IntKind.u64 6 x4), some (EV.arr IntKind.u64 6 x5)]
  · obtain ⟨x0, x1, x2, x3, x4, x5, rfl, rfl⟩ := hx0
    right; intro K
    exact exists_congr fun n => iff_of_eq (r02_Right.l5X.eq K n x0 x1 x2 x3 x4 x5).symm
  left; intro K h
  simp only [r02_Right.l5.entry] at h
  split at h
  · exact hx0 ⟨_, _, _, _, _, _, rfl, rfl⟩
  · exact h
theorem X_r02_Right.eq (a0 : Nat → Int) (a1 : Int) (K : EV → Heap → Prop) : evFn E_r02_Right Tryd.f85 false [.arr .u64 6 a0, .int .i64 a1] [] K = r02_Right a0 a1 (fun y0 y1 => K (EV.tuple [EV.arr IntKind.u64 6 y0, EV.bool y1]) []) := by
  rw [r02_Right.is]; exact (evFnQ_eq _ _ _ _ _ _).symm.trans (by kernel_rfl)
theorem X_r02_Right.ok : SoundE Tryd.prog gl 85 e_r02_Right := by
  refine fnOK (E := E_r02_Right) (fn := Tryd.f85) rfl tys_ok rfl (show AllL _ l_r02_Right from ⟨X_r02_Bit.ok, X_r02_Count.ok, trivial⟩) mixed (by kernel_rfl) (by kernel_rfl) (by kernel_rfl) 1 (by kernel_rfl) false ⟨r02_Right.l5X.ok, trivial⟩ ?_
  intro args H
  by_cases hx : ∃ (a0 : Nat → Int) (a1 : Int), args = [.arr .u64 6 a0, .int .i64 a1] ∧ H = []
  · obtain ⟨a0, a1, rfl, rfl⟩ := hx
    right; intro K
    exact iff_of_eq (X_r02_Right.eq a0 a1 K).symm
  · left; intro K h
    simp only [e_r02_Right] at h
    split at h
    · exact hx ⟨_, _, rfl, rfl⟩
    · exact h
noncomputable def e_r07_Emax : Entry := ⟨[none], false, fun args H K => match args, H with
  | [.int .u8 a0], [] => r07_Emax a0 (fun y0 => K (EV.int IntKind.i64 y0) [])
  | _, _ => False⟩
noncomputable def E_r07_Emax : Env := ⟨look tys, look [], look [], gl, lookL [], false⟩
theorem X_r07_Emax.eq (a0 : Int) (K : EV → Heap → Prop) : evFn E_r07_Emax Tryd.f112 false [.int .u8 a0] [] K = r07_Emax a0 (fun y0 => K (EV.int IntKind.i64 y0) []) := by
  rw [r07_Emax.is]; exact (evFnQ_eq _ _ _ _ _ _).symm.trans (by kernel_rfl)
theorem X_r07_Emax.ok : SoundE Tryd.prog gl 112 e_r07_Emax := by
  refine fnOK (E := E_r07_Emax) (fn := Tryd.f112) rfl tys_ok rfl (show AllL _ [] from trivial) mixed (by kernel_rfl) (by kernel_rfl) (by kernel_rfl) 0 (by kernel_rfl) false trivial ?_
  intro args H
  by_cases hx : ∃ (a0 : Int), args = [.int .u8 a0] ∧ H = []
  · obtain ⟨a0, rfl, rfl⟩ := hx
    right; intro K
    exact iff_of_eq (X_r07_Emax.eq a0 K).symm
  · left; intro K h
    simp only [e_r07_Emax] at h
    split at h
    · exact hx ⟨_, rfl, rfl⟩
    · exact h
noncomputable def e_r07_Ones : Entry := ⟨[none], false, fun args H K => match args, H with
  | [.int .u8 a0], [] => r07_Ones a0 (fun y0 => K (EV.int IntKind.i64 y0) [])
  | _, _ => False⟩
noncomputable def l_r07_Ones : List (Nat × Entry) := [(112, e_r07_Emax)]
noncomputable def E_r07_Ones : Env := ⟨look tys, look l_r07_Ones, look [], gl, lookL [], false⟩
theorem X_r07_Ones.eq (a0 : Int) (K : EV → Heap → Prop) : evFn E_r07_Ones Tryd.f86 false [.int .u8 a0] [] K = r07_Ones a0 (fun y0 => K (EV.int IntKind.i64 y0) []) := by
  rw [r07_Ones.is]; exact (evFnQ_eq _ _ _ _ _ _).symm.trans (by kernel_rfl)
theorem X_r07_Ones.ok : SoundE Tryd.prog gl 86 e_r07_Ones := by
  refine fnOK (E := E_r07_Ones) (fn := Tryd.f86) rfl tys_ok rfl (show AllL _ l_r07_Ones from ⟨X_r07_Emax.ok, trivial⟩) mixed (by kernel_rfl) (by kernel_rfl) (by kernel_rfl) 0 (by kernel_rfl) false trivial ?_
  intro args H
  by_cases hx : ∃ (a0 : Int), args = [.int .u8 a0] ∧ H = []
  · obtain ⟨a0, rfl, rfl⟩ := hx
    right; intro K
    exact iff_of_eq (X_r07_Ones.eq a0 K).symm
  · left; intro K h
    simp only [e_r07_Ones] at h
    split at h
    · exact hx ⟨_, rfl, rfl⟩
    · exact h
noncomputable def e_r07_Fields : Entry := ⟨[none, none], false, fun args H K => match args, H with
  | [.int .u8 a0, .agg [.int .u64 a1_0, .int .u64 a1_1]], [] => r07_Fields a0 a1_0 a1_1 (fun y0 y1 y2 => K (EV.tuple [EV.bool y0, EV.int IntKind.i64 y1, EV.arr IntKind.u64 6 y2]) [])
  | _, _ => False⟩
noncomputable def l_r07_Fields : List (Nat × Entry) := [(48, e_r02_OfBits), (49, e_r07_Width), (60, e_r02_And), (62, e_r02_Mask), (83, e_r02_Bit), (84, e_r07_Precision), (85, e_r02_Right), (86, e_r07_Ones)]
noncomputable def E_r07_Fields : Env := ⟨look tys, look l_r07_Fields, look [], gl, lookL [], false⟩
theorem X_r07_Fields.eq (a0 : Int) (a1_0 : Int) (a1_1 : Int) (K : EV → Heap → Prop) : evFn E_r07_Fields Tryd.f50 false [.int .u8 a0, .agg [.int .u64 a1_0, .int .u64 a1_1]] [] K = r07_Fields a0 a1_0 a1_1 (fun y0 y1 y2 => K (EV.tuple [EV.bool y0, EV.int IntKind.i64 y1, EV.arr IntKind.u64 6 y2]) []) := by
  rw [r07_Fields.is]; exact (evFnQ_eq _ _ _ _ _ _).symm.trans (by kernel_rfl)
theorem X_r07_Fields.ok : SoundE Tryd.prog gl 50 e_r07_Fields := by
  refine fnOK (E := E_r07_Fields) (fn := Tryd.f50) rfl tys_ok rfl (show AllL _ l_r07_Fields from ⟨X_r02_OfBits.ok, X_r07_Width.ok, X_r02_And.ok, X_r02_Mask.ok, X_r02_Bit.ok, X_r07_Precision.ok, X_r02_Right.ok, X_r07_Ones.ok, trivial⟩) mixed (by kernel_rfl) (by kernel_rfl) (by kernel_rfl) 0 (by kernel_rfl) false trivial ?_
  intro args H
  by_cases hx : ∃ (a0 : Int) (a1_0 : Int) (a1_1 : Int), args = [.int .u8 a0, .agg [.int .u64 a1_0, .int .u64 a1_1]] ∧ H = []
  · obtain ⟨a0, a1_0, a1_1, rfl, rfl⟩ := hx
    right; intro K
    exact iff_of_eq (X_r07_Fields.eq a0 a1_0 a1_1 K).symm
  · left; intro K h
    simp only [e_r07_Fields] at h
    split at h
    · exact hx ⟨_, _, _, rfl, rfl⟩
    · exact h
noncomputable def e_r08_Sign : Entry := ⟨[none, none], false, fun args H K => match args, H with
  | [.int .u8 a0, .agg [.int .u64 a1_0, .int .u64 a1_1]], [] => r08_Sign a0 a1_0 a1_1 (fun y0 => K (EV.bool y0) [])
  | _, _ => False⟩
noncomputable def l_r08_Sign : List (Nat × Entry) := [(14, e_r07_Fits), (50, e_r07_Fields)]
noncomputable def E_r08_Sign : Env := ⟨look tys, look l_r08_Sign, look [], gl, lookL [], false⟩
theorem X_r08_Sign.eq (a0 : Int) (a1_0 : Int) (a1_1 : Int) (K : EV → Heap → Prop) : evFn E_r08_Sign Tryd.f16 false [.int .u8 a0, .agg [.int .u64 a1_0, .int .u64 a1_1]] [] K = r08_Sign a0 a1_0 a1_1 (fun y0 => K (EV.bool y0) []) := by
  rw [r08_Sign.is]; exact (evFnQ_eq _ _ _ _ _ _).symm.trans (by kernel_rfl)
theorem X_r08_Sign.ok : SoundE Tryd.prog gl 16 e_r08_Sign := by
  refine fnOK (E := E_r08_Sign) (fn := Tryd.f16) rfl tys_ok rfl (show AllL _ l_r08_Sign from ⟨X_r07_Fits.ok, X_r07_Fields.ok, trivial⟩) mixed (by kernel_rfl) (by kernel_rfl) (by kernel_rfl) 0 (by kernel_rfl) false trivial ?_
  intro args H
  by_cases hx : ∃ (a0 : Int) (a1_0 : Int) (a1_1 : Int), args = [.int .u8 a0, .agg [.int .u64 a1_0, .int .u64 a1_1]] ∧ H = []
  · obtain ⟨a0, a1_0, a1_1, rfl, rfl⟩ := hx
    right; intro K
    exact iff_of_eq (X_r08_Sign.eq a0 a1_0 a1_1 K).symm
  · left; intro K h
    simp only [e_r08_Sign] at h
    split at h
    · exact hx ⟨_, _, _, rfl, rfl⟩
    · exact h
noncomputable def e_r02_Cmp : Entry := ⟨[none, none], false, fun args H K => match args, H with
  | [.arr .u64 6 a0, .arr .u64 6 a1], [] => r02_Cmp a0 a1 (fun y0 => K (EV.int IntKind.i64 y0) [])
  | _, _ => False⟩
noncomputable def E_r02_Cmp : Env := ⟨look tys, look [], look [(2, r02_Cmp.l2.entry)], gl, lookL [], false⟩
theorem r02_Cmp.l2X.stepEq (R : List EV → Heap → Prop) (K : Ex → List EV → Heap → Prop) (x0 : Int) (x1 : Nat → Int) (x2 : Nat → Int) : loopStep (evCode E_r02_Cmp (loopAt Tryd.f80 0) { (LV.mk 0 [(0, 0)] 16 0 false) with nx := live (.loop (loopAt Tryd.f80 0)) (LV.mk 0 [(0, 0)] 16 0 false) }) (live (.loop (loopAt Tryd.f80 0)) (LV.mk 0 [(0, 0)] 16 0 false)) (LV.mk 0 [(0, 0)] 16 0 false) 0 24 R [EV.ptr 0 [], EV.ptr 1 [], EV.int IntKind.i64 x0] [some (EV.arr IntKind.u64 6 x1), some (EV.arr IntKind.u64 6 x2)] K = r02_Cmp.l2.step (fun x0 x1 x2 => R [EV.ptr 0 [], EV.ptr 1 [], EV.int IntKind.i64 x0] [some (EV.arr IntKind.u64 6 x1), some (EV.arr IntKind.u64 6 x2)]) (fun y0 => K .ret [EV.int IntKind.i64 y0] []) (K (.exit 0) [] []) x0 x1 x2 := (stepQ_eq _ _ _ _ _ _ _ _ _ _ _).symm.trans (by kernel_rfl)
theorem r02_Cmp.l2X.eq (K : Ex → List EV → Heap → Prop) : ∀ (n : Nat) (x0 : Int) (x1 : Nat → Int) (x2 : Nat → Int), loopE E_r02_Cmp (loopAt Tryd.f80 0) (LV.mk 0 [(0, 0)] 16 0 false) 0 24 K n [EV.ptr 0 [], EV.ptr 1 [], EV.int IntKind.i64 x0] [some (EV.arr IntKind.u64 6 x1), some (EV.arr IntKind.u64 6 x2)] = r02_Cmp.l2 (fun y0 => K .ret [EV.int IntKind.i64 y0] []) (K (.exit 0) [] []) n x0 x1 x2
  | 0, _, _, _ => rfl
  | n + 1, x0, x1, x2 => by
    have ih : (fun (x0 : Int) (x1 : Nat → Int) (x2 : Nat → Int) => loopE E_r02_Cmp (loopAt Tryd.f80 0) (LV.mk 0 [(0, 0)] 16 0 false) 0 24 K n [EV.ptr 0 [], EV.ptr 1 [], EV.int IntKind.i64 x0] [some (EV.arr IntKind.u64 6 x1), some (EV.arr IntKind.u64 6 x2)]) = r02_Cmp.l2 (fun y0 => K .ret [EV.int IntKind.i64 y0] []) (K (.exit 0) [] []) n := by funext x0 x1 x2; exact r02_Cmp.l2X.eq K n x0 x1 x2
    show loopStep _ _ _ _ _ (loopE E_r02_Cmp (loopAt Tryd.f80 0) (LV.mk 0 [(0, 0)] 16 0 false) 0 24 K n) [EV.ptr 0 [], EV.ptr 1 [], EV.int IntKind.i64 x0] [some (EV.arr IntKind.u64 6 x1), some (EV.arr IntKind.u64 6 x2)] K = r02_Cmp.l2.step (r02_Cmp.l2 (fun y0 => K .ret [EV.int IntKind.i64 y0] []) (K (.exit 0) [] []) n) (fun y0 => K .ret [EV.int IntKind.i64 y0] []) (K (.exit 0) [] []) x0 x1 x2
    rw [← ih]
    exact r02_Cmp.l2X.stepEq _ K x0 x1 x2
theorem r02_Cmp.l2X.ok : LoopEq E_r02_Cmp (loopAt Tryd.f80 0) := by
  intro L hL vs H
  have h1 : E_r02_Cmp.lp (firstRegion (loopAt Tryd.f80 0)) = some r02_Cmp.l2.entry := by kernel_rfl
  have h2 : L = r02_Cmp.l2.entry := Option.some.inj (hL.symm.trans h1)
  subst h2
  by_cases hx0 : ∃ (x0 : Int) (x1 : Nat → Int) (x2 : Nat → Int), vs = [EV.ptr 0 [], EV.ptr 1 [], EV.int IntKind.i64 x0] ∧ H = [some (EV.arr IntKind.u64 6 x1), some (EV.arr IntKind.u64 6 x2)]
  · obtain ⟨x0, x1, x2, rfl, rfl⟩ := hx0
    right; intro K
    exact exists_congr fun n => iff_of_eq (r02_Cmp.l2X.eq K n x0 x1 x2).symm
  left; intro K h
  simp only [r02_Cmp.l2.entry] at h
  split at h
  · exact hx0 ⟨_, _, _, rfl, rfl⟩
  · exact h
theorem X_r02_Cmp.eq (a0 : Nat → Int) (a1 : Nat → Int) (K : EV → Heap → Prop) : evFn E_r02_Cmp Tryd.f80 false [.arr .u64 6 a0, .arr .u64 6 a1] [] K = r02_Cmp a0 a1 (fun y0 => K (EV.int IntKind.i64 y0) []) := by
  rw [r02_Cmp.is]; exact (evFnQ_eq _ _ _ _ _ _).symm.trans (by kernel_rfl)
theorem X_r02_Cmp.ok : SoundE Tryd.prog gl 80 e_r02_Cmp := by
  refine fnOK (E := E_r02_Cmp) (fn := Tryd.f80) rfl tys_ok rfl (show AllL _ [] from trivial) mixed (by kernel_rfl) (by kernel_rfl) (by kernel_rfl) 1 (by kernel_rfl) false ⟨r02_Cmp.l2X.ok, trivial⟩ ?_
  intro args H
  by_cases hx : ∃ (a0 : Nat → Int) (a1 : Nat → Int), args = [.arr .u64 6 a0, .arr .u64 6 a1] ∧ H = []
  · obtain ⟨a0, a1, rfl, rfl⟩ := hx
    right; intro K
    exact iff_of_eq (X_r02_Cmp.eq a0 a1 K).symm
  · left; intro K h
    simp only [e_r02_Cmp] at h
    split at h
    · exact hx ⟨_, _, rfl, rfl⟩
    · exact h
noncomputable def e_r16_Total : Entry := ⟨[none, none, none], false, fun args H K => match args, H with
  | [.int .u8 a0, .agg [.int .u64 a1_0, .int .u64 a1_1], .agg [.int .u64 a2_0, .int .u64 a2_1]], [] => r16_Total a0 a1_0 a1_1 a2_0 a2_1 (fun y0 => K (EV.int IntKind.i64 y0) [])
  | _, _ => False⟩
noncomputable def l_r16_Total : List (Nat × Entry) := [(16, e_r08_Sign), (48, e_r02_OfBits), (80, e_r02_Cmp)]
noncomputable def E_r16_Total : Env := ⟨look tys, look l_r16_Total, look [], gl, lookL [], false⟩
theorem X_r16_Total.eq (a0 : Int) (a1_0 : Int) (a1_1 : Int) (a2_0 : Int) (a2_1 : Int) (K : EV → Heap → Prop) : evFn E_r16_Total Tryd.f41 false [.int .u8 a0, .agg [.int .u64 a1_0, .int .u64 a1_1], .agg [.int .u64 a2_0, .int .u64 a2_1]] [] K = r16_Total a0 a1_0 a1_1 a2_0 a2_1 (fun y0 => K (EV.int IntKind.i64 y0) []) := by
  rw [r16_Total.is]; exact (evFnQ_eq _ _ _ _ _ _).symm.trans (by kernel_rfl)
theorem X_r16_Total.ok : SoundE Tryd.prog gl 41 e_r16_Total := by
  refine fnOK (E := E_r16_Total) (fn := Tryd.f41) rfl tys_ok rfl (show AllL _ l_r16_Total from ⟨X_r08_Sign.ok, X_r02_OfBits.ok, X_r02_Cmp.ok, trivial⟩) mixed (by kernel_rfl) (by kernel_rfl) (by kernel_rfl) 0 (by kernel_rfl) false trivial ?_
  intro args H
  by_cases hx : ∃ (a0 : Int) (a1_0 : Int) (a1_1 : Int) (a2_0 : Int) (a2_1 : Int), args = [.int .u8 a0, .agg [.int .u64 a1_0, .int .u64 a1_1], .agg [.int .u64 a2_0, .int .u64 a2_1]] ∧ H = []
  · obtain ⟨a0, a1_0, a1_1, a2_0, a2_1, rfl, rfl⟩ := hx
    right; intro K
    exact iff_of_eq (X_r16_Total.eq a0 a1_0 a1_1 a2_0 a2_1 K).symm
  · left; intro K h
    simp only [e_r16_Total] at h
    split at h
    · exact hx ⟨_, _, _, _, _, rfl, rfl⟩
    · exact h
noncomputable def e_r16_Sort : Entry := ⟨[none, some (.sk (.agg [.int .u64, .int .u64]))], true, fun args H K => match args, H with
  | [.int .u8 a0, .rsT a1n (.agg [.int .u64, .int .u64]) a1], [] => r16_Sort a0 a1n a1 (fun y0 y1 y2 y3 => K (EV.slice 0 0 y0 (some y1) 2) [some (EV.arrT y2 (Sk.agg [Sk.int IntKind.u64, Sk.int IntKind.u64]) y3)])
  | _, _ => False⟩
noncomputable def l_r16_Sort : List (Nat × Entry) := [(41, e_r16_Total)]
noncomputable def E_r16_Sort : Env := ⟨look tys, look l_r16_Sort, look [(3, r16_Sort.l3.entry), (6, r16_Sort.l6.entry)], gl, lookL [], false⟩
theorem r16_Sort.l3X.stepEq (R : List EV → Heap → Prop) (K : Ex → List EV → Heap → Prop) (x0 : Int) (x1 : Nat) (x2 : Nat → Nat → Lf) (x3 : Nat) (x4 : Nat) (x5 : Int) (x6 : Nat) (x7 : Nat → Nat → Lf) : loopStep (evCode E_r16_Sort (loopAt Tryd.f40 0) { (LV.mk 32 [(0, 32)] 16 0 false) with nx := live (.loop (loopAt Tryd.f40 0)) (LV.mk 32 [(0, 32)] 16 0 false) }) (live (.loop (loopAt Tryd.f40 0)) (LV.mk 32 [(0, 32)] 16 0 false)) (LV.mk 32 [(0, 32)] 16 0 false) 0 52 R [EV.int IntKind.u8 x0, EV.rsT x1 (Sk.agg [Sk.int IntKind.u64, Sk.int IntKind.u64]) x2, EV.slice 0 0 x3 (some x4) 2, EV.int IntKind.i64 x5] [some (EV.arrT x6 (Sk.agg [Sk.int IntKind.u64, Sk.int IntKind.u64]) x7)] K = r16_Sort.l3.step (fun x0 x1 x2 x3 x4 x5 x6 x7 => R [EV.int IntKind.u8 x0, EV.rsT x1 (Sk.agg [Sk.int IntKind.u64, Sk.int IntKind.u64]) x2, EV.slice 0 0 x3 (some x4) 2, EV.int IntKind.i64 x5] [some (EV.arrT x6 (Sk.agg [Sk.int IntKind.u64, Sk.int IntKind.u64]) x7)]) (fun y0 y1 y2 y3 => K (.exit 0) [EV.slice 0 0 y0 (some y1) 2] [some (EV.arrT y2 (Sk.agg [Sk.int IntKind.u64, Sk.int IntKind.u64]) y3)]) x0 x1 x2 x3 x4 x5 x6 x7 := (stepQ_eq _ _ _ _ _ _ _ _ _ _ _).symm.trans (by kernel_rfl)
theorem r16_Sort.l3X.eq (K : Ex → List EV → Heap → Prop) : ∀ (n : Nat) (x0 : Int) (x1 : Nat) (x2 : Nat → Nat → Lf) (x3 : Nat) (x4 : Nat) (x5 : Int) (x6 : Nat) (x7 : Nat → Nat → Lf), loopE E_r16_Sort (loopAt Tryd.f40 0) (LV.mk 32 [(0, 32)] 16 0 false) 0 52 K n [EV.int IntKind.u8 x0, EV.rsT x1 (Sk.agg [Sk.int IntKind.u64, Sk.int IntKind.u64]) x2, EV.slice 0 0 x3 (some x4) 2, EV.int IntKind.i64 x5] [some (EV.arrT x6 (Sk.agg [Sk.int IntKind.u64, Sk.int IntKind.u64]) x7)] = r16_Sort.l3 (fun y0 y1 y2 y3 => K (.exit 0) [EV.slice 0 0 y0 (some y1) 2] [some (EV.arrT y2 (Sk.agg [Sk.int IntKind.u64, Sk.int IntKind.u64]) y3)]) n x0 x1 x2 x3 x4 x5 x6 x7
  | 0, _, _, _, _, _, _, _, _ => rfl
  | n + 1, x0, x1, x2, x3, x4, x5, x6, x7 => by
    have ih : (fun (x0 : Int) (x1 : Nat) (x2 : Nat → Nat → Lf) (x3 : Nat) (x4 : Nat) (x5 : Int) (x6 : Nat) (x7 : Nat → Nat → Lf) => loopE E_r16_Sort (loopAt Tryd.f40 0) (LV.mk 32 [(0, 32)] 16 0 false) 0 52 K n [EV.int IntKind.u8 x0, EV.rsT x1 (Sk.agg [Sk.int IntKind.u64, Sk.int IntKind.u64]) x2, EV.slice 0 0 x3 (some x4) 2, EV.int IntKind.i64 x5] [some (EV.arrT x6 (Sk.agg [Sk.int IntKind.u64, Sk.int IntKind.u64]) x7)]) = r16_Sort.l3 (fun y0 y1 y2 y3 => K (.exit 0) [EV.slice 0 0 y0 (some y1) 2] [some (EV.arrT y2 (Sk.agg [Sk.int IntKind.u64, Sk.int IntKind.u64]) y3)]) n := by funext x0 x1 x2 x3 x4 x5 x6 x7; exact r16_Sort.l3X.eq K n x0 x1 x2 x3 x4 x5 x6 x7
    show loopStep _ _ _ _ _ (loopE E_r16_Sort (loopAt Tryd.f40 0) (LV.mk 32 [(0, 32)] 16 0 false) 0 52 K n) [EV.int IntKind.u8 x0, EV.rsT x1 (Sk.agg [Sk.int IntKind.u64, Sk.int IntKind.u64]) x2, EV.slice 0 0 x3 (some x4) 2, EV.int IntKind.i64 x5] [some (EV.arrT x6 (Sk.agg [Sk.int IntKind.u64, Sk.int IntKind.u64]) x7)] K = r16_Sort.l3.step (r16_Sort.l3 (fun y0 y1 y2 y3 => K (.exit 0) [EV.slice 0 0 y0 (some y1) 2] [some (EV.arrT y2 (Sk.agg [Sk.int IntKind.u64, Sk.int IntKind.u64]) y3)]) n) (fun y0 y1 y2 y3 => K (.exit 0) [EV.slice 0 0 y0 (some y1) 2] [some (EV.arrT y2 (Sk.agg [Sk.int IntKind.u64, Sk.int IntKind.u64]) y3)]) x0 x1 x2 x3 x4 x5 x6 x7
    rw [← ih]
    exact r16_Sort.l3X.stepEq _ K x0 x1 x2 x3 x4 x5 x6 x7
theorem r16_Sort.l3X.ok : LoopEq E_r16_Sort (loopAt Tryd.f40 0) := by
  intro L hL vs H
  have h1 : E_r16_Sort.lp (firstRegion (loopAt Tryd.f40 0)) = some r16_Sort.l3.entry := by kernel_rfl
  have h2 : L = r16_Sort.l3.entry := Option.some.inj (hL.symm.trans h1)
  subst h2
  by_cases hx0 : ∃ (x0 : Int) (x1 : Nat) (x2 : Nat → Nat → Lf) (x3 : Nat) (x4 : Nat) (x5 : Int) (x6 : Nat) (x7 : Nat → Nat → Lf), vs = [EV.int IntKind.u8 x0, EV.rsT x1 (Sk.agg [Sk.int IntKind.u64, Sk.int IntKind.u64]) x2, EV.slice 0 0 x3 (some x4) 2, EV.int IntKind.i64 x5] ∧ H = [some (EV.arrT x6 (Sk.agg [Sk.int IntKind.u64, Sk.int IntKind.u64]) x7)]
  · obtain ⟨x0, x1, x2, x3, x4, x5, x6, x7, rfl, rfl⟩ := hx0
    right; intro K
    exact exists_congr fun n => iff_of_eq (r16_Sort.l3X.eq K n x0 x1 x2 x3 x4 x5 x6 x7).symm
  left; intro K h
  simp only [r16_Sort.l3.entry] at h
  split at h
  · exact hx0 ⟨_, _, _, _, _, _, _, _, rfl, rfl⟩
  · exact h
theorem r16_Sort.l6X.stepEq (R : List EV → Heap → Prop) (K : Ex → List EV → Heap → Prop) (x0 : Int) (x1 : Nat) (x2 : Nat → Nat → Lf) (x3 : Nat) (x4 : Nat) (x5 : Int) (x6 : Int) (x7 : Nat) (x8 : Nat → Nat → Lf) : loopStep (evCode E_r16_Sort (loopAt Tryd.f40 1) { (LV.mk 227 [(2, 227), (1, 99), (0, 32)] 16 0 false) with nx := live (.loop (loopAt Tryd.f40 1)) (LV.mk 227 [(2, 227), (1, 99), (0, 32)] 16 0 false) }) (live (.loop (loopAt Tryd.f40 1)) (LV.mk 227 [(2, 227), (1, 99), (0, 32)] 16 0 false)) (LV.mk 227 [(2, 227), (1, 99), (0, 32)] 16 0 false) 0 52 R [EV.int IntKind.u8 x0, EV.rsT x1 (Sk.agg [Sk.int IntKind.u64, Sk.int IntKind.u64]) x2, EV.slice 0 0 x3 (some x4) 2, EV.int IntKind.i64 x5, EV.int IntKind.i64 x6] [some (EV.arrT x7 (Sk.agg [Sk.int IntKind.u64, Sk.int IntKind.u64]) x8)] K = r16_Sort.l6.step (fun x0 x1 x2 x3 x4 x5 x6 x7 x8 => R [EV.int IntKind.u8 x0, EV.rsT x1 (Sk.agg [Sk.int IntKind.u64, Sk.int IntKind.u64]) x2, EV.slice 0 0 x3 (some x4) 2, EV.int IntKind.i64 x5, EV.int IntKind.i64 x6] [some (EV.arrT x7 (Sk.agg [Sk.int IntKind.u64, Sk.int IntKind.u64]) x8)]) (fun y0 y1 y2 y3 y4 y5 y6 y7 y8 => K (.exit 2) [EV.int IntKind.u8 y0, EV.rsT y1 (Sk.agg [Sk.int IntKind.u64, Sk.int IntKind.u64]) y2, EV.slice 0 0 y3 (some y4) 2, EV.int IntKind.i64 y5, EV.int IntKind.i64 y6] [some (EV.arrT y7 (Sk.agg [Sk.int IntKind.u64, Sk.int IntKind.u64]) y8)]) x0 x1 x2 x3 x4 x5 x6 x7 x8 := (stepQ_eq _ _ _ _ _ _ _ _ _ _ _).symm.trans (by kernel_rfl)
theorem r16_Sort.l6X.eq (K : Ex → List EV → Heap → Prop) : ∀ (n : Nat) (x0 : Int) (x1 : Nat) (x2 : Nat → Nat → Lf) (x3 : Nat) (x4 : Nat) (x5 : Int) (x6 : Int) (x7 : Nat) (x8 : Nat → Nat → Lf), loopE E_r16_Sort (loopAt Tryd.f40 1) (LV.mk 227 [(2, 227), (1, 99), (0, 32)] 16 0 false) 0 52 K n [EV.int IntKind.u8 x0, EV.rsT x1 (Sk.agg [Sk.int IntKind.u64, Sk.int IntKind.u64]) x2, EV.slice 0 0 x3 (some x4) 2, EV.int IntKind.i64 x5, EV.int IntKind.i64 x6] [some (EV.arrT x7 (Sk.agg [Sk.int IntKind.u64, Sk.int IntKind.u64]) x8)] = r16_Sort.l6 (fun y0 y1 y2 y3 y4 y5 y6 y7 y8 => K (.exit 2) [EV.int IntKind.u8 y0, EV.rsT y1 (Sk.agg [Sk.int IntKind.u64, Sk.int IntKind.u64]) y2, EV.slice 0 0 y3 (some y4) 2, EV.int IntKind.i64 y5, EV.int IntKind.i64 y6] [some (EV.arrT y7 (Sk.agg [Sk.int IntKind.u64, Sk.int IntKind.u64]) y8)]) n x0 x1 x2 x3 x4 x5 x6 x7 x8
  | 0, _, _, _, _, _, _, _, _, _ => rfl
  | n + 1, x0, x1, x2, x3, x4, x5, x6, x7, x8 => by
    have ih : (fun (x0 : Int) (x1 : Nat) (x2 : Nat → Nat → Lf) (x3 : Nat) (x4 : Nat) (x5 : Int) (x6 : Int) (x7 : Nat) (x8 : Nat → Nat → Lf) => loopE E_r16_Sort (loopAt Tryd.f40 1) (LV.mk 227 [(2, 227), (1, 99), (0, 32)] 16 0 false) 0 52 K n [EV.int IntKind.u8 x0, EV.rsT x1 (Sk.agg [Sk.int IntKind.u64, Sk.int IntKind.u64]) x2, EV.slice 0 0 x3 (some x4) 2, EV.int IntKind.i64 x5, EV.int IntKind.i64 x6] [some (EV.arrT x7 (Sk.agg [Sk.int IntKind.u64, Sk.int IntKind.u64]) x8)]) = r16_Sort.l6 (fun y0 y1 y2 y3 y4 y5 y6 y7 y8 => K (.exit 2) [EV.int IntKind.u8 y0, EV.rsT y1 (Sk.agg [Sk.int IntKind.u64, Sk.int IntKind.u64]) y2, EV.slice 0 0 y3 (some y4) 2, EV.int IntKind.i64 y5, EV.int IntKind.i64 y6] [some (EV.arrT y7 (Sk.agg [Sk.int IntKind.u64, Sk.int IntKind.u64]) y8)]) n := by funext x0 x1 x2 x3 x4 x5 x6 x7 x8; exact r16_Sort.l6X.eq K n x0 x1 x2 x3 x4 x5 x6 x7 x8
    show loopStep _ _ _ _ _ (loopE E_r16_Sort (loopAt Tryd.f40 1) (LV.mk 227 [(2, 227), (1, 99), (0, 32)] 16 0 false) 0 52 K n) [EV.int IntKind.u8 x0, EV.rsT x1 (Sk.agg [Sk.int IntKind.u64, Sk.int IntKind.u64]) x2, EV.slice 0 0 x3 (some x4) 2, EV.int IntKind.i64 x5, EV.int IntKind.i64 x6] [some (EV.arrT x7 (Sk.agg [Sk.int IntKind.u64, Sk.int IntKind.u64]) x8)] K = r16_Sort.l6.step (r16_Sort.l6 (fun y0 y1 y2 y3 y4 y5 y6 y7 y8 => K (.exit 2) [EV.int IntKind.u8 y0, EV.rsT y1 (Sk.agg [Sk.int IntKind.u64, Sk.int IntKind.u64]) y2, EV.slice 0 0 y3 (some y4) 2, EV.int IntKind.i64 y5, EV.int IntKind.i64 y6] [some (EV.arrT y7 (Sk.agg [Sk.int IntKind.u64, Sk.int IntKind.u64]) y8)]) n) (fun y0 y1 y2 y3 y4 y5 y6 y7 y8 => K (.exit 2) [EV.int IntKind.u8 y0, EV.rsT y1 (Sk.agg [Sk.int IntKind.u64, Sk.int IntKind.u64]) y2, EV.slice 0 0 y3 (some y4) 2, EV.int IntKind.i64 y5, EV.int IntKind.i64 y6] [some (EV.arrT y7 (Sk.agg [Sk.int IntKind.u64, Sk.int IntKind.u64]) y8)]) x0 x1 x2 x3 x4 x5 x6 x7 x8
    rw [← ih]
    exact r16_Sort.l6X.stepEq _ K x0 x1 x2 x3 x4 x5 x6 x7 x8
theorem r16_Sort.l6X.ok : LoopEq E_r16_Sort (loopAt Tryd.f40 1) := by
  intro L hL vs H
  have h1 : E_r16_Sort.lp (firstRegion (loopAt Tryd.f40 1)) = some r16_Sort.l6.entry := by kernel_rfl
  have h2 : L = r16_Sort.l6.entry := Option.some.inj (hL.symm.trans h1)
  subst h2
  by_cases hx0 : ∃ (x0 : Int) (x1 : Nat) (x2 : Nat → Nat → Lf) (x3 : Nat) (x4 : Nat) (x5 : Int) (x6 : Int) (x7 : Nat) (x8 : Nat → Nat → Lf), vs = [EV.int IntKind.u8 x0, EV.rsT x1 (Sk.agg [Sk.int IntKind.u64, Sk.int IntKind.u64]) x2, EV.slice 0 0 x3 (some x4) 2, EV.int IntKind.i64 x5, EV.int IntKind.i64 x6] ∧ H = [some (EV.arrT x7 (Sk.agg [Sk.int IntKind.u64, Sk.int IntKind.u64]) x8)]
  · obtain ⟨x0, x1, x2, x3, x4, x5, x6, x7, x8, rfl, rfl⟩ := hx0
    right; intro K
    exact exists_congr fun n => iff_of_eq (r16_Sort.l6X.eq K n x0 x1 x2 x3 x4 x5 x6 x7 x8).symm
  left; intro K h
  simp only [r16_Sort.l6.entry] at h
  split at h
  · exact hx0 ⟨_, _, _, _, _, _, _, _, _, rfl, rfl⟩
  · exact h
theorem X_r16_Sort.eq (a0 : Int) (a1n : Nat) (a1 : Nat → Nat → Lf) (K : EV → Heap → Prop) : evFn E_r16_Sort Tryd.f40 true [.int .u8 a0, .rsT a1n (.agg [.int .u64, .int .u64]) a1] [] K = r16_Sort a0 a1n a1 (fun y0 y1 y2 y3 => K (EV.slice 0 0 y0 (some y1) 2) [some (EV.arrT y2 (Sk.agg [Sk.int IntKind.u64, Sk.int IntKind.u64]) y3)]) := by
  rw [r16_Sort.is]; exact (evFnQ_eq _ _ _ _ _ _).symm.trans (by kernel_rfl)
theorem X_r16_Sort.ok : SoundE Tryd.prog gl 40 e_r16_Sort := by
  refine fnOK (E := E_r16_Sort) (fn := Tryd.f40) rfl tys_ok rfl (show AllL _ l_r16_Sort from ⟨X_r16_Total.ok, trivial⟩) mixed (by kernel_rfl) (by kernel_rfl) (by kernel_rfl) 2 (by kernel_rfl) true ⟨r16_Sort.l3X.ok, r16_Sort.l6X.ok, trivial⟩ ?_
  intro args H
  by_cases hx : ∃ (a0 : Int) (a1n : Nat) (a1 : Nat → Nat → Lf), args = [.int .u8 a0, .rsT a1n (.agg [.int .u64, .int .u64]) a1] ∧ H = []
  · obtain ⟨a0, a1n, a1, rfl, rfl⟩ := hx
    right; intro K
    exact iff_of_eq (X_r16_Sort.eq a0 a1n a1 K).symm
  · left; intro K h
    simp only [e_r16_Sort] at h
    split at h
    · exact hx ⟨_, _, _, rfl, rfl⟩
    · exact h
end Go.Ev.S

/- The functions of the seat: that the evaluator has them as they are. -/
set_option maxRecDepth 100000
set_option linter.unusedVariables false
set_option linter.unusedSimpArgs false
namespace Go.Ev.S
open Go Go.Proofs Go.Ev
noncomputable def e_law16_OrderTotals : Entry := ⟨[none, some (.sk (.agg [.int .u64, .int .u64]))], false, fun args H K => match args, H with
  | [.int .u8 a0, .rsT a1n (.agg [.int .u64, .int .u64]) a1], [] => law16_OrderTotals a0 a1n a1 (fun y0 => K (EV.bool y0) [])
  | _, _ => False⟩
noncomputable def l_law16_OrderTotals : List (Nat × Entry) := [(25, e_order_Total), (26, e_law16_alive), (31, e_r16_FitsT), (39, e_order_Sort), (40, e_r16_Sort), (41, e_r16_Total)]
noncomputable def E_law16_OrderTotals : Env := ⟨look tys, look l_law16_OrderTotals, look [(11, law16_OrderTotals.l11.entry), (16, law16_OrderTotals.l16.entry), (22, law16_OrderTotals.l22.entry), (26, law16_OrderTotals.l26.entry)], gl, lookL [], false⟩
theorem law16_OrderTotals.l11X.stepEq (R : List EV → Heap → Prop) (K : Ex → List EV → Heap → Prop) (x0 : Int) (x1 : Nat) (x2 : Nat → Nat → Lf) (x3 : Nat) (x4 : Nat) (x5 : Int) (x6 : Nat) (x7 : Nat → Nat → Lf) : loopStep (evCode E_law16_OrderTotals (loopAt Tryd.f10 0) { (LV.mk 99 [(0, 99)] 16 0 false) with nx := live (.loop (loopAt Tryd.f10 0)) (LV.mk 99 [(0, 99)] 16 0 false) }) (live (.loop (loopAt Tryd.f10 0)) (LV.mk 99 [(0, 99)] 16 0 false)) (LV.mk 99 [(0, 99)] 16 0 false) 0 143 R [EV.int IntKind.u8 x0, EV.rsT x1 (Sk.agg [Sk.int IntKind.u64, Sk.int IntKind.u64]) x2, EV.nilSlice, EV.nilSlice, EV.slice 0 0 x3 (some x4) 2, EV.int IntKind.i64 x5] [some (EV.arrT x6 (Sk.agg [Sk.int IntKind.u64, Sk.int IntKind.u64]) x7)] K = law16_OrderTotals.l11.step (fun x0 x1 x2 x3 x4 x5 x6 x7 => R [EV.int IntKind.u8 x0, EV.rsT x1 (Sk.agg [Sk.int IntKind.u64, Sk.int IntKind.u64]) x2, EV.nilSlice, EV.nilSlice, EV.slice 0 0 x3 (some x4) 2, EV.int IntKind.i64 x5] [some (EV.arrT x6 (Sk.agg [Sk.int IntKind.u64, Sk.int IntKind.u64]) x7)]) (fun y0 y1 y2 => K (.exit 0) [EV.int IntKind.u8 y0, EV.rsT y1 (Sk.agg [Sk.int IntKind.u64, Sk.int IntKind.u64]) y2, EV.nilSlice, EV.nilSlice] []) x0 x1 x2 x3 x4 x5 x6 x7 := (stepQ_eq _ _ _ _ _ _ _ _ _ _ _).symm.trans (by kernel_rfl)
theorem law16_OrderTotals.l11X.eq (K : Ex → List EV → Heap → Prop) : ∀ (n : Nat) (x0 : Int) (x1 : Nat) (x2 : Nat → Nat → Lf) (x3 : Nat) (x4 : Nat) (x5 : Int) (x6 : Nat) (x7 : Nat → Nat → Lf), loopE E_law16_OrderTotals (loopAt Tryd.f10 0) (LV.mk 99 [(0, 99)] 16 0 false) 0 143 K n [EV.int IntKind.u8 x0, EV.rsT x1 (Sk.agg [Sk.int IntKind.u64, Sk.int IntKind.u64]) x2, EV.nilSlice, EV.nilSlice, EV.slice 0 0 x3 (some x4) 2, EV.int IntKind.i64 x5] [some (EV.arrT x6 (Sk.agg [Sk.int IntKind.u64, Sk.int IntKind.u64]) x7)] = law16_OrderTotals.l11 (fun y0 y1 y2 => K (.exit 0) [EV.int IntKind.u8 y0, EV.rsT y1 (Sk.agg [Sk.int IntKind.u64, Sk.int IntKind.u64]) y2, EV.nilSlice, EV.nilSlice] []) n x0 x1 x2 x3 x4 x5 x6 x7
  | 0, _, _, _, _, _, _, _, _ => rfl
  | n + 1, x0, x1, x2, x3, x4, x5, x6, x7 => by
    have ih : (fun (x0 : Int) (x1 : Nat) (x2 : Nat → Nat → Lf) (x3 : Nat) (x4 : Nat) (x5 : Int) (x6 : Nat) (x7 : Nat → Nat → Lf) => loopE E_law16_OrderTotals (loopAt Tryd.f10 0) (LV.mk 99 [(0, 99)] 16 0 false) 0 143 K n [EV.int IntKind.u8 x0, EV.rsT x1 (Sk.agg [Sk.int IntKind.u64, Sk.int IntKind.u64]) x2, EV.nilSlice, EV.nilSlice, EV.slice 0 0 x3 (some x4) 2, EV.int IntKind.i64 x5] [some (EV.arrT x6 (Sk.agg [Sk.int IntKind.u64, Sk.int IntKind.u64]) x7)]) = law16_OrderTotals.l11 (fun y0 y1 y2 => K (.exit 0) [EV.int IntKind.u8 y0, EV.rsT y1 (Sk.agg [Sk.int IntKind.u64, Sk.int IntKind.u64]) y2, EV.nilSlice, EV.nilSlice] []) n := by funext x0 x1 x2 x3 x4 x5 x6 x7; exact law16_OrderTotals.l11X.eq K n x0 x1 x2 x3 x4 x5 x6 x7
    show loopStep _ _ _ _ _ (loopE E_law16_OrderTotals (loopAt Tryd.f10 0) (LV.mk 99 [(0, 99)] 16 0 false) 0 143 K n) [EV.int IntKind.u8 x0, EV.rsT x1 (Sk.agg [Sk.int IntKind.u64, Sk.int IntKind.u64]) x2, EV.nilSlice, EV.nilSlice, EV.slice 0 0 x3 (some x4) 2, EV.int IntKind.i64 x5] [some (EV.arrT x6 (Sk.agg [Sk.int IntKind.u64, Sk.int IntKind.u64]) x7)] K = law16_OrderTotals.l11.step (law16_OrderTotals.l11 (fun y0 y1 y2 => K (.exit 0) [EV.int IntKind.u8 y0, EV.rsT y1 (Sk.agg [Sk.int IntKind.u64, Sk.int IntKind.u64]) y2, EV.nilSlice, EV.nilSlice] []) n) (fun y0 y1 y2 => K (.exit 0) [EV.int IntKind.u8 y0, EV.rsT y1 (Sk.agg [Sk.int IntKind.u64, Sk.int IntKind.u64]) y2, EV.nilSlice, EV.nilSlice] []) x0 x1 x2 x3 x4 x5 x6 x7
    rw [← ih]
    exact law16_OrderTotals.l11X.stepEq _ K x0 x1 x2 x3 x4 x5 x6 x7
theorem law16_OrderTotals.l11h1X.stepEq (R : List EV → Heap → Prop) (K : Ex → List EV → Heap → Prop) (x0 : Int) (x1 : Nat) (x2 : Nat → Nat → Lf) (x3 : Nat) (x4 : Nat) (x5 : Nat) (x6 : Nat) (x7 : Int) (x8 : Nat) (x9 : Nat → Nat → Lf) (x10 : Nat) (x11 : Nat → Nat → Lf) (x12 : Nat) (x13 : Nat → Nat → Lf) : loopStep (evCode E_law16_OrderTotals (loopAt Tryd.f10 0) { (LV.mk 99 [(0, 99)] 16 0 false) with nx := live (.loop (loopAt Tryd.f10 0)) (LV.mk 99 [(0, 99)] 16 0 false) }) (live (.loop (loopAt Tryd.f10 0)) (LV.mk 99 [(0, 99)] 16 0 false)) (LV.mk 99 [(0, 99)] 16 0 false) 0 143 R [EV.int IntKind.u8 x0, EV.rsT x1 (Sk.agg [Sk.int IntKind.u64, Sk.int IntKind.u64]) x2, EV.slice 0 0 x3 none 2, EV.slice 1 0 x4 none 2, EV.slice 2 0 x5 (some x6) 2, EV.int IntKind.i64 x7] [some (EV.arrT x8 (Sk.agg [Sk.int IntKind.u64, Sk.int IntKind.u64]) x9), some (EV.arrT x10 (Sk.agg [Sk.int IntKind.u64, Sk.int IntKind.u64]) x11), some (EV.arrT x12 (Sk.agg [Sk.int IntKind.u64, Sk.int IntKind.u64]) x13)] K = law16_OrderTotals.l11h1.step (fun x0 x1 x2 x3 x4 x5 x6 x7 x8 x9 x10 x11 x12 x13 => R [EV.int IntKind.u8 x0, EV.rsT x1 (Sk.agg [Sk.int IntKind.u64, Sk.int IntKind.u64]) x2, EV.slice 0 0 x3 none 2, EV.slice 1 0 x4 none 2, EV.slice 2 0 x5 (some x6) 2, EV.int IntKind.i64 x7] [some (EV.arrT x8 (Sk.agg [Sk.int IntKind.u64, Sk.int IntKind.u64]) x9), some (EV.arrT x10 (Sk.agg [Sk.int IntKind.u64, Sk.int IntKind.u64]) x11), some (EV.arrT x12 (Sk.agg [Sk.int IntKind.u64, Sk.int IntKind.u64]) x13)]) (fun y0 => K .ret [EV.bool y0] []) (fun y0 y1 y2 y3 y4 y5 y6 y7 y8 => K (.exit 0) [EV.int IntKind.u8 y0, EV.rsT y1 (Sk.agg [Sk.int IntKind.u64, Sk.int IntKind.u64]) y2, EV.slice 0 0 y3 none 2, EV.slice 1 0 y4 none 2] [some (EV.arrT y5 (Sk.agg [Sk.int IntKind.u64, Sk.int IntKind.u64]) y6), some (EV.arrT y7 (Sk.agg [Sk.int IntKind.u64, Sk.int IntKind.u64]) y8)]) x0 x1 x2 x3 x4 x5 x6 x7 x8 x9 x10 x11 x12 x13 := (stepQ_eq _ _ _ _ _ _ _ _ _ _ _).symm.trans (by kernel_rfl)
theorem law16_OrderTotals.l11h1X.eq (K : Ex → List EV → Heap → Prop) : ∀ (n : Nat) (x0 : Int) (x1 : Nat) (x2 : Nat → Nat → Lf) (x3 : Nat) (x4 : Nat) (x5 : Nat) (x6 : Nat) (x7 : Int) (x8 : Nat) (x9 : Nat → Nat → Lf) (x10 : Nat) (x11 : Nat → Nat → Lf) (x12 : Nat) (x13 : Nat → Nat → Lf), loopE E_law16_OrderTotals (loopAt Tryd.f10 0) (LV.mk 99 [(0, 99)] 16 0 false) 0 143 K n [EV.int IntKind.u8 x0, EV.rsT x1 (Sk.agg [Sk.int IntKind.u64, Sk.int IntKind.u64]) x2, EV.slice 0 0 x3 none 2, EV.slice 1 0 x4 none 2, EV.slice 2 0 x5 (some x6) 2, EV.int IntKind.i64 x7] [some (EV.arrT x8 (Sk.agg [Sk.int IntKind.u64, Sk.int IntKind.u64]) x9), some (EV.arrT x10 (Sk.agg [Sk.int IntKind.u64, Sk.int IntKind.u64]) x11), some (EV.arrT x12 (Sk.agg [Sk.int IntKind.u64, Sk.int IntKind.u64]) x13)] = law16_OrderTotals.l11h1 (fun y0 => K .ret [EV.bool y0] []) (fun y0 y1 y2 y3 y4 y5 y6 y7 y8 => K (.exit 0) [EV.int IntKind.u8 y0, EV.rsT y1 (Sk.agg [Sk.int IntKind.u64, Sk.int IntKind.u64]) y2, EV.slice 0 0 y3 none 2, EV.slice 1 0 y4 none 2] [some (EV.arrT y5 (Sk.agg [Sk.int IntKind.u64, Sk.int IntKind.u64]) y6), some (EV.arrT y7 (Sk.agg [Sk.int IntKind.u64, Sk.int IntKind.u64]) y8)]) n x0 x1 x2 x3 x4 x5 x6 x7 x8 x9 x10 x11 x12 x13
  | 0, _, _, _, _, _, _, _, _, _, _, _, _, _, _ => rfl
  | n + 1, x0, x1, x2, x3, x4, x5, x6, x7, x8, x9, x10, x11, x12, x13 => by
    have ih : (fun (x0 : Int) (x1 : Nat) (x2 : Nat → Nat → Lf) (x3 : Nat) (x4 : Nat) (x5 : Nat) (x6 : Nat) (x7 : Int) (x8 : Nat) (x9 : Nat → Nat → Lf) (x10 : Nat) (x11 : Nat → Nat → Lf) (x12 : Nat) (x13 : Nat → Nat → Lf) => loopE E_law16_OrderTotals (loopAt Tryd.f10 0) (LV.mk 99 [(0, 99)] 16 0 false) 0 143 K n [EV.int IntKind.u8 x0, EV.rsT x1 (Sk.agg [Sk.int IntKind.u64, Sk.int IntKind.u64]) x2, EV.slice 0 0 x3 none 2, EV.slice 1 0 x4 none 2, EV.slice 2 0 x5 (some x6) 2, EV.int IntKind.i64 x7] [some (EV.arrT x8 (Sk.agg [Sk.int IntKind.u64, Sk.int IntKind.u64]) x9), some (EV.arrT x10 (Sk.agg [Sk.int IntKind.u64, Sk.int IntKind.u64]) x11), some (EV.arrT x12 (Sk.agg [Sk.int IntKind.u64, Sk.int IntKind.u64]) x13)]) = law16_OrderTotals.l11h1 (fun y0 => K .ret [EV.bool y0] []) (fun y0 y1 y2 y3 y4 y5 y6 y7 y8 => K (.exit 0) [EV.int IntKind.u8 y0, EV.rsT y1 (Sk.agg [Sk.int IntKind.u64, Sk.int IntKind.u64]) y2, EV.slice 0 0 y3 none 2, EV.slice 1 0 y4 none 2] [some (EV.arrT y5 (Sk.agg [Sk.int IntKind.u64, Sk.int IntKind.u64]) y6), some (EV.arrT y7 (Sk.agg [Sk.int IntKind.u64, Sk.int IntKind.u64]) y8)]) n := by funext x0 x1 x2 x3 x4 x5 x6 x7 x8 x9 x10 x11 x12 x13; exact law16_OrderTotals.l11h1X.eq K n x0 x1 x2 x3 x4 x5 x6 x7 x8 x9 x10 x11 x12 x13
    show loopStep _ _ _ _ _ (loopE E_law16_OrderTotals (loopAt Tryd.f10 0) (LV.mk 99 [(0, 99)] 16 0 false) 0 143 K n) [EV.int IntKind.u8 x0, EV.rsT x1 (Sk.agg [Sk.int IntKind.u64, Sk.int IntKind.u64]) x2, EV.slice 0 0 x3 none 2, EV.slice 1 0 x4 none 2, EV.slice 2 0 x5 (some x6) 2, EV.int IntKind.i64 x7] [some (EV.arrT x8 (Sk.agg [Sk.int IntKind.u64, Sk.int IntKind.u64]) x9), some (EV.arrT x10 (Sk.agg [Sk.int IntKind.u64, Sk.int IntKind.u64]) x11), some (EV.arrT x12 (Sk.agg [Sk.int IntKind.u64, Sk.int IntKind.u64]) x13)] K = law16_OrderTotals.l11h1.step (law16_OrderTotals.l11h1 (fun y0 => K .ret [EV.bool y0] []) (fun y0 y1 y2 y3 y4 y5 y6 y7 y8 => K (.exit 0) [EV.int IntKind.u8 y0, EV.rsT y1 (Sk.agg [Sk.int IntKind.u64, Sk.int IntKind.u64]) y2, EV.slice 0 0 y3 none 2, EV.slice 1 0 y4 none 2] [some (EV.arrT y5 (Sk.agg [Sk.int IntKind.u64, Sk.int IntKind.u64]) y6), some (EV.arrT y7 (Sk.agg [Sk.int IntKind.u64, Sk.int IntKind.u64]) y8)]) n) (fun y0 => K .ret [EV.bool y0] []) (fun y0 y1 y2 y3 y4 y5 y6 y7 y8 => K (.exit 0) [EV.int IntKind.u8 y0, EV.rsT y1 (Sk.agg [Sk.int IntKind.u64, Sk.int IntKind.u64]) y2, EV.slice 0 0 y3 none 2, EV.slice 1 0 y4 none 2] [some (EV.arrT y5 (Sk.agg [Sk.int IntKind.u64, Sk.int IntKind.u64]) y6), some (EV.arrT y7 (Sk.agg [Sk.int IntKind.u64, Sk.int IntKind.u64]) y8)]) x0 x1 x2 x3 x4 x5 x6 x7 x8 x9 x10 x11 x12 x13
    rw [← ih]
    exact law16_OrderTotals.l11h1X.stepEq _ K x0 x1 x2 x3 x4 x5 x6 x7 x8 x9 x10 x11 x12 x13
theorem law16_OrderTotals.l11X.ok : LoopEq E_law16_OrderTotals (loopAt Tryd.f10 0) := by
  intro L hL vs H
  have h1 : E_law16_OrderTotals.lp (firstRegion (loopAt Tryd.f10 0)) = some law16_OrderTotals.l11.entry := by kernel_rfl
  have h2 : L = law16_OrderTotals.l11.entry := Option.some.inj (hL.symm.trans h1)
  subst h2
  by_cases hx0 : ∃ (x0 : Int) (x1 : Nat) (x2 : Nat → Nat → Lf) (x3 : Nat) (x4 : Nat) (x5 : Int) (x6 : Nat) (x7 : Nat → Nat → Lf), vs = [EV.int IntKind.u8 x0, EV.rsT x1 (Sk.agg [Sk.int IntKind.u64, Sk.int IntKind.u64]) x2, EV.nilSlice, EV.nilSlice, EV.slice 0 0 x3 (some x4) 2, EV.int IntKind.i64 x5] ∧ H = [some (EV.arrT x6 (Sk.agg [Sk.int IntKind.u64, Sk.int IntKind.u64]) x7)]
  · obtain ⟨x0, x1, x2, x3, x4, x5, x6, x7, rfl, rfl⟩ := hx0
    right; intro K
    exact exists_congr fun n => iff_of_eq (law16_OrderTotals.l11X.eq K n x0 x1 x2 x3 x4 x5 x6 x7).symm
  by_cases hx1 : ∃ (x0 : Int) (x1 : Nat) (x2 : Nat → Nat → Lf) (x3 : Nat) (x4 : Nat) (x5 : Nat) (x6 : Nat) (x7 : Int) (x8 : Nat) (x9 : Nat → Nat → Lf) (x10 : Nat) (x11 : Nat → Nat → Lf) (x12 : Nat) (x13 : Nat → Nat → Lf), vs = [EV.int IntKind.u8 x0, EV.rsT x1 (Sk.agg [Sk.int IntKind.u64, Sk.int IntKind.u64]) x2, EV.slice 0 0 x3 none 2, EV.slice 1 0 x4 none 2, EV.slice 2 0 x5 (some x6) 2, EV.int IntKind.i64 x7] ∧ H = [some (EV.arrT x8 (Sk.agg [Sk.int IntKind.u64, Sk.int IntKind.u64]) x9), some (EV.arrT x10 (Sk.agg [Sk.int IntKind.u64, Sk.int IntKind.u64]) x11), some (EV.arrT x12 (Sk.agg [Sk.int IntKind.u64, Sk.int IntKind.u64]) x13)]
  · obtain ⟨x0, x1, x2, x3, x4, x5, x6, x7, x8, x9, x10, x11, x12, x13, rfl, rfl⟩ := hx1
    right; intro K
    exact exists_congr fun n => iff_of_eq (law16_OrderTotals.l11h1X.eq K n x0 x1 x2 x3 x4 x5 x6 x7 x8 x9 x10 x11 x12 x13).symm
  left; intro K h
  simp only [law16_OrderTotals.l11.entry] at h
  split at h
  · exact hx0 ⟨_, _, _, _, _, _, _, _, rfl, rfl⟩
  · exact hx1 ⟨_, _, _, _, _, _, _, _, _, _, _, _, _, _, rfl, rfl⟩
  · exact h
theorem law16_OrderTotals.l16X.stepEq (R : List EV → Heap → Prop) (K : Ex → List EV → Heap → Prop) (x0 : Int) (x1 : Nat) (x2 : Nat → Nat → Lf) (x3 : Int) : loopStep (evCode E_law16_OrderTotals (loopAt Tryd.f10 1) { (LV.mk 98 [(2, 98)] 16 0 false) with nx := live (.loop (loopAt Tryd.f10 1)) (LV.mk 98 [(2, 98)] 16 0 false) }) (live (.loop (loopAt Tryd.f10 1)) (LV.mk 98 [(2, 98)] 16 0 false)) (LV.mk 98 [(2, 98)] 16 0 false) 0 143 R [EV.int IntKind.u8 x0, EV.rsT x1 (Sk.agg [Sk.int IntKind.u64, Sk.int IntKind.u64]) x2, EV.nilSlice, EV.nilSlice, EV.int IntKind.i64 x3] [] K = law16_OrderTotals.l16.step (fun x0 x1 x2 x3 => R [EV.int IntKind.u8 x0, EV.rsT x1 (Sk.agg [Sk.int IntKind.u64, Sk.int IntKind.u64]) x2, EV.nilSlice, EV.nilSlice, EV.int IntKind.i64 x3] []) (fun y0 => K .ret [EV.bool y0] []) (fun y0 y1 => K (.exit 2) [EV.rsT y0 (Sk.agg [Sk.int IntKind.u64, Sk.int IntKind.u64]) y1, EV.nilSlice, EV.nilSlice] []) x0 x1 x2 x3 := (stepQ_eq _ _ _ _ _ _ _ _ _ _ _).symm.trans (by kernel_rfl)
theorem law16_OrderTotals.l16X.eq (K : Ex → List EV → Heap → Prop) : ∀ (n : Nat) (x0 : Int) (x1 : Nat) (x2 : Nat → Nat → Lf) (x3 : Int), loopE E_law16_OrderTotals (loopAt Tryd.f10 1) (LV.mk 98 [(2, 98)] 16 0 false) 0 143 K n [EV.int IntKind.u8 x0, EV.rsT x1 (Sk.agg [Sk.int IntKind.u64, Sk.int IntKind.u64]) x2, EV.nilSlice, EV.nilSlice, EV.int IntKind.i64 x3] [] = law16_OrderTotals.l16 (fun y0 => K .ret [EV.bool y0] []) (fun y0 y1 => K (.exit 2) [EV.rsT y0 (Sk.agg [Sk.int IntKind.u64, Sk.int IntKind.u64]) y1, EV.nilSlice, EV.nilSlice] []) n x0 x1 x2 x3
  | 0, _, _, _, _ => rfl
  | n + 1, x0, x1, x2, x3 => by
    have ih : (fun (x0 : Int) (x1 : Nat) (x2 : Nat → Nat → Lf) (x3 : Int) => loopE E_law16_OrderTotals (loopAt Tryd.f10 1) (LV.mk 98 [(2, 98)] 16 0 false) 0 143 K n [EV.int IntKind.u8 x0, EV.rsT x1 (Sk.agg [Sk.int IntKind.u64, Sk.int IntKind.u64]) x2, EV.nilSlice, EV.nilSlice, EV.int IntKind.i64 x3] []) = law16_OrderTotals.l16 (fun y0 => K .ret [EV.bool y0] []) (fun y0 y1 => K (.exit 2) [EV.rsT y0 (Sk.agg [Sk.int IntKind.u64, Sk.int IntKind.u64]) y1, EV.nilSlice, EV.nilSlice] []) n := by funext x0 x1 x2 x3; exact law16_OrderTotals.l16X.eq K n x0 x1 x2 x3
    show loopStep _ _ _ _ _ (loopE E_law16_OrderTotals (loopAt Tryd.f10 1) (LV.mk 98 [(2, 98)] 16 0 false) 0 143 K n) [EV.int IntKind.u8 x0, EV.rsT x1 (Sk.agg [Sk.int IntKind.u64, Sk.int IntKind.u64]) x2, EV.nilSlice, EV.nilSlice, EV.int IntKind.i64 x3] [] K = law16_OrderTotals.l16.step (law16_OrderTotals.l16 (fun y0 => K .ret [EV.bool y0] []) (fun y0 y1 => K (.exit 2) [EV.rsT y0 (Sk.agg [Sk.int IntKind.u64, Sk.int IntKind.u64]) y1, EV.nilSlice, EV.nilSlice] []) n) (fun y0 => K .ret [EV.bool y0] []) (fun y0 y1 => K (.exit 2) [EV.rsT y0 (Sk.agg [Sk.int IntKind.u64, Sk.int IntKind.u64]) y1, EV.nilSlice, EV.nilSlice] []) x0 x1 x2 x3
    rw [← ih]
    exact law16_OrderTotals.l16X.stepEq _ K x0 x1 x2 x3
theorem law16_OrderTotals.l16h1X.stepEq (R : List EV → Heap → Prop) (K : Ex → List EV → Heap → Prop) (x0 : Int) (x1 : Nat) (x2 : Nat → Nat → Lf) (x3 : Nat) (x4 : Nat) (x5 : Int) (x6 : Nat) (x7 : Nat → Nat → Lf) (x8 : Nat) (x9 : Nat → Nat → Lf) : loopStep (evCode E_law16_OrderTotals (loopAt Tryd.f10 1) { (LV.mk 98 [(2, 98)] 16 0 false) with nx := live (.loop (loopAt Tryd.f10 1)) (LV.mk 98 [(2, 98)] 16 0 false) }) (live (.loop (loopAt Tryd.f10 1)) (LV.mk 98 [(2, 98)] 16 0 false)) (LV.mk 98 [(2, 98)] 16 0 false) 0 143 R [EV.int IntKind.u8 x0, EV.rsT x1 (Sk.agg [Sk.int IntKind.u64, Sk.int IntKind.u64]) x2, EV.slice 0 0 x3 none 2, EV.slice 1 0 x4 none 2, EV.int IntKind.i64 x5] [some (EV.arrT x6 (Sk.agg [Sk.int IntKind.u64, Sk.int IntKind.u64]) x7), some (EV.arrT x8 (Sk.agg [Sk.int IntKind.u64, Sk.int IntKind.u64]) x9)] K = law16_OrderTotals.l16h1.step (fun x0 x1 x2 x3 x4 x5 x6 x7 x8 x9 => R [EV.int IntKind.u8 x0, EV.rsT x1 (Sk.agg [Sk.int IntKind.u64, Sk.int IntKind.u64]) x2, EV.slice 0 0 x3 none 2, EV.slice 1 0 x4 none 2, EV.int IntKind.i64 x5] [some (EV.arrT x6 (Sk.agg [Sk.int IntKind.u64, Sk.int IntKind.u64]) x7), some (EV.arrT x8 (Sk.agg [Sk.int IntKind.u64, Sk.int IntKind.u64]) x9)]) (fun y0 => K .ret [EV.bool y0] []) (fun y0 y1 y2 y3 y4 y5 y6 y7 => K (.exit 2) [EV.rsT y0 (Sk.agg [Sk.int IntKind.u64, Sk.int IntKind.u64]) y1, EV.slice 0 0 y2 none 2, EV.slice 1 0 y3 none 2] [some (EV.arrT y4 (Sk.agg [Sk.int IntKind.u64, Sk.int IntKind.u64]) y5), some (EV.arrT y6 (Sk.agg [Sk.int IntKind.u64, Sk.int IntKind.u64]) y7)]) x0 x1 x2 x3 x4 x5 x6 x7 x8 x9 := (stepQ_eq _ _ _ _ _ _ _ _ _ _ _).symm.trans (by kernel_rfl)
theorem law16_OrderTotals.l16h1X.eq (K : Ex → List EV → Heap → Prop) : ∀ (n : Nat) (x0 : Int) (x1 : Nat) (x2 : Nat → Nat → Lf) (x3 : Nat) (x4 : Nat) (x5 : Int) (x6 : Nat) (x7 : Nat → Nat → Lf) (x8 : Nat) (x9 : Nat → Nat → Lf), loopE E_law16_OrderTotals (loopAt Tryd.f10 1) (LV.mk 98 [(2, 98)] 16 0 false) 0 143 K n [EV.int IntKind.u8 x0, EV.rsT x1 (Sk.agg [Sk.int IntKind.u64, Sk.int IntKind.u64]) x2, EV.slice 0 0 x3 none 2, EV.slice 1 0 x4 none 2, EV.int IntKind.i64 x5] [some (EV.arrT x6 (Sk.agg [Sk.int IntKind.u64, Sk.int IntKind.u64]) x7), some (EV.arrT x8 (Sk.agg [Sk.int IntKind.u64, Sk.int IntKind.u64]) x9)] = law16_OrderTotals.l16h1 (fun y0 => K .ret [EV.bool y0] []) (fun y0 y1 y2 y3 y4 y5 y6 y7 => K (.exit 2) [EV.rsT y0 (Sk.agg [Sk.int IntKind.u64, Sk.int IntKind.u64]) y1, EV.slice 0 0 y2 none 2, EV.slice 1 0 y3 none 2] [some (EV.arrT y4 (Sk.agg [Sk.int IntKind.u64, Sk.int IntKind.u64]) y5), some (EV.arrT y6 (Sk.agg [Sk.int IntKind.u64, Sk.int IntKind.u64]) y7)]) n x0 x1 x2 x3 x4 x5 x6 x7 x8 x9
  | 0, _, _, _, _, _, _, _, _, _, _ => rfl
  | n + 1, x0, x1, x2, x3, x4, x5, x6, x7, x8, x9 => by
    have ih : (fun (x0 : Int) (x1 : Nat) (x2 : Nat → Nat → Lf) (x3 : Nat) (x4 : Nat) (x5 : Int) (x6 : Nat) (x7 : Nat → Nat → Lf) (x8 : Nat) (x9 : Nat → Nat → Lf) => loopE E_law16_OrderTotals (loopAt Tryd.f10 1) (LV.mk 98 [(2, 98)] 16 0 false) 0 143 K n [EV.int IntKind.u8 x0, EV.rsT x1 (Sk.agg [Sk.int IntKind.u64, Sk.int IntKind.u64]) x2, EV.slice 0 0 x3 none 2, EV.slice 1 0 x4 none 2, EV.int IntKind.i64 x5] [some (EV.arrT x6 (Sk.agg [Sk.int IntKind.u64, Sk.int IntKind.u64]) x7), some (EV.arrT x8 (Sk.agg [Sk.int IntKind.u64, Sk.int IntKind.u64]) x9)]) = law16_OrderTotals.l16h1 (fun y0 => K .ret [EV.bool y0] []) (fun y0 y1 y2 y3 y4 y5 y6 y7 => K (.exit 2) [EV.rsT y0 (Sk.agg [Sk.int IntKind.u64, Sk.int IntKind.u64]) y1, EV.slice 0 0 y2 none 2, EV.slice 1 0 y3 none 2] [some (EV.arrT y4 (Sk.agg [Sk.int IntKind.u64, Sk.int IntKind.u64]) y5), some (EV.arrT y6 (Sk.agg [Sk.int IntKind.u64, Sk.int IntKind.u64]) y7)]) n := by funext x0 x1 x2 x3 x4 x5 x6 x7 x8 x9; exact law16_OrderTotals.l16h1X.eq K n x0 x1 x2 x3 x4 x5 x6 x7 x8 x9
    show loopStep _ _ _ _ _ (loopE E_law16_OrderTotals (loopAt Tryd.f10 1) (LV.mk 98 [(2, 98)] 16 0 false) 0 143 K n) [EV.int IntKind.u8 x0, EV.rsT x1 (Sk.agg [Sk.int IntKind.u64, Sk.int IntKind.u64]) x2, EV.slice 0 0 x3 none 2, EV.slice 1 0 x4 none 2, EV.int IntKind.i64 x5] [some (EV.arrT x6 (Sk.agg [Sk.int IntKind.u64, Sk.int IntKind.u64]) x7), some (EV.arrT x8 (Sk.agg [Sk.int IntKind.u64, Sk.int IntKind.u64]) x9)] K = law16_OrderTotals.l16h1.step (law16_OrderTotals.l16h1 (fun y0 => K .ret [EV.bool y0] []) (fun y0 y1 y2 y3 y4 y5 y6 y7 => K (.exit 2) [EV.rsT y0 (Sk.agg [Sk.int IntKind.u64, Sk.int IntKind.u64]) y1, EV.slice 0 0 y2 none 2, EV.slice 1 0 y3 none 2] [some (EV.arrT y4 (Sk.agg [Sk.int IntKind.u64, Sk.int IntKind.u64]) y5), some (EV.arrT y6 (Sk.agg [Sk.int IntKind.u64, Sk.int IntKind.u64]) y7)]) n) (fun y0 => K .ret [EV.bool y0] []) (fun y0 y1 y2 y3 y4 y5 y6 y7 => K (.exit 2) [EV.rsT y0 (Sk.agg [Sk.int IntKind.u64, Sk.int IntKind.u64]) y1, EV.slice 0 0 y2 none 2, EV.slice 1 0 y3 none 2] [some (EV.arrT y4 (Sk.agg [Sk.int IntKind.u64, Sk.int IntKind.u64]) y5), some (EV.arrT y6 (Sk.agg [Sk.int IntKind.u64, Sk.int IntKind.u64]) y7)]) x0 x1 x2 x3 x4 x5 x6 x7 x8 x9
    rw [← ih]
    exact law16_OrderTotals.l16h1X.stepEq _ K x0 x1 x2 x3 x4 x5 x6 x7 x8 x9
theorem law16_OrderTotals.l16X.ok : LoopEq E_law16_OrderTotals (loopAt Tryd.f10 1) := by
  intro L hL vs H
  have h1 : E_law16_OrderTotals.lp (firstRegion (loopAt Tryd.f10 1)) = some law16_OrderTotals.l16.entry := by kernel_rfl
  have h2 : L = law16_OrderTotals.l16.entry := Option.some.inj (hL.symm.trans h1)
  subst h2
  by_cases hx0 : ∃ (x0 : Int) (x1 : Nat) (x2 : Nat → Nat → Lf) (x3 : Int), vs = [EV.int IntKind.u8 x0, EV.rsT x1 (Sk.agg [Sk.int IntKind.u64, Sk.int IntKind.u64]) x2, EV.nilSlice, EV.nilSlice, EV.int IntKind.i64 x3] ∧ H = []
  · obtain ⟨x0, x1, x2, x3, rfl, rfl⟩ := hx0
    right; intro K
    exact exists_congr fun n => iff_of_eq (law16_OrderTotals.l16X.eq K n x0 x1 x2 x3).symm
  by_cases hx1 : ∃ (x0 : Int) (x1 : Nat) (x2 : Nat → Nat → Lf) (x3 : Nat) (x4 : Nat) (x5 : Int) (x6 : Nat) (x7 : Nat → Nat → Lf) (x8 : Nat) (x9 : Nat → Nat → Lf), vs = [EV.int IntKind.u8 x0, EV.rsT x1 (Sk.agg [Sk.int IntKind.u64, Sk.int IntKind.u64]) x2, EV.slice 0 0 x3 none 2, EV.slice 1 0 x4 none 2, EV.int IntKind.i64 x5] ∧ H = [some (EV.arrT x6 (Sk.agg [Sk.int IntKind.u64, Sk.int IntKind.u64]) x7), some (EV.arrT x8 (Sk.agg [Sk.int IntKind.u64, Sk.int IntKind.u64]) x9)]
  · obtain ⟨x0, x1, x2, x3, x4, x5, x6, x7, x8, x9, rfl, rfl⟩ := hx1
    right; intro K
    exact exists_congr fun n => iff_of_eq (law16_OrderTotals.l16h1X.eq K n x0 x1 x2 x3 x4 x5 x6 x7 x8 x9).symm
  left; intro K h
  simp only [law16_OrderTotals.l16.entry] at h
  split at h
  · exact hx0 ⟨_, _, _, _, rfl, rfl⟩
  · exact hx1 ⟨_, _, _, _, _, _, _, _, _, _, rfl, rfl⟩
  · exact h
theorem law16_OrderTotals.l22X.stepEq (R : List EV → Heap → Prop) (K : Ex → List EV → Heap → Prop) (x0 : Nat) (x1 : Nat → Nat → Lf) (x2 : Int) : loopStep (evCode E_law16_OrderTotals (loopAt Tryd.f10 2) { (LV.mk 34 [(4, 34)] 16 0 false) with nx := live (.loop (loopAt Tryd.f10 2)) (LV.mk 34 [(4, 34)] 16 0 false) }) (live (.loop (loopAt Tryd.f10 2)) (LV.mk 34 [(4, 34)] 16 0 false)) (LV.mk 34 [(4, 34)] 16 0 false) 0 143 R [EV.rsT x0 (Sk.agg [Sk.int IntKind.u64, Sk.int IntKind.u64]) x1, EV.nilSlice, EV.nilSlice, EV.int IntKind.i64 x2] [] K = law16_OrderTotals.l22.step (fun x0 x1 x2 => R [EV.rsT x0 (Sk.agg [Sk.int IntKind.u64, Sk.int IntKind.u64]) x1, EV.nilSlice, EV.nilSlice, EV.int IntKind.i64 x2] []) (fun y0 y1 => K (.exit 4) [EV.rsT y0 (Sk.agg [Sk.int IntKind.u64, Sk.int IntKind.u64]) y1, EV.nilSlice] []) x0 x1 x2 := (stepQ_eq _ _ _ _ _ _ _ _ _ _ _).symm.trans (by kernel_rfl)
theorem law16_OrderTotals.l22X.eq (K : Ex → List EV → Heap → Prop) : ∀ (n : Nat) (x0 : Nat) (x1 : Nat → Nat → Lf) (x2 : Int), loopE E_law16_OrderTotals (loopAt Tryd.f10 2) (LV.mk 34 [(4, 34)] 16 0 false) 0 143 K n [EV.rsT x0 (Sk.agg [Sk.int IntKind.u64, Sk.int IntKind.u64]) x1, EV.nilSlice, EV.nilSlice, EV.int IntKind.i64 x2] [] = law16_OrderTotals.l22 (fun y0 y1 => K (.exit 4) [EV.rsT y0 (Sk.agg [Sk.int IntKind.u64, Sk.int IntKind.u64]) y1, EV.nilSlice] []) n x0 x1 x2
  | 0, _, _, _ => rfl
  | n + 1, x0, x1, x2 => by
    have ih : (fun (x0 : Nat) (x1 : Nat → Nat → Lf) (x2 : Int) => loopE E_law16_OrderTotals (loopAt Tryd.f10 2) (LV.mk 34 [(4, 34)] 16 0 false) 0 143 K n [EV.rsT x0 (Sk.agg [Sk.int IntKind.u64, Sk.int IntKind.u64]) x1, EV.nilSlice, EV.nilSlice, EV.int IntKind.i64 x2] []) = law16_OrderTotals.l22 (fun y0 y1 => K (.exit 4) [EV.rsT y0 (Sk.agg [Sk.int IntKind.u64, Sk.int IntKind.u64]) y1, EV.nilSlice] []) n := by funext x0 x1 x2; exact law16_OrderTotals.l22X.eq K n x0 x1 x2
    show loopStep _ _ _ _ _ (loopE E_law16_OrderTotals (loopAt Tryd.f10 2) (LV.mk 34 [(4, 34)] 16 0 false) 0 143 K n) [EV.rsT x0 (Sk.agg [Sk.int IntKind.u64, Sk.int IntKind.u64]) x1, EV.nilSlice, EV.nilSlice, EV.int IntKind.i64 x2] [] K = law16_OrderTotals.l22.step (law16_OrderTotals.l22 (fun y0 y1 => K (.exit 4) [EV.rsT y0 (Sk.agg [Sk.int IntKind.u64, Sk.int IntKind.u64]) y1, EV.nilSlice] []) n) (fun y0 y1 => K (.exit 4) [EV.rsT y0 (Sk.agg [Sk.int IntKind.u64, Sk.int IntKind.u64]) y1, EV.nilSlice] []) x0 x1 x2
    rw [← ih]
    exact law16_OrderTotals.l22X.stepEq _ K x0 x1 x2
theorem law16_OrderTotals.l22h1X.stepEq (R : List EV → Heap → Prop) (K : Ex → List EV → Heap → Prop) (x0 : Nat) (x1 : Nat → Nat → Lf) (x2 : Nat) (x3 : Nat) (x4 : Int) (x5 : Nat) (x6 : Nat → Nat → Lf) (x7 : Nat) (x8 : Nat → Nat → Lf) : loopStep (evCode E_law16_OrderTotals (loopAt Tryd.f10 2) { (LV.mk 34 [(4, 34)] 16 0 false) with nx := live (.loop (loopAt Tryd.f10 2)) (LV.mk 34 [(4, 34)] 16 0 false) }) (live (.loop (loopAt Tryd.f10 2)) (LV.mk 34 [(4, 34)] 16 0 false)) (LV.mk 34 [(4, 34)] 16 0 false) 0 143 R [EV.rsT x0 (Sk.agg [Sk.int IntKind.u64, Sk.int IntKind.u64]) x1, EV.slice 0 0 x2 none 2, EV.slice 1 0 x3 none 2, EV.int IntKind.i64 x4] [some (EV.arrT x5 (Sk.agg [Sk.int IntKind.u64, Sk.int IntKind.u64]) x6), some (EV.arrT x7 (Sk.agg [Sk.int IntKind.u64, Sk.int IntKind.u64]) x8)] K = law16_OrderTotals.l22h1.step (fun x0 x1 x2 x3 x4 x5 x6 x7 x8 => R [EV.rsT x0 (Sk.agg [Sk.int IntKind.u64, Sk.int IntKind.u64]) x1, EV.slice 0 0 x2 none 2, EV.slice 1 0 x3 none 2, EV.int IntKind.i64 x4] [some (EV.arrT x5 (Sk.agg [Sk.int IntKind.u64, Sk.int IntKind.u64]) x6), some (EV.arrT x7 (Sk.agg [Sk.int IntKind.u64, Sk.int IntKind.u64]) x8)]) (fun y0 y1 y2 y3 y4 => K (.exit 4) [EV.rsT y0 (Sk.agg [Sk.int IntKind.u64, Sk.int IntKind.u64]) y1, EV.slice 0 0 y2 none 2] [some (EV.arrT y3 (Sk.agg [Sk.int IntKind.u64, Sk.int IntKind.u64]) y4)]) x0 x1 x2 x3 x4 x5 x6 x7 x8 := (stepQ_eq _ _ _ _ _ _ _ _ _ _ _).symm.trans (by kernel_rfl)
theorem law16_OrderTotals.l22h1X.eq (K : Ex → List EV → Heap → Prop) : ∀ (n : Nat) (x0 : Nat) (x1 : Nat → Nat → Lf) (x2 : Nat) (x3 : Nat) (x4 : Int) (x5 : Nat) (x6 : Nat → Nat → Lf) (x7 : Nat) (x8 : Nat → Nat → Lf), loopE E_law16_OrderTotals (loopAt Tryd.f10 2) (LV.mk 34 [(4, 34)] 16 0 false) 0 143 K n [EV.rsT x0 (Sk.agg [Sk.int IntKind.u64, Sk.int IntKind.u64]) x1, EV.slice 0 0 x2 none 2, EV.slice 1 0 x3 none 2, EV.int IntKind.i64 x4] [some (EV.arrT x5 (Sk.agg [Sk.int IntKind.u64, Sk.int IntKind.u64]) x6), some (EV.arrT x7 (Sk.agg [Sk.int IntKind.u64, Sk.int IntKind.u64]) x8)] = law16_OrderTotals.l22h1 (fun y0 y1 y2 y3 y4 => K (.exit 4) [EV.rsT y0 (Sk.agg [Sk.int IntKind.u64, Sk.int IntKind.u64]) y1, EV.slice 0 0 y2 none 2] [some (EV.arrT y3 (Sk.agg [Sk.int IntKind.u64, Sk.int IntKind.u64]) y4)]) n x0 x1 x2 x3 x4 x5 x6 x7 x8
  | 0, _, _, _, _, _, _, _, _, _ => rfl
  | n + 1, x0, x1, x2, x3, x4, x5, x6, x7, x8 => by
    have ih : (fun (x0 : Nat) (x1 : Nat → Nat → Lf) (x2 : Nat) (x3 : Nat) (x4 : Int) (x5 : Nat) (x6 : Nat → Nat → Lf) (x7 : Nat) (x8 : Nat → Nat → Lf) => loopE E_law16_OrderTotals (loopAt Tryd.f10 2) (LV.mk 34 [(4, 34)] 16 0 false) 0 143 K n [EV.rsT x0 (Sk.agg [Sk.int IntKind.u64, Sk.int IntKind.u64]) x1, EV.slice 0 0 x2 none 2, EV.slice 1 0 x3 none 2, EV.int IntKind.i64 x4] [some (EV.arrT x5 (Sk.agg [Sk.int IntKind.u64, Sk.int IntKind.u64]) x6), some (EV.arrT x7 (Sk.agg [Sk.int IntKind.u64, Sk.int IntKind.u64]) x8)]) = law16_OrderTotals.l22h1 (fun y0 y1 y2 y3 y4 => K (.exit 4) [EV.rsT y0 (Sk.agg [Sk.int IntKind.u64, Sk.int IntKind.u64]) y1, EV.slice 0 0 y2 none 2] [some (EV.arrT y3 (Sk.agg [Sk.int IntKind.u64, Sk.int IntKind.u64]) y4)]) n := by funext x0 x1 x2 x3 x4 x5 x6 x7 x8; exact law16_OrderTotals.l22h1X.eq K n x0 x1 x2 x3 x4 x5 x6 x7 x8
    show loopStep _ _ _ _ _ (loopE E_law16_OrderTotals (loopAt Tryd.f10 2) (LV.mk 34 [(4, 34)] 16 0 false) 0 143 K n) [EV.rsT x0 (Sk.agg [Sk.int IntKind.u64, Sk.int IntKind.u64]) x1, EV.slice 0 0 x2 none 2, EV.slice 1 0 x3 none 2, EV.int IntKind.i64 x4] [some (EV.arrT x5 (Sk.agg [Sk.int IntKind.u64, Sk.int IntKind.u64]) x6), some (EV.arrT x7 (Sk.agg [Sk.int IntKind.u64, Sk.int IntKind.u64]) x8)] K = law16_OrderTotals.l22h1.step (law16_OrderTotals.l22h1 (fun y0 y1 y2 y3 y4 => K (.exit 4) [EV.rsT y0 (Sk.agg [Sk.int IntKind.u64, Sk.int IntKind.u64]) y1, EV.slice 0 0 y2 none 2] [some (EV.arrT y3 (Sk.agg [Sk.int IntKind.u64, Sk.int IntKind.u64]) y4)]) n) (fun y0 y1 y2 y3 y4 => K (.exit 4) [EV.rsT y0 (Sk.agg [Sk.int IntKind.u64, Sk.int IntKind.u64]) y1, EV.slice 0 0 y2 none 2] [some (EV.arrT y3 (Sk.agg [Sk.int IntKind.u64, Sk.int IntKind.u64]) y4)]) x0 x1 x2 x3 x4 x5 x6 x7 x8
    rw [← ih]
    exact law16_OrderTotals.l22h1X.stepEq _ K x0 x1 x2 x3 x4 x5 x6 x7 x8
theorem law16_OrderTotals.l22X.ok : LoopEq E_law16_OrderTotals (loopAt Tryd.f10 2) := by
  intro L hL vs H
  have h1 : E_law16_OrderTotals.lp (firstRegion (loopAt Tryd.f10 2)) = some law16_OrderTotals.l22.entry := by kernel_rfl
  have h2 : L = law16_OrderTotals.l22.entry := Option.some.inj (hL.symm.trans h1)
  subst h2
  by_cases hx0 : ∃ (x0 : Nat) (x1 : Nat → Nat → Lf) (x2 : Int), vs = [EV.rsT x0 (Sk.agg [Sk.int IntKind.u64, Sk.int IntKind.u64]) x1, EV.nilSlice, EV.nilSlice, EV.int IntKind.i64 x2] ∧ H = []
  · obtain ⟨x0, x1, x2, rfl, rfl⟩ := hx0
    right; intro K
    exact exists_congr fun n => iff_of_eq (law16_OrderTotals.l22X.eq K n x0 x1 x2).symm
  by_cases hx1 : ∃ (x0 : Nat) (x1 : Nat → Nat → Lf) (x2 : Nat) (x3 : Nat) (x4 : Int) (x5 : Nat) (x6 : Nat → Nat → Lf) (x7 : Nat) (x8 : Nat → Nat → Lf), vs = [EV.rsT x0 (Sk.agg [Sk.int IntKind.u64, Sk.int IntKind.u64]) x1, EV.slice 0 0 x2 none 2, EV.slice 1 0 x3 none 2, EV.int IntKind.i64 x4] ∧ H = [some (EV.arrT x5 (Sk.agg [Sk.int IntKind.u64, Sk.int IntKind.u64]) x6), some (EV.arrT x7 (Sk.agg [Sk.int IntKind.u64, Sk.int IntKind.u64]) x8)]
  · obtain ⟨x0, x1, x2, x3, x4, x5, x6, x7, x8, rfl, rfl⟩ := hx1
    right; intro K
    exact exists_congr fun n => iff_of_eq (law16_OrderTotals.l22h1X.eq K n x0 x1 x2 x3 x4 x5 x6 x7 x8).symm
  left; intro K h
  simp only [law16_OrderTotals.l22.entry] at h
  split at h
  · exact hx0 ⟨_, _, _, rfl, rfl⟩
  · exact hx1 ⟨_, _, _, _, _, _, _, _, _, rfl, rfl⟩
  · exact h
theorem law16_OrderTotals.l26X.stepEq (R : List EV → Heap → Prop) (K : Ex → List EV → Heap → Prop) (x0 : Nat) (x1 : Nat → Nat → Lf) (x2 : Int) : loopStep (evCode E_law16_OrderTotals (loopAt Tryd.f10 3) { (LV.mk 0 [(6, 0)] 16 0 false) with nx := live (.loop (loopAt Tryd.f10 3)) (LV.mk 0 [(6, 0)] 16 0 false) }) (live (.loop (loopAt Tryd.f10 3)) (LV.mk 0 [(6, 0)] 16 0 false)) (LV.mk 0 [(6, 0)] 16 0 false) 0 143 R [EV.rsT x0 (Sk.agg [Sk.int IntKind.u64, Sk.int IntKind.u64]) x1, EV.nilSlice, EV.int IntKind.i64 x2] [] K = law16_OrderTotals.l26.step (fun x0 x1 x2 => R [EV.rsT x0 (Sk.agg [Sk.int IntKind.u64, Sk.int IntKind.u64]) x1, EV.nilSlice, EV.int IntKind.i64 x2] []) (K (.exit 6) [] []) x0 x1 x2 := (stepQ_eq _ _ _ _ _ _ _ _ _ _ _).symm.trans (by kernel_rfl)
theorem law16_OrderTotals.l26X.eq (K : Ex → List EV → Heap → Prop) : ∀ (n : Nat) (x0 : Nat) (x1 : Nat → Nat → Lf) (x2 : Int), loopE E_law16_OrderTotals (loopAt Tryd.f10 3) (LV.mk 0 [(6, 0)] 16 0 false) 0 143 K n [EV.rsT x0 (Sk.agg [Sk.int IntKind.u64, Sk.int IntKind.u64]) x1, EV.nilSlice, EV.int IntKind.i64 x2] [] = law16_OrderTotals.l26 (K (.exit 6) [] []) n x0 x1 x2
  | 0, _, _, _ => rfl
  | n + 1, x0, x1, x2 => by
    have ih : (fun (x0 : Nat) (x1 : Nat → Nat → Lf) (x2 : Int) => loopE E_law16_OrderTotals (loopAt Tryd.f10 3) (LV.mk 0 [(6, 0)] 16 0 false) 0 143 K n [EV.rsT x0 (Sk.agg [Sk.int IntKind.u64, Sk.int IntKind.u64]) x1, EV.nilSlice, EV.int IntKind.i64 x2] []) = law16_OrderTotals.l26 (K (.exit 6) [] []) n := by funext x0 x1 x2; exact law16_OrderTotals.l26X.eq K n x0 x1 x2
    show loopStep _ _ _ _ _ (loopE E_law16_OrderTotals (loopAt Tryd.f10 3) (LV.mk 0 [(6, 0)] 16 0 false) 0 143 K n) [EV.rsT x0 (Sk.agg [Sk.int IntKind.u64, Sk.int IntKind.u64]) x1, EV.nilSlice, EV.int IntKind.i64 x2] [] K = law16_OrderTotals.l26.step (law16_OrderTotals.l26 (K (.exit 6) [] []) n) (K (.exit 6) [] []) x0 x1 x2
    rw [← ih]
    exact law16_OrderTotals.l26X.stepEq _ K x0 x1 x2
theorem law16_OrderTotals.l26h1X.stepEq (R : List EV → Heap → Prop) (K : Ex → List EV → Heap → Prop) (x0 : Nat) (x1 : Nat → Nat → Lf) (x2 : Nat) (x3 : Int) (x4 : Nat) (x5 : Nat → Nat → Lf) : loopStep (evCode E_law16_OrderTotals (loopAt Tryd.f10 3) { (LV.mk 0 [(6, 0)] 16 0 false) with nx := live (.loop (loopAt Tryd.f10 3)) (LV.mk 0 [(6, 0)] 16 0 false) }) (live (.loop (loopAt Tryd.f10 3)) (LV.mk 0 [(6, 0)] 16 0 false)) (LV.mk 0 [(6, 0)] 16 0 false) 0 143 R [EV.rsT x0 (Sk.agg [Sk.int IntKind.u64, Sk.int IntKind.u64]) x1, EV.slice 0 0 x2 none 2, EV.int IntKind.i64 x3] [some (EV.arrT x4 (Sk.agg [Sk.int IntKind.u64, Sk.int IntKind.u64]) x5)] K = law16_OrderTotals.l26h1.step (fun x0 x1 x2 x3 x4 x5 => R [EV.rsT x0 (Sk.agg [Sk.int IntKind.u64, Sk.int IntKind.u64]) x1, EV.slice 0 0 x2 none 2, EV.int IntKind.i64 x3] [some (EV.arrT x4 (Sk.agg [Sk.int IntKind.u64, Sk.int IntKind.u64]) x5)]) (fun y0 => K .ret [EV.bool y0] []) (K (.exit 6) [] []) x0 x1 x2 x3 x4 x5 := (stepQ_eq _ _ _ _ _ _ _ _ _ _ _).symm.trans (by kernel_rfl)
theorem law16_OrderTotals.l26h1X.eq (K : Ex → List EV → Heap → Prop) : ∀ (n : Nat) (x0 : Nat) (x1 : Nat → Nat → Lf) (x2 : Nat) (x3 : Int) (x4 : Nat) (x5 : Nat → Nat → Lf), loopE E_law16_OrderTotals (loopAt Tryd.f10 3) (LV.mk 0 [(6, 0)] 16 0 false) 0 143 K n [EV.rsT x0 (Sk.agg [Sk.int IntKind.u64, Sk.int IntKind.u64]) x1, EV.slice 0 0 x2 none 2, EV.int IntKind.i64 x3] [some (EV.arrT x4 (Sk.agg [Sk.int IntKind.u64, Sk.int IntKind.u64]) x5)] = law16_OrderTotals.l26h1 (fun y0 => K .ret [EV.bool y0] []) (K (.exit 6) [] []) n x0 x1 x2 x3 x4 x5
  | 0, _, _, _, _, _, _ => rfl
  | n + 1, x0, x1, x2, x3, x4, x5 => by
    have ih : (fun (x0 : Nat) (x1 : Nat → Nat → Lf) (x2 : Nat) (x3 : Int) (x4 : Nat) (x5 : Nat → Nat → Lf) => loopE E_law16_OrderTotals (loopAt Tryd.f10 3) (LV.mk 0 [(6, 0)] 16 0 false) 0 143 K n [EV.rsT x0 (Sk.agg [Sk.int IntKind.u64, Sk.int IntKind.u64]) x1, EV.slice 0 0 x2 none 2, EV.int IntKind.i64 x3] [some (EV.arrT x4 (Sk.agg [Sk.int IntKind.u64, Sk.int IntKind.u64]) x5)]) = law16_OrderTotals.l26h1 (fun y0 => K .ret [EV.bool y0] []) (K (.exit 6) [] []) n := by funext x0 x1 x2 x3 x4 x5; exact law16_OrderTotals.l26h1X.eq K n x0 x1 x2 x3 x4 x5
    show loopStep _ _ _ _ _ (loopE E_law16_OrderTotals (loopAt Tryd.f10 3) (LV.mk 0 [(6, 0)] 16 0 false) 0 143 K n) [EV.rsT x0 (Sk.agg [Sk.int IntKind.u64, Sk.int IntKind.u64]) x1, EV.slice 0 0 x2 none 2, EV.int IntKind.i64 x3] [some (EV.arrT x4 (Sk.agg [Sk.int IntKind.u64, Sk.int IntKind.u64]) x5)] K = law16_OrderTotals.l26h1.step (law16_OrderTotals.l26h1 (fun y0 => K .ret [EV.bool y0] []) (K (.exit 6) [] []) n) (fun y0 => K .ret [EV.bool y0] []) (K (.exit 6) [] []) x0 x1 x2 x3 x4 x5
    rw [← ih]
    exact law16_OrderTotals.l26h1X.stepEq _ K x0 x1 x2 x3 x4 x5
theorem law16_OrderTotals.l26X.ok : LoopEq E_law16_OrderTotals (loopAt Tryd.f10 3) := by
  intro L hL vs H
  have h1 : E_law16_OrderTotals.lp (firstRegion (loopAt Tryd.f10 3)) = some law16_OrderTotals.l26.entry := by kernel_rfl
  have h2 : L = law16_OrderTotals.l26.entry := Option.some.inj (hL.symm.trans h1)
  subst h2
  by_cases hx0 : ∃ (x0 : Nat) (x1 : Nat → Nat → Lf) (x2 : Int), vs = [EV.rsT x0 (Sk.agg [Sk.int IntKind.u64, Sk.int IntKind.u64]) x1, EV.nilSlice, EV.int IntKind.i64 x2] ∧ H = []
  · obtain ⟨x0, x1, x2, rfl, rfl⟩ := hx0
    right; intro K
    exact exists_congr fun n => iff_of_eq (law16_OrderTotals.l26X.eq K n x0 x1 x2).symm
  by_cases hx1 : ∃ (x0 : Nat) (x1 : Nat → Nat → Lf) (x2 : Nat) (x3 : Int) (x4 : Nat) (x5 : Nat → Nat → Lf), vs = [EV.rsT x0 (Sk.agg [Sk.int IntKind.u64, Sk.int IntKind.u64]) x1, EV.slice 0 0 x2 none 2, EV.int IntKind.i64 x3] ∧ H = [some (EV.arrT x4 (Sk.agg [Sk.int IntKind.u64, Sk.int IntKind.u64]) x5)]
  · obtain ⟨x0, x1, x2, x3, x4, x5, rfl, rfl⟩ := hx1
    right; intro K
    exact exists_congr fun n => iff_of_eq (law16_OrderTotals.l26h1X.eq K n x0 x1 x2 x3 x4 x5).symm
  left; intro K h
  simp only [law16_OrderTotals.l26.entry] at h
  split at h
  · exact hx0 ⟨_, _, _, rfl, rfl⟩
  · exact hx1 ⟨_, _, _, _, _, _, rfl, rfl⟩
  · exact h
theorem X_law16_OrderTotals.eq (a0 : Int) (a1n : Nat) (a1 : Nat → Nat → Lf) (K : EV → Heap → Prop) : evFn E_law16_OrderTotals Tryd.f10 false [.int .u8 a0, .rsT a1n (.agg [.int .u64, .int .u64]) a1] [] K = law16_OrderTotals a0 a1n a1 (fun y0 => K (EV.bool y0) []) := by
  rw [law16_OrderTotals.is]; exact (evFnQ_eq _ _ _ _ _ _).symm.trans (by kernel_rfl)
theorem X_law16_OrderTotals.ok : SoundE Tryd.prog gl 10 e_law16_OrderTotals := by
  refine fnOK (E := E_law16_OrderTotals) (fn := Tryd.f10) rfl tys_ok rfl (show AllL _ l_law16_OrderTotals from ⟨X_order_Total.ok, X_law16_alive.ok, X_r16_FitsT.ok, X_order_Sort.ok, X_r16_Sort.ok, X_r16_Total.ok, trivial⟩) mixed (by kernel_rfl) (by kernel_rfl) (by kernel_rfl) 4 (by kernel_rfl) false ⟨law16_OrderTotals.l11X.ok, law16_OrderTotals.l16X.ok, law16_OrderTotals.l22X.ok, law16_OrderTotals.l26X.ok, trivial⟩ ?_
  intro args H
  by_cases hx : ∃ (a0 : Int) (a1n : Nat) (a1 : Nat → Nat → Lf), args = [.int .u8 a0, .rsT a1n (.agg [.int .u64, .int .u64]) a1] ∧ H = []
  · obtain ⟨a0, a1n, a1, rfl, rfl⟩ := hx
    right; intro K
    exact iff_of_eq (X_law16_OrderTotals.eq a0 a1n a1 K).symm
  · left; intro K h
    simp only [e_law16_OrderTotals] at h
    split at h
    · exact hx ⟨_, _, _, rfl, rfl⟩
    · exact h
end Go.Ev.S
