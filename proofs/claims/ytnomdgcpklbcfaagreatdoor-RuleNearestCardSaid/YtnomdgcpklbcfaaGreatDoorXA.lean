/- The functions of the seat: that the evaluator has them as they are. -/
import Derived.Test.YtnomdgcpklbcfaaGreatDoorProg
import Derived.Test.YtnomdgcpklbcfaaGreatDoorEvC
import Derived.Test.YtnomdgcpklbcfaaGreatDoorDA
import Derived.KernelRfl
set_option maxRecDepth 100000
set_option linter.unusedVariables false
set_option linter.unusedSimpArgs false
namespace Go.Ev.S
open Go Go.Proofs Go.Ev
def tys : List (Nat × TI) := [
 (1, ⟨.func, 1, 8, .nilFunc⟩),
 (2, ⟨.int .i64, 1, 8, .int .i64 0⟩),
 (3, ⟨.int .i64, 1, 8, .int .i64 0⟩),
 (4, ⟨.bool, 1, 1, .bool false⟩),
 (5, ⟨.int .u8, 1, 1, .int .u8 0⟩),
 (6, ⟨.int .u8, 1, 1, .int .u8 0⟩),
 (7, ⟨.struct [(0, 2), (1, 3), (2, 4), (3, 6)], 4, 24, .agg [.int .i64 0, .int .i64 0, .bool false, .int .u8 0]⟩),
 (8, ⟨.struct [(0, 2), (1, 3), (2, 4), (3, 6)], 4, 24, .agg [.int .i64 0, .int .i64 0, .bool false, .int .u8 0]⟩),
 (9, ⟨.str, 1, 16, .str []⟩),
 (10, ⟨.str, 1, 16, .str []⟩),
 (11, ⟨.str, 1, 16, .str []⟩),
 (12, ⟨.int .u64, 1, 8, .int .u64 0⟩),
 (15, ⟨.ptr, 1, 8, .nilPtr⟩),
 (16, ⟨.ptr, 1, 8, .nilPtr⟩),
 (17, ⟨.ptr, 1, 8, .nilPtr⟩),
 (21, ⟨.int .i32, 1, 4, .int .i32 0⟩),
 (22, ⟨.int .u8, 1, 1, .int .u8 0⟩),
 (23, ⟨.int .u8, 1, 1, .int .u8 0⟩),
 (24, ⟨.str, 1, 16, .str []⟩),
 (25, ⟨.struct [(0, 4), (1, 24), (2, 24), (3, 3)], 4, 48, .agg [.bool false, .str [], .str [], .int .i64 0]⟩),
 (26, ⟨.struct [(0, 4), (1, 24), (2, 24), (3, 3)], 4, 48, .agg [.bool false, .str [], .str [], .int .i64 0]⟩),
 (27, ⟨.func, 1, 8, .nilFunc⟩),
 (28, ⟨.func, 1, 8, .nilFunc⟩),
 (29, ⟨.int .u64, 1, 8, .int .u64 0⟩),
 (30, ⟨.struct [(0, 29), (1, 29)], 2, 16, .agg [.int .u64 0, .int .u64 0]⟩),
 (31, ⟨.struct [(0, 29), (1, 29)], 2, 16, .agg [.int .u64 0, .int .u64 0]⟩),
 (32, ⟨.int .u8, 1, 1, .int .u8 0⟩),
 (33, ⟨.int .i64, 1, 8, .int .i64 0⟩),
 (35, ⟨.func, 1, 8, .nilFunc⟩),
 (37, ⟨.func, 1, 8, .nilFunc⟩),
 (38, ⟨.func, 1, 8, .nilFunc⟩),
 (39, ⟨.slice 5, 1, 24, .nilSlice⟩),
 (40, ⟨.func, 1, 8, .nilFunc⟩),
 (42, ⟨.func, 1, 8, .nilFunc⟩),
 (44, ⟨.func, 1, 8, .nilFunc⟩),
 (46, ⟨.func, 1, 8, .nilFunc⟩),
 (47, ⟨.func, 1, 8, .nilFunc⟩),
 (49, ⟨.func, 1, 8, .nilFunc⟩),
 (50, ⟨.func, 1, 8, .nilFunc⟩),
 (51, ⟨.func, 1, 8, .nilFunc⟩),
 (53, ⟨.func, 1, 8, .nilFunc⟩),
 (54, ⟨.func, 1, 8, .nilFunc⟩),
 (56, ⟨.func, 1, 8, .nilFunc⟩),
 (57, ⟨.func, 1, 8, .nilFunc⟩),
 (58, ⟨.func, 1, 8, .nilFunc⟩),
 (59, ⟨.int .u8, 1, 1, .int .u8 0⟩),
 (61, ⟨.func, 1, 8, .nilFunc⟩),
 (63, ⟨.func, 1, 8, .nilFunc⟩),
 (64, ⟨.func, 1, 8, .nilFunc⟩),
 (65, ⟨.struct [(0, 26), (4, 4)], 5, 56, .agg [.agg [.bool false, .str [], .str [], .int .i64 0], .bool false]⟩),
 (66, ⟨.struct [(0, 26), (4, 4)], 5, 56, .agg [.agg [.bool false, .str [], .str [], .int .i64 0], .bool false]⟩),
 (67, ⟨.func, 1, 8, .nilFunc⟩),
 (68, ⟨.func, 1, 8, .nilFunc⟩),
 (70, ⟨.func, 1, 8, .nilFunc⟩),
 (71, ⟨.func, 1, 8, .nilFunc⟩),
 (72, ⟨.func, 1, 8, .nilFunc⟩),
 (73, ⟨.func, 1, 8, .nilFunc⟩),
 (74, ⟨.func, 1, 8, .nilFunc⟩),
 (75, ⟨.func, 1, 8, .nilFunc⟩),
 (76, ⟨.func, 1, 8, .nilFunc⟩),
 (77, ⟨.int .u64, 1, 8, .int .u64 0⟩),
 (78, ⟨.func, 1, 8, .nilFunc⟩),
 (79, ⟨.func, 1, 8, .nilFunc⟩),
 (80, ⟨.func, 1, 8, .nilFunc⟩),
 (81, ⟨.func, 1, 8, .nilFunc⟩),
 (82, ⟨.func, 1, 8, .nilFunc⟩),
 (83, ⟨.func, 1, 8, .nilFunc⟩),
 (84, ⟨.func, 1, 8, .nilFunc⟩),
 (85, ⟨.array 6 29, 6, 48, .arr .u64 6 (fun _ => 0)⟩),
 (86, ⟨.array 6 29, 6, 48, .arr .u64 6 (fun _ => 0)⟩),
 (87, ⟨.func, 1, 8, .nilFunc⟩),
 (89, ⟨.func, 1, 8, .nilFunc⟩),
 (90, ⟨.func, 1, 8, .nilFunc⟩),
 (91, ⟨.func, 1, 8, .nilFunc⟩),
 (92, ⟨.func, 1, 8, .nilFunc⟩),
 (93, ⟨.func, 1, 8, .nilFunc⟩),
 (95, ⟨.func, 1, 8, .nilFunc⟩),
 (96, ⟨.func, 1, 8, .nilFunc⟩),
 (97, ⟨.func, 1, 8, .nilFunc⟩),
 (99, ⟨.func, 1, 8, .nilFunc⟩),
 (100, ⟨.func, 1, 8, .nilFunc⟩),
 (101, ⟨.func, 1, 8, .nilFunc⟩),
 (102, ⟨.func, 1, 8, .nilFunc⟩),
 (103, ⟨.struct [(0, 9), (1, 3), (2, 3), (3, 4)], 4, 40, .agg [.str [], .int .i64 0, .int .i64 0, .bool false]⟩),
 (104, ⟨.struct [(0, 9), (1, 3), (2, 3), (3, 4)], 4, 40, .agg [.str [], .int .i64 0, .int .i64 0, .bool false]⟩),
 (105, ⟨.func, 1, 8, .nilFunc⟩),
 (107, ⟨.func, 1, 8, .nilFunc⟩),
 (108, ⟨.func, 1, 8, .nilFunc⟩),
 (110, ⟨.func, 1, 8, .nilFunc⟩),
 (111, ⟨.func, 1, 8, .nilFunc⟩),
 (113, ⟨.func, 1, 8, .nilFunc⟩),
 (115, ⟨.func, 1, 8, .nilFunc⟩),
 (116, ⟨.struct [(0, 59), (1, 86), (7, 3), (8, 86)], 14, 112, .agg [.int .u8 0, .arr .u64 6 (fun _ => 0), .int .i64 0, .arr .u64 6 (fun _ => 0)]⟩),
 (117, ⟨.struct [(0, 59), (1, 86), (7, 3), (8, 86)], 14, 112, .agg [.int .u8 0, .arr .u64 6 (fun _ => 0), .int .i64 0, .arr .u64 6 (fun _ => 0)]⟩),
 (119, ⟨.func, 1, 8, .nilFunc⟩),
 (120, ⟨.func, 1, 8, .nilFunc⟩),
 (121, ⟨.func, 1, 8, .nilFunc⟩),
 (122, ⟨.func, 1, 8, .nilFunc⟩),
 (123, ⟨.func, 1, 8, .nilFunc⟩),
 (125, ⟨.func, 1, 8, .nilFunc⟩),
 (126, ⟨.struct [(0, 33)], 1, 8, .agg [.int .i64 0]⟩),
 (127, ⟨.struct [(0, 33)], 1, 8, .agg [.int .i64 0]⟩),
 (128, ⟨.func, 1, 8, .nilFunc⟩),
 (130, ⟨.func, 1, 8, .nilFunc⟩),
 (131, ⟨.func, 1, 8, .nilFunc⟩),
 (132, ⟨.func, 1, 8, .nilFunc⟩),
 (133, ⟨.func, 1, 8, .nilFunc⟩),
 (134, ⟨.slice 168, 1, 24, .nilSlice⟩),
 (135, ⟨.func, 1, 8, .nilFunc⟩),
 (136, ⟨.func, 1, 8, .nilFunc⟩),
 (137, ⟨.func, 1, 8, .nilFunc⟩),
 (138, ⟨.func, 1, 8, .nilFunc⟩),
 (140, ⟨.func, 1, 8, .nilFunc⟩),
 (142, ⟨.func, 1, 8, .nilFunc⟩),
 (143, ⟨.func, 1, 8, .nilFunc⟩),
 (145, ⟨.func, 1, 8, .nilFunc⟩),
 (146, ⟨.func, 1, 8, .nilFunc⟩),
 (147, ⟨.func, 1, 8, .nilFunc⟩),
 (148, ⟨.func, 1, 8, .nilFunc⟩),
 (149, ⟨.func, 1, 8, .nilFunc⟩),
 (151, ⟨.func, 1, 8, .nilFunc⟩),
 (153, ⟨.func, 1, 8, .nilFunc⟩),
 (155, ⟨.func, 1, 8, .nilFunc⟩),
 (156, ⟨.func, 1, 8, .nilFunc⟩),
 (157, ⟨.func, 1, 8, .nilFunc⟩),
 (159, ⟨.func, 1, 8, .nilFunc⟩),
 (160, ⟨.func, 1, 8, .nilFunc⟩),
 (161, ⟨.func, 1, 8, .nilFunc⟩),
 (162, ⟨.func, 1, 8, .nilFunc⟩),
 (163, ⟨.func, 1, 8, .nilFunc⟩),
 (164, ⟨.func, 1, 8, .nilFunc⟩),
 (165, ⟨.func, 1, 8, .nilFunc⟩),
 (166, ⟨.struct [(0, 3), (1, 3), (2, 3), (3, 9)], 4, 40, .agg [.int .i64 0, .int .i64 0, .int .i64 0, .str []]⟩),
 (167, ⟨.array 4 166, 16, 160, .agg [.agg [.int .i64 0, .int .i64 0, .int .i64 0, .str []], .agg [.int .i64 0, .int .i64 0, .int .i64 0, .str []], .agg [.int .i64 0, .int .i64 0, .int .i64 0, .str []], .agg [.int .i64 0, .int .i64 0, .int .i64 0, .str []]]⟩),
 (168, ⟨.int .u32, 1, 4, .int .u32 0⟩),
 (169, ⟨.func, 1, 8, .nilFunc⟩),
 (171, ⟨.func, 1, 8, .nilFunc⟩),
 (172, ⟨.ptr, 1, 8, .nilPtr⟩),
 (173, ⟨.func, 1, 8, .nilFunc⟩),
 (174, ⟨.func, 1, 8, .nilFunc⟩),
 (175, ⟨.func, 1, 8, .nilFunc⟩),
 (176, ⟨.func, 1, 8, .nilFunc⟩),
 (177, ⟨.func, 1, 8, .nilFunc⟩),
 (178, ⟨.func, 1, 8, .nilFunc⟩),
 (179, ⟨.func, 1, 8, .nilFunc⟩),
 (180, ⟨.func, 1, 8, .nilFunc⟩),
 (181, ⟨.func, 1, 8, .nilFunc⟩),
 (182, ⟨.func, 1, 8, .nilFunc⟩),
 (183, ⟨.func, 1, 8, .nilFunc⟩),
 (184, ⟨.func, 1, 8, .nilFunc⟩),
 (185, ⟨.func, 1, 8, .nilFunc⟩),
 (186, ⟨.func, 1, 8, .nilFunc⟩),
 (187, ⟨.func, 1, 8, .nilFunc⟩),
 (188, ⟨.func, 1, 8, .nilFunc⟩),
 (189, ⟨.func, 1, 8, .nilFunc⟩),
 (190, ⟨.func, 1, 8, .nilFunc⟩),
 (191, ⟨.func, 1, 8, .nilFunc⟩),
 (193, ⟨.func, 1, 8, .nilFunc⟩),
 (194, ⟨.array 64 5, 64, 64, .arr .u8 64 (fun _ => 0)⟩),
 (195, ⟨.func, 1, 8, .nilFunc⟩),
 (198, ⟨.array 0 16, 0, 0, .agg []⟩),
 (201, ⟨.int .u8, 1, 1, .int .u8 0⟩),
 (202, ⟨.int .u8, 1, 1, .int .u8 0⟩),
 (203, ⟨.func, 1, 8, .nilFunc⟩),
 (204, ⟨.ptr, 1, 8, .nilPtr⟩),
 (205, ⟨.int .i32, 1, 4, .int .i32 0⟩),
 (206, ⟨.int .i32, 1, 4, .int .i32 0⟩)]
theorem tys_ok : yaM (OkTI Tryz.prog) tys :=
 ⟨.of (by kernel_rfl) (by kernel_rfl), .of (by kernel_rfl) (by kernel_rfl), .of (by kernel_rfl) (by kernel_rfl), .of (by kernel_rfl) (by kernel_rfl), .of (by kernel_rfl) (by kernel_rfl), .of (by kernel_rfl) (by kernel_rfl), .of (by kernel_rfl) (by kernel_rfl), .of (by kernel_rfl) (by kernel_rfl), .of (by kernel_rfl) (by kernel_rfl), .of (by kernel_rfl) (by kernel_rfl), .of (by kernel_rfl) (by kernel_rfl), .of (by kernel_rfl) (by kernel_rfl), .of (by kernel_rfl) (by kernel_rfl), .of (by kernel_rfl) (by kernel_rfl), .of (by kernel_rfl) (by kernel_rfl), .of (by kernel_rfl) (by kernel_rfl), .of (by kernel_rfl) (by kernel_rfl), .of (by kernel_rfl) (by kernel_rfl), .of (by kernel_rfl) (by kernel_rfl), .of (by kernel_rfl) (by kernel_rfl), .of (by kernel_rfl) (by kernel_rfl), .of (by kernel_rfl) (by kernel_rfl), .of (by kernel_rfl) (by kernel_rfl), .of (by kernel_rfl) (by kernel_rfl), .of (by kernel_rfl) (by kernel_rfl), .of (by kernel_rfl) (by kernel_rfl), .of (by kernel_rfl) (by kernel_rfl), .of (by kernel_rfl) (by kernel_rfl), .of (by kernel_rfl) (by kernel_rfl), .of (by kernel_rfl) (by kernel_rfl), .of (by kernel_rfl) (by kernel_rfl), .of (by kernel_rfl) (by kernel_rfl), .of (by kernel_rfl) (by kernel_rfl), .of (by kernel_rfl) (by kernel_rfl), .of (by kernel_rfl) (by kernel_rfl), .of (by kernel_rfl) (by kernel_rfl), .of (by kernel_rfl) (by kernel_rfl), .of (by kernel_rfl) (by kernel_rfl), .of (by kernel_rfl) (by kernel_rfl), .of (by kernel_rfl) (by kernel_rfl), .of (by kernel_rfl) (by kernel_rfl), .of (by kernel_rfl) (by kernel_rfl), .of (by kernel_rfl) (by kernel_rfl), .of (by kernel_rfl) (by kernel_rfl), .of (by kernel_rfl) (by kernel_rfl), .of (by kernel_rfl) (by kernel_rfl), .of (by kernel_rfl) (by kernel_rfl), .of (by kernel_rfl) (by kernel_rfl), .of (by kernel_rfl) (by kernel_rfl), .of (by kernel_rfl) (by kernel_rfl), .of (by kernel_rfl) (by kernel_rfl), .of (by kernel_rfl) (by kernel_rfl), .of (by kernel_rfl) (by kernel_rfl), .of (by kernel_rfl) (by kernel_rfl), .of (by kernel_rfl) (by kernel_rfl), .of (by kernel_rfl) (by kernel_rfl), .of (by kernel_rfl) (by kernel_rfl), .of (by kernel_rfl) (by kernel_rfl), .of (by kernel_rfl) (by kernel_rfl), .of (by kernel_rfl) (by kernel_rfl), .of (by kernel_rfl) (by kernel_rfl), .of (by kernel_rfl) (by kernel_rfl), .of (by kernel_rfl) (by kernel_rfl), .of (by kernel_rfl) (by kernel_rfl), .of (by kernel_rfl) (by kernel_rfl), .of (by kernel_rfl) (by kernel_rfl), .of (by kernel_rfl) (by kernel_rfl), .of (by kernel_rfl) (by kernel_rfl), .of (by kernel_rfl) (by kernel_rfl), .of (by kernel_rfl) (by kernel_rfl), .of (by kernel_rfl) (by kernel_rfl), .of (by kernel_rfl) (by kernel_rfl), .of (by kernel_rfl) (by kernel_rfl), .of (by kernel_rfl) (by kernel_rfl), .of (by kernel_rfl) (by kernel_rfl), .of (by kernel_rfl) (by kernel_rfl), .of (by kernel_rfl) (by kernel_rfl), .of (by kernel_rfl) (by kernel_rfl), .of (by kernel_rfl) (by kernel_rfl), .of (by kernel_rfl) (by kernel_rfl), .of (by kernel_rfl) (by kernel_rfl), .of (by kernel_rfl) (by kernel_rfl), .of (by kernel_rfl) (by kernel_rfl), .of (by kernel_rfl) (by kernel_rfl), .of (by kernel_rfl) (by kernel_rfl), .of (by kernel_rfl) (by kernel_rfl), .of (by kernel_rfl) (by kernel_rfl), .of (by kernel_rfl) (by kernel_rfl), .of (by kernel_rfl) (by kernel_rfl), .of (by kernel_rfl) (by kernel_rfl), .of (by kernel_rfl) (by kernel_rfl), .of (by kernel_rfl) (by kernel_rfl), .of (by kernel_rfl) (by kernel_rfl), .of (by kernel_rfl) (by kernel_rfl), .of (by kernel_rfl) (by kernel_rfl), .of (by kernel_rfl) (by kernel_rfl), .of (by kernel_rfl) (by kernel_rfl), .of (by kernel_rfl) (by kernel_rfl), .of (by kernel_rfl) (by kernel_rfl), .of (by kernel_rfl) (by kernel_rfl), .of (by kernel_rfl) (by kernel_rfl), .of (by kernel_rfl) (by kernel_rfl), .of (by kernel_rfl) (by kernel_rfl), .of (by kernel_rfl) (by kernel_rfl), .of (by kernel_rfl) (by kernel_rfl), .of (by kernel_rfl) (by kernel_rfl), .of (by kernel_rfl) (by kernel_rfl), .of (by kernel_rfl) (by kernel_rfl), .of (by kernel_rfl) (by kernel_rfl), .of (by kernel_rfl) (by kernel_rfl), .of (by kernel_rfl) (by kernel_rfl), .of (by kernel_rfl) (by kernel_rfl), .of (by kernel_rfl) (by kernel_rfl), .of (by kernel_rfl) (by kernel_rfl), .of (by kernel_rfl) (by kernel_rfl), .of (by kernel_rfl) (by kernel_rfl), .of (by kernel_rfl) (by kernel_rfl), .of (by kernel_rfl) (by kernel_rfl), .of (by kernel_rfl) (by kernel_rfl), .of (by kernel_rfl) (by kernel_rfl), .of (by kernel_rfl) (by kernel_rfl), .of (by kernel_rfl) (by kernel_rfl), .of (by kernel_rfl) (by kernel_rfl), .of (by kernel_rfl) (by kernel_rfl), .of (by kernel_rfl) (by kernel_rfl), .of (by kernel_rfl) (by kernel_rfl), .of (by kernel_rfl) (by kernel_rfl), .of (by kernel_rfl) (by kernel_rfl), .of (by kernel_rfl) (by kernel_rfl), .of (by kernel_rfl) (by kernel_rfl), .of (by kernel_rfl) (by kernel_rfl), .of (by kernel_rfl) (by kernel_rfl), .of (by kernel_rfl) (by kernel_rfl), .of (by kernel_rfl) (by kernel_rfl), .of (by kernel_rfl) (by kernel_rfl), .of (by kernel_rfl) (by kernel_rfl), .of (by kernel_rfl) (by kernel_rfl), .of (by kernel_rfl) (by kernel_rfl), .of (by kernel_rfl) (by kernel_rfl), .of (by kernel_rfl) (by kernel_rfl), .of (by kernel_rfl) (by kernel_rfl), .of (by kernel_rfl) (by kernel_rfl), .of (by kernel_rfl) (by kernel_rfl), .of (by kernel_rfl) (by kernel_rfl), .of (by kernel_rfl) (by kernel_rfl), .of (by kernel_rfl) (by kernel_rfl), .of (by kernel_rfl) (by kernel_rfl), .of (by kernel_rfl) (by kernel_rfl), .of (by kernel_rfl) (by kernel_rfl), .of (by kernel_rfl) (by kernel_rfl), .of (by kernel_rfl) (by kernel_rfl), .of (by kernel_rfl) (by kernel_rfl), .of (by kernel_rfl) (by kernel_rfl), .of (by kernel_rfl) (by kernel_rfl), .of (by kernel_rfl) (by kernel_rfl), .of (by kernel_rfl) (by kernel_rfl), .of (by kernel_rfl) (by kernel_rfl), .of (by kernel_rfl) (by kernel_rfl), .of (by kernel_rfl) (by kernel_rfl), .of (by kernel_rfl) (by kernel_rfl), .of (by kernel_rfl) (by kernel_rfl), .of (by kernel_rfl) (by kernel_rfl), .of (by kernel_rfl) (by kernel_rfl), .of (by kernel_rfl) (by kernel_rfl), .of (by kernel_rfl) (by kernel_rfl), .of (by kernel_rfl) (by kernel_rfl), .of (by kernel_rfl) (by kernel_rfl), trivial⟩
theorem mixed : Tryz.prog.follows .mixedOrders = true := by kernel_rfl
noncomputable def gl : Nat → Option EV := look [(0, .arr .u8 64 ybk)]
noncomputable def e_zbd : Entry := ⟨[none], false, fun args H K => match args, H with
 | [.agg [.bool a0_0, .str a0_1, .str a0_2, .int .i64 a0_3]], [] => zbd a0_0 a0_1 a0_2 a0_3 (fun y0 => K (EV.bool y0) [])
 | _, _ => False⟩
noncomputable def E_zbd : Env := ⟨look tys, look [], look [], gl, yaq [], false⟩
theorem X_zbd.eq (a0_0 : Bool) (a0_1 : List UInt8) (a0_2 : List UInt8) (a0_3 : Int) (K : EV → yae → Prop) : yaK E_zbd Tryz.f9 false [.agg [.bool a0_0, .str a0_1, .str a0_2, .int .i64 a0_3]] [] K = zbd a0_0 a0_1 a0_2 a0_3 (fun y0 => K (EV.bool y0) []) := by
 rw [zbd.is]; exact (yac _ _ _ _ _ _).symm.trans (by kernel_rfl)
theorem X_zbd.ok : SoundE Tryz.prog gl 9 e_zbd := by
 refine yaO (E := E_zbd) (fn := Tryz.f9) rfl tys_ok rfl (show yaM _ [] from trivial) mixed (by kernel_rfl) (by kernel_rfl) (by kernel_rfl) 0 (by kernel_rfl) false trivial ?_
 intro args H
 by_cases hx : ∃ (a0_0 : Bool) (a0_1 : List UInt8) (a0_2 : List UInt8) (a0_3 : Int), args = [.agg [.bool a0_0, .str a0_1, .str a0_2, .int .i64 a0_3]] ∧ H = []
 ·obtain ⟨a0_0, a0_1, a0_2, a0_3, rfl, rfl⟩ := hx
  right; intro K
  exact iff_of_eq (X_zbd.eq a0_0 a0_1 a0_2 a0_3 K).symm
 ·left; intro K h
  simp only [e_zbd] at h
  split at h
  ·exact hx ⟨_, _, _, _, rfl, rfl⟩
  ·exact h
noncomputable def e_zao : Entry := ⟨[], false, fun args H K => match args, H with
 | [], [] => zao  (fun y0 y1 y2 y3 => K (EV.agg [EV.bool y0, EV.str y1, EV.str y2, EV.int .i64 y3]) [])
 | _, _ => False⟩
noncomputable def E_zao : Env := ⟨look tys, look [], look [], gl, yaq [], false⟩
theorem X_zao.eq (K : EV → yae → Prop) : yaK E_zao Tryz.f47 false [] [] K = zao  (fun y0 y1 y2 y3 => K (EV.agg [EV.bool y0, EV.str y1, EV.str y2, EV.int .i64 y3]) []) := by
 rw [zao.is]; exact (yac _ _ _ _ _ _).symm.trans (by kernel_rfl)
theorem X_zao.ok : SoundE Tryz.prog gl 47 e_zao := by
 refine yaO (E := E_zao) (fn := Tryz.f47) rfl tys_ok rfl (show yaM _ [] from trivial) mixed (by kernel_rfl) (by kernel_rfl) (by kernel_rfl) 0 (by kernel_rfl) false trivial ?_
 intro args H
 by_cases hx : args = [] ∧ H = []
 ·obtain ⟨rfl, rfl⟩ := hx
  right; intro K
  exact iff_of_eq (X_zao.eq  K).symm
 ·left; intro K h
  simp only [e_zao] at h
  split at h
  ·exact hx ⟨rfl, rfl⟩
  ·exact h
noncomputable def e_zbg : Entry := ⟨[none], false, fun args H K => match args, H with
 | [.str a0], [] => zbg a0 (fun y0 => K (EV.int .i64 y0) [])
 | _, _ => False⟩
noncomputable def E_zbg : Env := ⟨look tys, look [], look [], gl, yaq [], false⟩
theorem X_zbg.eq (a0 : List UInt8) (K : EV → yae → Prop) : yaK E_zbg Tryz.f84 false [.str a0] [] K = zbg a0 (fun y0 => K (EV.int .i64 y0) []) := by
 rw [zbg.is]; exact (yac _ _ _ _ _ _).symm.trans (by kernel_rfl)
theorem X_zbg.ok : SoundE Tryz.prog gl 84 e_zbg := by
 refine yaO (E := E_zbg) (fn := Tryz.f84) rfl tys_ok rfl (show yaM _ [] from trivial) mixed (by kernel_rfl) (by kernel_rfl) (by kernel_rfl) 0 (by kernel_rfl) false trivial ?_
 intro args H
 by_cases hx : ∃ (a0 : List UInt8), args = [.str a0] ∧ H = []
 ·obtain ⟨a0, rfl, rfl⟩ := hx
  right; intro K
  exact iff_of_eq (X_zbg.eq a0 K).symm
 ·left; intro K h
  simp only [e_zbg] at h
  split at h
  ·exact hx ⟨_, rfl, rfl⟩
  ·exact h
noncomputable def e_zap : Entry := ⟨[none], false, fun args H K => match args, H with
 | [.str a0], [] => zap a0 (fun y0 => K (EV.bool y0) [])
 | _, _ => False⟩
noncomputable def E_zap : Env := ⟨look tys, look [], look [], gl, yaq [], false⟩
theorem X_zap.eq (a0 : List UInt8) (K : EV → yae → Prop) : yaK E_zap Tryz.f85 false [.str a0] [] K = zap a0 (fun y0 => K (EV.bool y0) []) := by
 rw [zap.is]; exact (yac _ _ _ _ _ _).symm.trans (by kernel_rfl)
theorem X_zap.ok : SoundE Tryz.prog gl 85 e_zap := by
 refine yaO (E := E_zap) (fn := Tryz.f85) rfl tys_ok rfl (show yaM _ [] from trivial) mixed (by kernel_rfl) (by kernel_rfl) (by kernel_rfl) 0 (by kernel_rfl) false trivial ?_
 intro args H
 by_cases hx : ∃ (a0 : List UInt8), args = [.str a0] ∧ H = []
 ·obtain ⟨a0, rfl, rfl⟩ := hx
  right; intro K
  exact iff_of_eq (X_zap.eq a0 K).symm
 ·left; intro K h
  simp only [e_zap] at h
  split at h
  ·exact hx ⟨_, rfl, rfl⟩
  ·exact h
noncomputable def e_zas : Entry := ⟨[none], false, fun args H K => match args, H with
 | [.int .i64 a0], [] => zas a0 (fun y0 => K (EV.bool y0) [])
 | _, _ => False⟩
noncomputable def E_zas : Env := ⟨look tys, look [], look [], gl, yaq [], false⟩
theorem X_zas.eq (a0 : Int) (K : EV → yae → Prop) : yaK E_zas Tryz.f86 false [.int .i64 a0] [] K = zas a0 (fun y0 => K (EV.bool y0) []) := by
 rw [zas.is]; exact (yac _ _ _ _ _ _).symm.trans (by kernel_rfl)
theorem X_zas.ok : SoundE Tryz.prog gl 86 e_zas := by
 refine yaO (E := E_zas) (fn := Tryz.f86) rfl tys_ok rfl (show yaM _ [] from trivial) mixed (by kernel_rfl) (by kernel_rfl) (by kernel_rfl) 0 (by kernel_rfl) false trivial ?_
 intro args H
 by_cases hx : ∃ (a0 : Int), args = [.int .i64 a0] ∧ H = []
 ·obtain ⟨a0, rfl, rfl⟩ := hx
  right; intro K
  exact iff_of_eq (X_zas.eq a0 K).symm
 ·left; intro K h
  simp only [e_zas] at h
  split at h
  ·exact hx ⟨_, rfl, rfl⟩
  ·exact h
noncomputable def e_zcc : Entry := ⟨[none, none], false, fun args H K => match args, H with
 | [.str a0, .str a1], [] => zcc a0 a1 (fun y0 => K (EV.bool y0) [])
 | _, _ => False⟩
noncomputable def l_zcc : List (Nat × Entry) := [(84, e_zbg)]
noncomputable def E_zcc : Env := ⟨look tys, look l_zcc, look [], gl, yaq [], false⟩
theorem X_zcc.eq (a0 : List UInt8) (a1 : List UInt8) (K : EV → yae → Prop) : yaK E_zcc Tryz.f94 false [.str a0, .str a1] [] K = zcc a0 a1 (fun y0 => K (EV.bool y0) []) := by
 rw [zcc.is]; exact (yac _ _ _ _ _ _).symm.trans (by kernel_rfl)
theorem X_zcc.ok : SoundE Tryz.prog gl 94 e_zcc := by
 refine yaO (E := E_zcc) (fn := Tryz.f94) rfl tys_ok rfl (show yaM _ l_zcc from ⟨X_zbg.ok, trivial⟩) mixed (by kernel_rfl) (by kernel_rfl) (by kernel_rfl) 0 (by kernel_rfl) false trivial ?_
 intro args H
 by_cases hx : ∃ (a0 : List UInt8) (a1 : List UInt8), args = [.str a0, .str a1] ∧ H = []
 ·obtain ⟨a0, a1, rfl, rfl⟩ := hx
  right; intro K
  exact iff_of_eq (X_zcc.eq a0 a1 K).symm
 ·left; intro K h
  simp only [e_zcc] at h
  split at h
  ·exact hx ⟨_, _, rfl, rfl⟩
  ·exact h
noncomputable def e_zci : Entry := ⟨[none], false, fun args H K => match args, H with
 | [.str a0], [] => zci a0 (fun y0 y1 => K (EV.rsI .u32 y0 y1) [])
 | _, _ => False⟩
noncomputable def E_zci : Env := ⟨look tys, look [], look [(3, zci.l3.entry)], gl, yaq [], false⟩
theorem zci.l3X.stepEq (R : List EV → yae → Prop) (K : Ex → List EV → yae → Prop) (x0 : List UInt8) (x1 : Nat) (x2 : Nat) (x3 : Int) (x4 : Int) (x5 : Nat) (x6 : Nat → Int) : yah (yap E_zci (yaa Tryz.f96 0) { (LV.mk 8 [(0, 8)] 4 0 false) with nx := live (.loop (yaa Tryz.f96 0)) (LV.mk 8 [(0, 8)] 4 0 false) }) (live (.loop (yaa Tryz.f96 0)) (LV.mk 8 [(0, 8)] 4 0 false)) (LV.mk 8 [(0, 8)] 4 0 false) 0 37 R [EV.str x0, EV.slice 0 0 x1 (some x2) 1, EV.int .i64 x3, EV.int .i64 x4] [some (EV.arr .u32 x5 x6)] K = zci.l3.step (fun x0 x1 x2 x3 x4 x5 x6 => R [EV.str x0, EV.slice 0 0 x1 (some x2) 1, EV.int .i64 x3, EV.int .i64 x4] [some (EV.arr .u32 x5 x6)]) (fun y0 y1 y2 y3 => K (.exit 0) [EV.slice 0 0 y0 (some y1) 1] [some (EV.arr .u32 y2 y3)]) x0 x1 x2 x3 x4 x5 x6 := (yav _ _ _ _ _ _ _ _ _ _ _).symm.trans (by kernel_rfl)
theorem zci.l3X.eq (K : Ex → List EV → yae → Prop) : ∀ (n : Nat) (x0 : List UInt8) (x1 : Nat) (x2 : Nat) (x3 : Int) (x4 : Int) (x5 : Nat) (x6 : Nat → Int), yar E_zci (yaa Tryz.f96 0) (LV.mk 8 [(0, 8)] 4 0 false) 0 37 K n [EV.str x0, EV.slice 0 0 x1 (some x2) 1, EV.int .i64 x3, EV.int .i64 x4] [some (EV.arr .u32 x5 x6)] = zci.l3 (fun y0 y1 y2 y3 => K (.exit 0) [EV.slice 0 0 y0 (some y1) 1] [some (EV.arr .u32 y2 y3)]) n x0 x1 x2 x3 x4 x5 x6
 | 0, _, _, _, _, _, _, _ => rfl
 | n + 1, x0, x1, x2, x3, x4, x5, x6 => by
  have ih : (fun (x0 : List UInt8) (x1 : Nat) (x2 : Nat) (x3 : Int) (x4 : Int) (x5 : Nat) (x6 : Nat → Int) => yar E_zci (yaa Tryz.f96 0) (LV.mk 8 [(0, 8)] 4 0 false) 0 37 K n [EV.str x0, EV.slice 0 0 x1 (some x2) 1, EV.int .i64 x3, EV.int .i64 x4] [some (EV.arr .u32 x5 x6)]) = zci.l3 (fun y0 y1 y2 y3 => K (.exit 0) [EV.slice 0 0 y0 (some y1) 1] [some (EV.arr .u32 y2 y3)]) n := by funext x0 x1 x2 x3 x4 x5 x6; exact zci.l3X.eq K n x0 x1 x2 x3 x4 x5 x6
  show yah _ _ _ _ _ (yar E_zci (yaa Tryz.f96 0) (LV.mk 8 [(0, 8)] 4 0 false) 0 37 K n) [EV.str x0, EV.slice 0 0 x1 (some x2) 1, EV.int .i64 x3, EV.int .i64 x4] [some (EV.arr .u32 x5 x6)] K = zci.l3.step (zci.l3 (fun y0 y1 y2 y3 => K (.exit 0) [EV.slice 0 0 y0 (some y1) 1] [some (EV.arr .u32 y2 y3)]) n) (fun y0 y1 y2 y3 => K (.exit 0) [EV.slice 0 0 y0 (some y1) 1] [some (EV.arr .u32 y2 y3)]) x0 x1 x2 x3 x4 x5 x6
  rw [← ih]
  exact zci.l3X.stepEq _ K x0 x1 x2 x3 x4 x5 x6
theorem zci.l3X.ok : LoopEq E_zci (yaa Tryz.f96 0) := by
 intro L hL vs H
 have h1 : E_zci.lp (yag (yaa Tryz.f96 0)) = some zci.l3.entry := by kernel_rfl
 have h2 : L = zci.l3.entry := Option.some.inj (hL.symm.trans h1)
 subst h2
 by_cases hx : ∃ (x0 : List UInt8) (x1 : Nat) (x2 : Nat) (x3 : Int) (x4 : Int) (x5 : Nat) (x6 : Nat → Int), vs = [EV.str x0, EV.slice 0 0 x1 (some x2) 1, EV.int .i64 x3, EV.int .i64 x4] ∧ H = [some (EV.arr .u32 x5 x6)]
 ·obtain ⟨x0, x1, x2, x3, x4, x5, x6, rfl, rfl⟩ := hx
  right; intro K
  exact exists_congr fun n => iff_of_eq (zci.l3X.eq K n x0 x1 x2 x3 x4 x5 x6).symm
 ·left; intro K h
  simp only [zci.l3.entry] at h
  split at h
  ·exact hx ⟨_, _, _, _, _, _, _, rfl, rfl⟩
  ·exact h
theorem X_zci.eq (a0 : List UInt8) (K : EV → yae → Prop) : yaK E_zci Tryz.f96 false [.str a0] [] K = zci a0 (fun y0 y1 => K (EV.rsI .u32 y0 y1) []) := by
 rw [zci.is]; exact (yac _ _ _ _ _ _).symm.trans (by kernel_rfl)
theorem X_zci.ok : SoundE Tryz.prog gl 96 e_zci := by
 refine yaO (E := E_zci) (fn := Tryz.f96) rfl tys_ok rfl (show yaM _ [] from trivial) mixed (by kernel_rfl) (by kernel_rfl) (by kernel_rfl) 1 (by kernel_rfl) false ⟨zci.l3X.ok, trivial⟩ ?_
 intro args H
 by_cases hx : ∃ (a0 : List UInt8), args = [.str a0] ∧ H = []
 ·obtain ⟨a0, rfl, rfl⟩ := hx
  right; intro K
  exact iff_of_eq (X_zci.eq a0 K).symm
 ·left; intro K h
  simp only [e_zci] at h
  split at h
  ·exact hx ⟨_, rfl, rfl⟩
  ·exact h
noncomputable def e_zbw : Entry := ⟨[none], true, fun args H K => match args, H with
 | [.rsI .u32 a0n a0], [] => zbw a0n a0 (fun y0 y1 => K (EV.rsI .u32 y0 y1) [])
 | _, _ => False⟩
noncomputable def e_zbv : Entry := ⟨[none], true, fun args H K => match args, H with
 | [.slice 0 0 a0l (some a0c) 1], [some (.arr .u32 a0n a0)] => zbv a0l a0c a0n a0 (fun y0 y1 y2 y3 => K (EV.slice 0 0 y0 (some y1) 1) [some (EV.arr .u32 y2 y3)])
 | _, _ => False⟩
noncomputable def e_zbu : Entry := ⟨[none], true, fun args H K => match args, H with
 | [.slice 0 0 a0l none 1], [some (.arr .u32 a0n a0)] => zbu a0l a0n a0 (fun y0 y1 y2 => K (EV.slice 0 0 y0 none 1) [some (EV.arr .u32 y1 y2)])
 | _, _ => False⟩
noncomputable def e_nat_cut : Entry := Entry.pick (fun args H => match args, H with | [.rsI .u32 a0n a0], [] => true | _, _ => false) e_zbw (Entry.pick (fun args H => match args, H with | [.slice 0 0 a0l (some a0c) 1], [some (.arr .u32 a0n a0)] => true | _, _ => false) e_zbv (e_zbu))
noncomputable def E_zbw : Env := ⟨look tys, look [], look [(1, zbw.l1.entry)], gl, yaq [], false⟩
theorem zbw.l1X.stepEq (R : List EV → yae → Prop) (K : Ex → List EV → yae → Prop) (x0 : Nat) (x1 : Nat → Int) : yah (yap E_zbw (yaa Tryz.f172 0) { (LV.mk 1 [(0, 1)] 4 0 false) with nx := live (.loop (yaa Tryz.f172 0)) (LV.mk 1 [(0, 1)] 4 0 false) }) (live (.loop (yaa Tryz.f172 0)) (LV.mk 1 [(0, 1)] 4 0 false)) (LV.mk 1 [(0, 1)] 4 0 false) 0 21 R [EV.rsI .u32 x0 x1] [] K = zbw.l1.step (fun x0 x1 => R [EV.rsI .u32 x0 x1] []) (fun y0 y1 => K (.exit 0) [EV.rsI .u32 y0 y1] []) x0 x1 := (yav _ _ _ _ _ _ _ _ _ _ _).symm.trans (by kernel_rfl)
theorem zbw.l1X.eq (K : Ex → List EV → yae → Prop) : ∀ (n : Nat) (x0 : Nat) (x1 : Nat → Int), yar E_zbw (yaa Tryz.f172 0) (LV.mk 1 [(0, 1)] 4 0 false) 0 21 K n [EV.rsI .u32 x0 x1] [] = zbw.l1 (fun y0 y1 => K (.exit 0) [EV.rsI .u32 y0 y1] []) n x0 x1
 | 0, _, _ => rfl
 | n + 1, x0, x1 => by
  have ih : (fun (x0 : Nat) (x1 : Nat → Int) => yar E_zbw (yaa Tryz.f172 0) (LV.mk 1 [(0, 1)] 4 0 false) 0 21 K n [EV.rsI .u32 x0 x1] []) = zbw.l1 (fun y0 y1 => K (.exit 0) [EV.rsI .u32 y0 y1] []) n := by funext x0 x1; exact zbw.l1X.eq K n x0 x1
  show yah _ _ _ _ _ (yar E_zbw (yaa Tryz.f172 0) (LV.mk 1 [(0, 1)] 4 0 false) 0 21 K n) [EV.rsI .u32 x0 x1] [] K = zbw.l1.step (zbw.l1 (fun y0 y1 => K (.exit 0) [EV.rsI .u32 y0 y1] []) n) (fun y0 y1 => K (.exit 0) [EV.rsI .u32 y0 y1] []) x0 x1
  rw [← ih]
  exact zbw.l1X.stepEq _ K x0 x1
theorem zbw.l1X.ok : LoopEq E_zbw (yaa Tryz.f172 0) := by
 intro L hL vs H
 have h1 : E_zbw.lp (yag (yaa Tryz.f172 0)) = some zbw.l1.entry := by kernel_rfl
 have h2 : L = zbw.l1.entry := Option.some.inj (hL.symm.trans h1)
 subst h2
 by_cases hx : ∃ (x0 : Nat) (x1 : Nat → Int), vs = [EV.rsI .u32 x0 x1] ∧ H = []
 ·obtain ⟨x0, x1, rfl, rfl⟩ := hx
  right; intro K
  exact exists_congr fun n => iff_of_eq (zbw.l1X.eq K n x0 x1).symm
 ·left; intro K h
  simp only [zbw.l1.entry] at h
  split at h
  ·exact hx ⟨_, _, rfl, rfl⟩
  ·exact h
theorem X_zbw.eq (a0n : Nat) (a0 : Nat → Int) (K : EV → yae → Prop) : yaK E_zbw Tryz.f172 true [.rsI .u32 a0n a0] [] K = zbw a0n a0 (fun y0 y1 => K (EV.rsI .u32 y0 y1) []) := by
 rw [zbw.is]; exact (yac _ _ _ _ _ _).symm.trans (by kernel_rfl)
theorem X_zbw.ok : SoundE Tryz.prog gl 172 e_zbw := by
 refine yaO (E := E_zbw) (fn := Tryz.f172) rfl tys_ok rfl (show yaM _ [] from trivial) mixed (by kernel_rfl) (by kernel_rfl) (by kernel_rfl) 1 (by kernel_rfl) true ⟨zbw.l1X.ok, trivial⟩ ?_
 intro args H
 by_cases hx : ∃ (a0n : Nat) (a0 : Nat → Int), args = [.rsI .u32 a0n a0] ∧ H = []
 ·obtain ⟨a0n, a0, rfl, rfl⟩ := hx
  right; intro K
  exact iff_of_eq (X_zbw.eq a0n a0 K).symm
 ·left; intro K h
  simp only [e_zbw] at h
  split at h
  ·exact hx ⟨_, _, rfl, rfl⟩
  ·exact h
noncomputable def E_zbv : Env := ⟨look tys, look [], look [(1, zbv.l1.entry)], gl, yaq [], false⟩
theorem zbv.l1X.stepEq (R : List EV → yae → Prop) (K : Ex → List EV → yae → Prop) (x0 : Nat) (x1 : Nat) (x2 : Nat) (x3 : Nat → Int) : yah (yap E_zbv (yaa Tryz.f172 0) { (LV.mk 1 [(0, 1)] 4 1 false) with nx := live (.loop (yaa Tryz.f172 0)) (LV.mk 1 [(0, 1)] 4 1 false) }) (live (.loop (yaa Tryz.f172 0)) (LV.mk 1 [(0, 1)] 4 1 false)) (LV.mk 1 [(0, 1)] 4 1 false) 1 21 R [EV.slice 0 0 x0 (some x1) 1] [some (EV.arr .u32 x2 x3)] K = zbv.l1.step (fun x0 x1 x2 x3 => R [EV.slice 0 0 x0 (some x1) 1] [some (EV.arr .u32 x2 x3)]) (fun y0 y1 y2 y3 => K (.exit 0) [EV.slice 0 0 y0 (some y1) 1] [some (EV.arr .u32 y2 y3)]) x0 x1 x2 x3 := (yav _ _ _ _ _ _ _ _ _ _ _).symm.trans (by kernel_rfl)
theorem zbv.l1X.eq (K : Ex → List EV → yae → Prop) : ∀ (n : Nat) (x0 : Nat) (x1 : Nat) (x2 : Nat) (x3 : Nat → Int), yar E_zbv (yaa Tryz.f172 0) (LV.mk 1 [(0, 1)] 4 1 false) 1 21 K n [EV.slice 0 0 x0 (some x1) 1] [some (EV.arr .u32 x2 x3)] = zbv.l1 (fun y0 y1 y2 y3 => K (.exit 0) [EV.slice 0 0 y0 (some y1) 1] [some (EV.arr .u32 y2 y3)]) n x0 x1 x2 x3
 | 0, _, _, _, _ => rfl
 | n + 1, x0, x1, x2, x3 => by
  have ih : (fun (x0 : Nat) (x1 : Nat) (x2 : Nat) (x3 : Nat → Int) => yar E_zbv (yaa Tryz.f172 0) (LV.mk 1 [(0, 1)] 4 1 false) 1 21 K n [EV.slice 0 0 x0 (some x1) 1] [some (EV.arr .u32 x2 x3)]) = zbv.l1 (fun y0 y1 y2 y3 => K (.exit 0) [EV.slice 0 0 y0 (some y1) 1] [some (EV.arr .u32 y2 y3)]) n := by funext x0 x1 x2 x3; exact zbv.l1X.eq K n x0 x1 x2 x3
  show yah _ _ _ _ _ (yar E_zbv (yaa Tryz.f172 0) (LV.mk 1 [(0, 1)] 4 1 false) 1 21 K n) [EV.slice 0 0 x0 (some x1) 1] [some (EV.arr .u32 x2 x3)] K = zbv.l1.step (zbv.l1 (fun y0 y1 y2 y3 => K (.exit 0) [EV.slice 0 0 y0 (some y1) 1] [some (EV.arr .u32 y2 y3)]) n) (fun y0 y1 y2 y3 => K (.exit 0) [EV.slice 0 0 y0 (some y1) 1] [some (EV.arr .u32 y2 y3)]) x0 x1 x2 x3
  rw [← ih]
  exact zbv.l1X.stepEq _ K x0 x1 x2 x3
theorem zbv.l1X.ok : LoopEq E_zbv (yaa Tryz.f172 0) := by
 intro L hL vs H
 have h1 : E_zbv.lp (yag (yaa Tryz.f172 0)) = some zbv.l1.entry := by kernel_rfl
 have h2 : L = zbv.l1.entry := Option.some.inj (hL.symm.trans h1)
 subst h2
 by_cases hx : ∃ (x0 : Nat) (x1 : Nat) (x2 : Nat) (x3 : Nat → Int), vs = [EV.slice 0 0 x0 (some x1) 1] ∧ H = [some (EV.arr .u32 x2 x3)]
 ·obtain ⟨x0, x1, x2, x3, rfl, rfl⟩ := hx
  right; intro K
  exact exists_congr fun n => iff_of_eq (zbv.l1X.eq K n x0 x1 x2 x3).symm
 ·left; intro K h
  simp only [zbv.l1.entry] at h
  split at h
  ·exact hx ⟨_, _, _, _, rfl, rfl⟩
  ·exact h
theorem X_zbv.eq (a0l : Nat) (a0c : Nat) (a0n : Nat) (a0 : Nat → Int) (K : EV → yae → Prop) : yaK E_zbv Tryz.f172 true [.slice 0 0 a0l (some a0c) 1] [some (.arr .u32 a0n a0)] K = zbv a0l a0c a0n a0 (fun y0 y1 y2 y3 => K (EV.slice 0 0 y0 (some y1) 1) [some (EV.arr .u32 y2 y3)]) := by
 rw [zbv.is]; exact (yac _ _ _ _ _ _).symm.trans (by kernel_rfl)
theorem X_zbv.ok : SoundE Tryz.prog gl 172 e_zbv := by
 refine yaO (E := E_zbv) (fn := Tryz.f172) rfl tys_ok rfl (show yaM _ [] from trivial) mixed (by kernel_rfl) (by kernel_rfl) (by kernel_rfl) 1 (by kernel_rfl) true ⟨zbv.l1X.ok, trivial⟩ ?_
 intro args H
 by_cases hx : ∃ (a0l : Nat) (a0c : Nat) (a0n : Nat) (a0 : Nat → Int), args = [.slice 0 0 a0l (some a0c) 1] ∧ H = [some (.arr .u32 a0n a0)]
 ·obtain ⟨a0l, a0c, a0n, a0, rfl, rfl⟩ := hx
  right; intro K
  exact iff_of_eq (X_zbv.eq a0l a0c a0n a0 K).symm
 ·left; intro K h
  simp only [e_zbv] at h
  split at h
  ·exact hx ⟨_, _, _, _, rfl, rfl⟩
  ·exact h
noncomputable def E_zbu : Env := ⟨look tys, look [], look [(1, zbu.l1.entry)], gl, yaq [], false⟩
theorem zbu.l1X.stepEq (R : List EV → yae → Prop) (K : Ex → List EV → yae → Prop) (x0 : Nat) (x1 : Nat) (x2 : Nat → Int) : yah (yap E_zbu (yaa Tryz.f172 0) { (LV.mk 1 [(0, 1)] 4 1 false) with nx := live (.loop (yaa Tryz.f172 0)) (LV.mk 1 [(0, 1)] 4 1 false) }) (live (.loop (yaa Tryz.f172 0)) (LV.mk 1 [(0, 1)] 4 1 false)) (LV.mk 1 [(0, 1)] 4 1 false) 1 21 R [EV.slice 0 0 x0 none 1] [some (EV.arr .u32 x1 x2)] K = zbu.l1.step (fun x0 x1 x2 => R [EV.slice 0 0 x0 none 1] [some (EV.arr .u32 x1 x2)]) (fun y0 y1 y2 => K (.exit 0) [EV.slice 0 0 y0 none 1] [some (EV.arr .u32 y1 y2)]) x0 x1 x2 := (yav _ _ _ _ _ _ _ _ _ _ _).symm.trans (by kernel_rfl)
theorem zbu.l1X.eq (K : Ex → List EV → yae → Prop) : ∀ (n : Nat) (x0 : Nat) (x1 : Nat) (x2 : Nat → Int), yar E_zbu (yaa Tryz.f172 0) (LV.mk 1 [(0, 1)] 4 1 false) 1 21 K n [EV.slice 0 0 x0 none 1] [some (EV.arr .u32 x1 x2)] = zbu.l1 (fun y0 y1 y2 => K (.exit 0) [EV.slice 0 0 y0 none 1] [some (EV.arr .u32 y1 y2)]) n x0 x1 x2
 | 0, _, _, _ => rfl
 | n + 1, x0, x1, x2 => by
  have ih : (fun (x0 : Nat) (x1 : Nat) (x2 : Nat → Int) => yar E_zbu (yaa Tryz.f172 0) (LV.mk 1 [(0, 1)] 4 1 false) 1 21 K n [EV.slice 0 0 x0 none 1] [some (EV.arr .u32 x1 x2)]) = zbu.l1 (fun y0 y1 y2 => K (.exit 0) [EV.slice 0 0 y0 none 1] [some (EV.arr .u32 y1 y2)]) n := by funext x0 x1 x2; exact zbu.l1X.eq K n x0 x1 x2
  show yah _ _ _ _ _ (yar E_zbu (yaa Tryz.f172 0) (LV.mk 1 [(0, 1)] 4 1 false) 1 21 K n) [EV.slice 0 0 x0 none 1] [some (EV.arr .u32 x1 x2)] K = zbu.l1.step (zbu.l1 (fun y0 y1 y2 => K (.exit 0) [EV.slice 0 0 y0 none 1] [some (EV.arr .u32 y1 y2)]) n) (fun y0 y1 y2 => K (.exit 0) [EV.slice 0 0 y0 none 1] [some (EV.arr .u32 y1 y2)]) x0 x1 x2
  rw [← ih]
  exact zbu.l1X.stepEq _ K x0 x1 x2
theorem zbu.l1X.ok : LoopEq E_zbu (yaa Tryz.f172 0) := by
 intro L hL vs H
 have h1 : E_zbu.lp (yag (yaa Tryz.f172 0)) = some zbu.l1.entry := by kernel_rfl
 have h2 : L = zbu.l1.entry := Option.some.inj (hL.symm.trans h1)
 subst h2
 by_cases hx : ∃ (x0 : Nat) (x1 : Nat) (x2 : Nat → Int), vs = [EV.slice 0 0 x0 none 1] ∧ H = [some (EV.arr .u32 x1 x2)]
 ·obtain ⟨x0, x1, x2, rfl, rfl⟩ := hx
  right; intro K
  exact exists_congr fun n => iff_of_eq (zbu.l1X.eq K n x0 x1 x2).symm
 ·left; intro K h
  simp only [zbu.l1.entry] at h
  split at h
  ·exact hx ⟨_, _, _, rfl, rfl⟩
  ·exact h
theorem X_zbu.eq (a0l : Nat) (a0n : Nat) (a0 : Nat → Int) (K : EV → yae → Prop) : yaK E_zbu Tryz.f172 true [.slice 0 0 a0l none 1] [some (.arr .u32 a0n a0)] K = zbu a0l a0n a0 (fun y0 y1 y2 => K (EV.slice 0 0 y0 none 1) [some (EV.arr .u32 y1 y2)]) := by
 rw [zbu.is]; exact (yac _ _ _ _ _ _).symm.trans (by kernel_rfl)
theorem X_zbu.ok : SoundE Tryz.prog gl 172 e_zbu := by
 refine yaO (E := E_zbu) (fn := Tryz.f172) rfl tys_ok rfl (show yaM _ [] from trivial) mixed (by kernel_rfl) (by kernel_rfl) (by kernel_rfl) 1 (by kernel_rfl) true ⟨zbu.l1X.ok, trivial⟩ ?_
 intro args H
 by_cases hx : ∃ (a0l : Nat) (a0n : Nat) (a0 : Nat → Int), args = [.slice 0 0 a0l none 1] ∧ H = [some (.arr .u32 a0n a0)]
 ·obtain ⟨a0l, a0n, a0, rfl, rfl⟩ := hx
  right; intro K
  exact iff_of_eq (X_zbu.eq a0l a0n a0 K).symm
 ·left; intro K h
  simp only [e_zbu] at h
  split at h
  ·exact hx ⟨_, _, _, rfl, rfl⟩
  ·exact h
theorem X_nat_cut.ok : SoundE Tryz.prog gl 172 e_nat_cut := SoundE.pick X_zbw.ok (SoundE.pick X_zbv.ok (X_zbu.ok))
noncomputable def e_zca : Entry := ⟨[some .u32], false, fun args H K => match args, H with
 | [.rsI .u32 a0n a0], [] => zca a0n a0 (fun y0 => K (EV.str y0) [])
 | _, _ => False⟩
noncomputable def l_zca : List (Nat × Entry) := [(172, e_nat_cut)]
noncomputable def E_zca : Env := ⟨look tys, look l_zca, look [(4, zca.l4.entry), (8, zca.l8.entry)], gl, yaq [], false⟩
theorem zca.l4X.stepEq (R : List EV → yae → Prop) (K : Ex → List EV → yae → Prop) (x0 : Nat) (x1 : Nat → Int) (x2 : Nat) (x3 : Nat) (x4 : Int) (x5 : Int) (x6 : Nat) (x7 : Nat → Int) : yah (yap E_zca (yaa Tryz.f133 0) { (LV.mk 8 [(0, 8)] 4 0 false) with nx := live (.loop (yaa Tryz.f133 0)) (LV.mk 8 [(0, 8)] 4 0 false) }) (live (.loop (yaa Tryz.f133 0)) (LV.mk 8 [(0, 8)] 4 0 false)) (LV.mk 8 [(0, 8)] 4 0 false) 0 48 R [EV.rsI .u32 x0 x1, EV.slice 0 0 x2 (some x3) 1, EV.int .i64 x4, EV.int .i64 x5] [some (EV.arr .u8 x6 x7)] K = zca.l4.step (fun x0 x1 x2 x3 x4 x5 x6 x7 => R [EV.rsI .u32 x0 x1, EV.slice 0 0 x2 (some x3) 1, EV.int .i64 x4, EV.int .i64 x5] [some (EV.arr .u8 x6 x7)]) (fun y0 y1 y2 y3 => K (.exit 0) [EV.slice 0 0 y0 (some y1) 1] [some (EV.arr .u8 y2 y3)]) x0 x1 x2 x3 x4 x5 x6 x7 := (yav _ _ _ _ _ _ _ _ _ _ _).symm.trans (by kernel_rfl)
theorem zca.l4X.eq (K : Ex → List EV → yae → Prop) : ∀ (n : Nat) (x0 : Nat) (x1 : Nat → Int) (x2 : Nat) (x3 : Nat) (x4 : Int) (x5 : Int) (x6 : Nat) (x7 : Nat → Int), yar E_zca (yaa Tryz.f133 0) (LV.mk 8 [(0, 8)] 4 0 false) 0 48 K n [EV.rsI .u32 x0 x1, EV.slice 0 0 x2 (some x3) 1, EV.int .i64 x4, EV.int .i64 x5] [some (EV.arr .u8 x6 x7)] = zca.l4 (fun y0 y1 y2 y3 => K (.exit 0) [EV.slice 0 0 y0 (some y1) 1] [some (EV.arr .u8 y2 y3)]) n x0 x1 x2 x3 x4 x5 x6 x7
 | 0, _, _, _, _, _, _, _, _ => rfl
 | n + 1, x0, x1, x2, x3, x4, x5, x6, x7 => by
  have ih : (fun (x0 : Nat) (x1 : Nat → Int) (x2 : Nat) (x3 : Nat) (x4 : Int) (x5 : Int) (x6 : Nat) (x7 : Nat → Int) => yar E_zca (yaa Tryz.f133 0) (LV.mk 8 [(0, 8)] 4 0 false) 0 48 K n [EV.rsI .u32 x0 x1, EV.slice 0 0 x2 (some x3) 1, EV.int .i64 x4, EV.int .i64 x5] [some (EV.arr .u8 x6 x7)]) = zca.l4 (fun y0 y1 y2 y3 => K (.exit 0) [EV.slice 0 0 y0 (some y1) 1] [some (EV.arr .u8 y2 y3)]) n := by funext x0 x1 x2 x3 x4 x5 x6 x7; exact zca.l4X.eq K n x0 x1 x2 x3 x4 x5 x6 x7
  show yah _ _ _ _ _ (yar E_zca (yaa Tryz.f133 0) (LV.mk 8 [(0, 8)] 4 0 false) 0 48 K n) [EV.rsI .u32 x0 x1, EV.slice 0 0 x2 (some x3) 1, EV.int .i64 x4, EV.int .i64 x5] [some (EV.arr .u8 x6 x7)] K = zca.l4.step (zca.l4 (fun y0 y1 y2 y3 => K (.exit 0) [EV.slice 0 0 y0 (some y1) 1] [some (EV.arr .u8 y2 y3)]) n) (fun y0 y1 y2 y3 => K (.exit 0) [EV.slice 0 0 y0 (some y1) 1] [some (EV.arr .u8 y2 y3)]) x0 x1 x2 x3 x4 x5 x6 x7
  rw [← ih]
  exact zca.l4X.stepEq _ K x0 x1 x2 x3 x4 x5 x6 x7
theorem zca.l4X.ok : LoopEq E_zca (yaa Tryz.f133 0) := by
 intro L hL vs H
 have h1 : E_zca.lp (yag (yaa Tryz.f133 0)) = some zca.l4.entry := by kernel_rfl
 have h2 : L = zca.l4.entry := Option.some.inj (hL.symm.trans h1)
 subst h2
 by_cases hx : ∃ (x0 : Nat) (x1 : Nat → Int) (x2 : Nat) (x3 : Nat) (x4 : Int) (x5 : Int) (x6 : Nat) (x7 : Nat → Int), vs = [EV.rsI .u32 x0 x1, EV.slice 0 0 x2 (some x3) 1, EV.int .i64 x4, EV.int .i64 x5] ∧ H = [some (EV.arr .u8 x6 x7)]
 ·obtain ⟨x0, x1, x2, x3, x4, x5, x6, x7, rfl, rfl⟩ := hx
  right; intro K
  exact exists_congr fun n => iff_of_eq (zca.l4X.eq K n x0 x1 x2 x3 x4 x5 x6 x7).symm
 ·left; intro K h
  simp only [zca.l4.entry] at h
  split at h
  ·exact hx ⟨_, _, _, _, _, _, _, _, rfl, rfl⟩
  ·exact h
theorem zca.l8X.stepEq (R : List EV → yae → Prop) (K : Ex → List EV → yae → Prop) (x0 : Nat) (x1 : Nat) (x2 : Nat) (x3 : Nat) (x4 : Nat → Int) : yah (yap E_zca (yaa Tryz.f133 1) { (LV.mk 8 [(2, 8)] 4 0 false) with nx := live (.loop (yaa Tryz.f133 1)) (LV.mk 8 [(2, 8)] 4 0 false) }) (live (.loop (yaa Tryz.f133 1)) (LV.mk 8 [(2, 8)] 4 0 false)) (LV.mk 8 [(2, 8)] 4 0 false) 0 48 R [EV.slice 0 x0 x1 (some x2) 1] [some (EV.arr .u8 x3 x4)] K = zca.l8.step (fun x0 x1 x2 x3 x4 => R [EV.slice 0 x0 x1 (some x2) 1] [some (EV.arr .u8 x3 x4)]) (fun y0 y1 y2 y3 y4 => K (.exit 2) [EV.slice 0 y0 y1 (some y2) 1] [some (EV.arr .u8 y3 y4)]) x0 x1 x2 x3 x4 := (yav _ _ _ _ _ _ _ _ _ _ _).symm.trans (by kernel_rfl)
theorem zca.l8X.eq (K : Ex → List EV → yae → Prop) : ∀ (n : Nat) (x0 : Nat) (x1 : Nat) (x2 : Nat) (x3 : Nat) (x4 : Nat → Int), yar E_zca (yaa Tryz.f133 1) (LV.mk 8 [(2, 8)] 4 0 false) 0 48 K n [EV.slice 0 x0 x1 (some x2) 1] [some (EV.arr .u8 x3 x4)] = zca.l8 (fun y0 y1 y2 y3 y4 => K (.exit 2) [EV.slice 0 y0 y1 (some y2) 1] [some (EV.arr .u8 y3 y4)]) n x0 x1 x2 x3 x4
 | 0, _, _, _, _, _ => rfl
 | n + 1, x0, x1, x2, x3, x4 => by
  have ih : (fun (x0 : Nat) (x1 : Nat) (x2 : Nat) (x3 : Nat) (x4 : Nat → Int) => yar E_zca (yaa Tryz.f133 1) (LV.mk 8 [(2, 8)] 4 0 false) 0 48 K n [EV.slice 0 x0 x1 (some x2) 1] [some (EV.arr .u8 x3 x4)]) = zca.l8 (fun y0 y1 y2 y3 y4 => K (.exit 2) [EV.slice 0 y0 y1 (some y2) 1] [some (EV.arr .u8 y3 y4)]) n := by funext x0 x1 x2 x3 x4; exact zca.l8X.eq K n x0 x1 x2 x3 x4
  show yah _ _ _ _ _ (yar E_zca (yaa Tryz.f133 1) (LV.mk 8 [(2, 8)] 4 0 false) 0 48 K n) [EV.slice 0 x0 x1 (some x2) 1] [some (EV.arr .u8 x3 x4)] K = zca.l8.step (zca.l8 (fun y0 y1 y2 y3 y4 => K (.exit 2) [EV.slice 0 y0 y1 (some y2) 1] [some (EV.arr .u8 y3 y4)]) n) (fun y0 y1 y2 y3 y4 => K (.exit 2) [EV.slice 0 y0 y1 (some y2) 1] [some (EV.arr .u8 y3 y4)]) x0 x1 x2 x3 x4
  rw [← ih]
  exact zca.l8X.stepEq _ K x0 x1 x2 x3 x4
theorem zca.l8X.ok : LoopEq E_zca (yaa Tryz.f133 1) := by
 intro L hL vs H
 have h1 : E_zca.lp (yag (yaa Tryz.f133 1)) = some zca.l8.entry := by kernel_rfl
 have h2 : L = zca.l8.entry := Option.some.inj (hL.symm.trans h1)
 subst h2
 by_cases hx : ∃ (x0 : Nat) (x1 : Nat) (x2 : Nat) (x3 : Nat) (x4 : Nat → Int), vs = [EV.slice 0 x0 x1 (some x2) 1] ∧ H = [some (EV.arr .u8 x3 x4)]
 ·obtain ⟨x0, x1, x2, x3, x4, rfl, rfl⟩ := hx
  right; intro K
  exact exists_congr fun n => iff_of_eq (zca.l8X.eq K n x0 x1 x2 x3 x4).symm
 ·left; intro K h
  simp only [zca.l8.entry] at h
  split at h
  ·exact hx ⟨_, _, _, _, _, rfl, rfl⟩
  ·exact h
theorem X_zca.eq (a0n : Nat) (a0 : Nat → Int) (K : EV → yae → Prop) : yaK E_zca Tryz.f133 false [.rsI .u32 a0n a0] [] K = zca a0n a0 (fun y0 => K (EV.str y0) []) := by
 rw [zca.is]; exact (yac _ _ _ _ _ _).symm.trans (by kernel_rfl)
theorem X_zca.ok : SoundE Tryz.prog gl 133 e_zca := by
 refine yaO (E := E_zca) (fn := Tryz.f133) rfl tys_ok rfl (show yaM _ l_zca from ⟨X_nat_cut.ok, trivial⟩) mixed (by kernel_rfl) (by kernel_rfl) (by kernel_rfl) 2 (by kernel_rfl) false ⟨zca.l4X.ok, zca.l8X.ok, trivial⟩ ?_
 intro args H
 by_cases hx : ∃ (a0n : Nat) (a0 : Nat → Int), args = [.rsI .u32 a0n a0] ∧ H = []
 ·obtain ⟨a0n, a0, rfl, rfl⟩ := hx
  right; intro K
  exact iff_of_eq (X_zca.eq a0n a0 K).symm
 ·left; intro K h
  simp only [e_zca] at h
  split at h
  ·exact hx ⟨_, _, rfl, rfl⟩
  ·exact h
noncomputable def e_zbt : Entry := ⟨[some .u32, some .u32], false, fun args H K => match args, H with
 | [.rsI .u32 a0n a0, .rsI .u32 a1n a1], [] => zbt a0n a0 a1n a1 (fun y0 => K (EV.int .i64 y0) [])
 | _, _ => False⟩
noncomputable def E_zbt : Env := ⟨look tys, look [], look [(6, zbt.l6.entry)], gl, yaq [], false⟩
theorem zbt.l6X.stepEq (R : List EV → yae → Prop) (K : Ex → List EV → yae → Prop) (x0 : Nat) (x1 : Nat → Int) (x2 : Nat) (x3 : Nat → Int) (x4 : Int) : yah (yap E_zbt (yaa Tryz.f95 0) { (LV.mk 0 [(1, 0)] 16 0 false) with nx := live (.loop (yaa Tryz.f95 0)) (LV.mk 0 [(1, 0)] 16 0 false) }) (live (.loop (yaa Tryz.f95 0)) (LV.mk 0 [(1, 0)] 16 0 false)) (LV.mk 0 [(1, 0)] 16 0 false) 0 45 R [EV.rsI .u32 x0 x1, EV.rsI .u32 x2 x3, EV.int .i64 x4] [] K = zbt.l6.step (fun x0 x1 x2 x3 x4 => R [EV.rsI .u32 x0 x1, EV.rsI .u32 x2 x3, EV.int .i64 x4] []) (fun y0 => K .ret [EV.int .i64 y0] []) (K (.exit 1) [] []) x0 x1 x2 x3 x4 := (yav _ _ _ _ _ _ _ _ _ _ _).symm.trans (by kernel_rfl)
theorem zbt.l6X.eq (K : Ex → List EV → yae → Prop) : ∀ (n : Nat) (x0 : Nat) (x1 : Nat → Int) (x2 : Nat) (x3 : Nat → Int) (x4 : Int), yar E_zbt (yaa Tryz.f95 0) (LV.mk 0 [(1, 0)] 16 0 false) 0 45 K n [EV.rsI .u32 x0 x1, EV.rsI .u32 x2 x3, EV.int .i64 x4] [] = zbt.l6 (fun y0 => K .ret [EV.int .i64 y0] []) (K (.exit 1) [] []) n x0 x1 x2 x3 x4
 | 0, _, _, _, _, _ => rfl
 | n + 1, x0, x1, x2, x3, x4 => by
  have ih : (fun (x0 : Nat) (x1 : Nat → Int) (x2 : Nat) (x3 : Nat → Int) (x4 : Int) => yar E_zbt (yaa Tryz.f95 0) (LV.mk 0 [(1, 0)] 16 0 false) 0 45 K n [EV.rsI .u32 x0 x1, EV.rsI .u32 x2 x3, EV.int .i64 x4] []) = zbt.l6 (fun y0 => K .ret [EV.int .i64 y0] []) (K (.exit 1) [] []) n := by funext x0 x1 x2 x3 x4; exact zbt.l6X.eq K n x0 x1 x2 x3 x4
  show yah _ _ _ _ _ (yar E_zbt (yaa Tryz.f95 0) (LV.mk 0 [(1, 0)] 16 0 false) 0 45 K n) [EV.rsI .u32 x0 x1, EV.rsI .u32 x2 x3, EV.int .i64 x4] [] K = zbt.l6.step (zbt.l6 (fun y0 => K .ret [EV.int .i64 y0] []) (K (.exit 1) [] []) n) (fun y0 => K .ret [EV.int .i64 y0] []) (K (.exit 1) [] []) x0 x1 x2 x3 x4
  rw [← ih]
  exact zbt.l6X.stepEq _ K x0 x1 x2 x3 x4
theorem zbt.l6X.ok : LoopEq E_zbt (yaa Tryz.f95 0) := by
 intro L hL vs H
 have h1 : E_zbt.lp (yag (yaa Tryz.f95 0)) = some zbt.l6.entry := by kernel_rfl
 have h2 : L = zbt.l6.entry := Option.some.inj (hL.symm.trans h1)
 subst h2
 by_cases hx : ∃ (x0 : Nat) (x1 : Nat → Int) (x2 : Nat) (x3 : Nat → Int) (x4 : Int), vs = [EV.rsI .u32 x0 x1, EV.rsI .u32 x2 x3, EV.int .i64 x4] ∧ H = []
 ·obtain ⟨x0, x1, x2, x3, x4, rfl, rfl⟩ := hx
  right; intro K
  exact exists_congr fun n => iff_of_eq (zbt.l6X.eq K n x0 x1 x2 x3 x4).symm
 ·left; intro K h
  simp only [zbt.l6.entry] at h
  split at h
  ·exact hx ⟨_, _, _, _, _, rfl, rfl⟩
  ·exact h
theorem X_zbt.eq (a0n : Nat) (a0 : Nat → Int) (a1n : Nat) (a1 : Nat → Int) (K : EV → yae → Prop) : yaK E_zbt Tryz.f95 false [.rsI .u32 a0n a0, .rsI .u32 a1n a1] [] K = zbt a0n a0 a1n a1 (fun y0 => K (EV.int .i64 y0) []) := by
 rw [zbt.is]; exact (yac _ _ _ _ _ _).symm.trans (by kernel_rfl)
theorem X_zbt.ok : SoundE Tryz.prog gl 95 e_zbt := by
 refine yaO (E := E_zbt) (fn := Tryz.f95) rfl tys_ok rfl (show yaM _ [] from trivial) mixed (by kernel_rfl) (by kernel_rfl) (by kernel_rfl) 1 (by kernel_rfl) false ⟨zbt.l6X.ok, trivial⟩ ?_
 intro args H
 by_cases hx : ∃ (a0n : Nat) (a0 : Nat → Int) (a1n : Nat) (a1 : Nat → Int), args = [.rsI .u32 a0n a0, .rsI .u32 a1n a1] ∧ H = []
 ·obtain ⟨a0n, a0, a1n, a1, rfl, rfl⟩ := hx
  right; intro K
  exact iff_of_eq (X_zbt.eq a0n a0 a1n a1 K).symm
 ·left; intro K h
  simp only [e_zbt] at h
  split at h
  ·exact hx ⟨_, _, _, _, rfl, rfl⟩
  ·exact h
noncomputable def e_zaa : Entry := ⟨[none], false, fun args H K => match args, H with
 | [.int .u64 a0], [] => zaa a0 (fun y0 => K (EV.int .i64 y0) [])
 | _, _ => False⟩
noncomputable def E_zaa : Env := ⟨look tys, look [], look [], gl, yaq [], false⟩
theorem X_zaa.eq (a0 : Int) (K : EV → yae → Prop) : yaK E_zaa Tryz.f145 false [.int .u64 a0] [] K = zaa a0 (fun y0 => K (EV.int .i64 y0) []) := by
 rw [zaa.is]; exact (yac _ _ _ _ _ _).symm.trans (by kernel_rfl)
theorem X_zaa.ok : SoundE Tryz.prog gl 145 e_zaa := by
 refine yaO (E := E_zaa) (fn := Tryz.f145) rfl tys_ok rfl (show yaM _ [] from trivial) mixed (by kernel_rfl) (by kernel_rfl) (by kernel_rfl) 0 (by kernel_rfl) false trivial ?_
 intro args H
 by_cases hx : ∃ (a0 : Int), args = [.int .u64 a0] ∧ H = []
 ·obtain ⟨a0, rfl, rfl⟩ := hx
  right; intro K
  exact iff_of_eq (X_zaa.eq a0 K).symm
 ·left; intro K h
  simp only [e_zaa] at h
  split at h
  ·exact hx ⟨_, rfl, rfl⟩
  ·exact h
noncomputable def e_zen : Entry := ⟨[none], false, fun args H K => match args, H with
 | [.int .u64 a0], [] => zen a0 (fun y0 => K (EV.int .i64 y0) [])
 | _, _ => False⟩
noncomputable def l_zen : List (Nat × Entry) := [(145, e_zaa)]
noncomputable def E_zen : Env := ⟨look tys, look l_zen, look [], gl, yaq [], false⟩
theorem X_zen.eq (a0 : Int) (K : EV → yae → Prop) : yaK E_zen Tryz.f102 false [.int .u64 a0] [] K = zen a0 (fun y0 => K (EV.int .i64 y0) []) := by
 rw [zen.is]; exact (yac _ _ _ _ _ _).symm.trans (by kernel_rfl)
theorem X_zen.ok : SoundE Tryz.prog gl 102 e_zen := by
 refine yaO (E := E_zen) (fn := Tryz.f102) rfl tys_ok rfl (show yaM _ l_zen from ⟨X_zaa.ok, trivial⟩) mixed (by kernel_rfl) (by kernel_rfl) (by kernel_rfl) 0 (by kernel_rfl) false trivial ?_
 intro args H
 by_cases hx : ∃ (a0 : Int), args = [.int .u64 a0] ∧ H = []
 ·obtain ⟨a0, rfl, rfl⟩ := hx
  right; intro K
  exact iff_of_eq (X_zen.eq a0 K).symm
 ·left; intro K h
  simp only [e_zen] at h
  split at h
  ·exact hx ⟨_, rfl, rfl⟩
  ·exact h
noncomputable def e_zcg : Entry := ⟨[some .u32, none], true, fun args H K => match args, H with
 | [.rsI .u32 a0n a0, .int .i64 a1], [] => zcg a0n a0 a1 (K (EV.nilSlice) []) (fun y0 y1 y2 y3 => K (EV.slice 0 0 y0 (some y1) 1) [some (EV.arr .u32 y2 y3)])
 | _, _ => False⟩
noncomputable def l_zcg : List (Nat × Entry) := [(172, e_nat_cut)]
noncomputable def E_zcg : Env := ⟨look tys, look l_zcg, look [(5, zcg.l5.entry)], gl, yaq [], false⟩
theorem zcg.l5X.stepEq (R : List EV → yae → Prop) (K : Ex → List EV → yae → Prop) (x0 : Int) (x1 : Nat) (x2 : Nat) (x3 : Nat) (x4 : Nat → Int) (x5 : Int) (x6 : Int) (x7 : Nat) (x8 : Nat → Int) : yah (yap E_zcg (yaa Tryz.f140 0) { (LV.mk 32 [(0, 32)] 16 0 false) with nx := live (.loop (yaa Tryz.f140 0)) (LV.mk 32 [(0, 32)] 16 0 false) }) (live (.loop (yaa Tryz.f140 0)) (LV.mk 32 [(0, 32)] 16 0 false)) (LV.mk 32 [(0, 32)] 16 0 false) 0 59 R [EV.int .i64 x0, EV.slice 0 0 x1 (some x2) 1, EV.rsI .u32 x3 x4, EV.int .i64 x5, EV.int .i64 x6] [some (EV.arr .u32 x7 x8)] K = zcg.l5.step (fun x0 x1 x2 x3 x4 x5 x6 x7 x8 => R [EV.int .i64 x0, EV.slice 0 0 x1 (some x2) 1, EV.rsI .u32 x3 x4, EV.int .i64 x5, EV.int .i64 x6] [some (EV.arr .u32 x7 x8)]) (fun y0 y1 y2 y3 => K (.exit 0) [EV.slice 0 0 y0 (some y1) 1] [some (EV.arr .u32 y2 y3)]) x0 x1 x2 x3 x4 x5 x6 x7 x8 := (yav _ _ _ _ _ _ _ _ _ _ _).symm.trans (by kernel_rfl)
theorem zcg.l5X.eq (K : Ex → List EV → yae → Prop) : ∀ (n : Nat) (x0 : Int) (x1 : Nat) (x2 : Nat) (x3 : Nat) (x4 : Nat → Int) (x5 : Int) (x6 : Int) (x7 : Nat) (x8 : Nat → Int), yar E_zcg (yaa Tryz.f140 0) (LV.mk 32 [(0, 32)] 16 0 false) 0 59 K n [EV.int .i64 x0, EV.slice 0 0 x1 (some x2) 1, EV.rsI .u32 x3 x4, EV.int .i64 x5, EV.int .i64 x6] [some (EV.arr .u32 x7 x8)] = zcg.l5 (fun y0 y1 y2 y3 => K (.exit 0) [EV.slice 0 0 y0 (some y1) 1] [some (EV.arr .u32 y2 y3)]) n x0 x1 x2 x3 x4 x5 x6 x7 x8
 | 0, _, _, _, _, _, _, _, _, _ => rfl
 | n + 1, x0, x1, x2, x3, x4, x5, x6, x7, x8 => by
  have ih : (fun (x0 : Int) (x1 : Nat) (x2 : Nat) (x3 : Nat) (x4 : Nat → Int) (x5 : Int) (x6 : Int) (x7 : Nat) (x8 : Nat → Int) => yar E_zcg (yaa Tryz.f140 0) (LV.mk 32 [(0, 32)] 16 0 false) 0 59 K n [EV.int .i64 x0, EV.slice 0 0 x1 (some x2) 1, EV.rsI .u32 x3 x4, EV.int .i64 x5, EV.int .i64 x6] [some (EV.arr .u32 x7 x8)]) = zcg.l5 (fun y0 y1 y2 y3 => K (.exit 0) [EV.slice 0 0 y0 (some y1) 1] [some (EV.arr .u32 y2 y3)]) n := by funext x0 x1 x2 x3 x4 x5 x6 x7 x8; exact zcg.l5X.eq K n x0 x1 x2 x3 x4 x5 x6 x7 x8
  show yah _ _ _ _ _ (yar E_zcg (yaa Tryz.f140 0) (LV.mk 32 [(0, 32)] 16 0 false) 0 59 K n) [EV.int .i64 x0, EV.slice 0 0 x1 (some x2) 1, EV.rsI .u32 x3 x4, EV.int .i64 x5, EV.int .i64 x6] [some (EV.arr .u32 x7 x8)] K = zcg.l5.step (zcg.l5 (fun y0 y1 y2 y3 => K (.exit 0) [EV.slice 0 0 y0 (some y1) 1] [some (EV.arr .u32 y2 y3)]) n) (fun y0 y1 y2 y3 => K (.exit 0) [EV.slice 0 0 y0 (some y1) 1] [some (EV.arr .u32 y2 y3)]) x0 x1 x2 x3 x4 x5 x6 x7 x8
  rw [← ih]
  exact zcg.l5X.stepEq _ K x0 x1 x2 x3 x4 x5 x6 x7 x8
theorem zcg.l5X.ok : LoopEq E_zcg (yaa Tryz.f140 0) := by
 intro L hL vs H
 have h1 : E_zcg.lp (yag (yaa Tryz.f140 0)) = some zcg.l5.entry := by kernel_rfl
 have h2 : L = zcg.l5.entry := Option.some.inj (hL.symm.trans h1)
 subst h2
 by_cases hx : ∃ (x0 : Int) (x1 : Nat) (x2 : Nat) (x3 : Nat) (x4 : Nat → Int) (x5 : Int) (x6 : Int) (x7 : Nat) (x8 : Nat → Int), vs = [EV.int .i64 x0, EV.slice 0 0 x1 (some x2) 1, EV.rsI .u32 x3 x4, EV.int .i64 x5, EV.int .i64 x6] ∧ H = [some (EV.arr .u32 x7 x8)]
 ·obtain ⟨x0, x1, x2, x3, x4, x5, x6, x7, x8, rfl, rfl⟩ := hx
  right; intro K
  exact exists_congr fun n => iff_of_eq (zcg.l5X.eq K n x0 x1 x2 x3 x4 x5 x6 x7 x8).symm
 ·left; intro K h
  simp only [zcg.l5.entry] at h
  split at h
  ·exact hx ⟨_, _, _, _, _, _, _, _, _, rfl, rfl⟩
  ·exact h
theorem X_zcg.eq (a0n : Nat) (a0 : Nat → Int) (a1 : Int) (K : EV → yae → Prop) : yaK E_zcg Tryz.f140 true [.rsI .u32 a0n a0, .int .i64 a1] [] K = zcg a0n a0 a1 (K (EV.nilSlice) []) (fun y0 y1 y2 y3 => K (EV.slice 0 0 y0 (some y1) 1) [some (EV.arr .u32 y2 y3)]) := by
 rw [zcg.is]; exact (yac _ _ _ _ _ _).symm.trans (by kernel_rfl)
theorem X_zcg.ok : SoundE Tryz.prog gl 140 e_zcg := by
 refine yaO (E := E_zcg) (fn := Tryz.f140) rfl tys_ok rfl (show yaM _ l_zcg from ⟨X_nat_cut.ok, trivial⟩) mixed (by kernel_rfl) (by kernel_rfl) (by kernel_rfl) 1 (by kernel_rfl) true ⟨zcg.l5X.ok, trivial⟩ ?_
 intro args H
 by_cases hx : ∃ (a0n : Nat) (a0 : Nat → Int) (a1 : Int), args = [.rsI .u32 a0n a0, .int .i64 a1] ∧ H = []
 ·obtain ⟨a0n, a0, a1, rfl, rfl⟩ := hx
  right; intro K
  exact iff_of_eq (X_zcg.eq a0n a0 a1 K).symm
 ·left; intro K h
  simp only [e_zcg] at h
  split at h
  ·exact hx ⟨_, _, _, rfl, rfl⟩
  ·exact h
noncomputable def e_nat_upN : Entry := Entry.nonil e_zcg
theorem X_nat_upN.ok : SoundE Tryz.prog gl 140 e_nat_upN := SoundE.nonil X_zcg.ok
noncomputable def e_zbx : Entry := ⟨[some .u32, none], false, fun args H K => match args, H with
 | [.rsI .u32 a0n a0, .int .i64 a1], [] => zbx a0n a0 a1 (fun y0 y1 => K (EV.rsI .u32 y0 y1) [])
 | _, _ => False⟩
noncomputable def l_zbx : List (Nat × Entry) := [(172, e_nat_cut)]
noncomputable def E_zbx : Env := ⟨look tys, look l_zbx, look [(5, zbx.l5.entry)], gl, yaq [], false⟩
theorem zbx.l5X.stepEq (R : List EV → yae → Prop) (K : Ex → List EV → yae → Prop) (x0 : Nat) (x1 : Nat → Int) (x2 : Int) (x3 : Nat) (x4 : Nat) (x5 : Int) (x6 : Int) (x7 : Nat) (x8 : Nat → Int) : yah (yap E_zbx (yaa Tryz.f146 0) { (LV.mk 32 [(0, 32)] 16 0 false) with nx := live (.loop (yaa Tryz.f146 0)) (LV.mk 32 [(0, 32)] 16 0 false) }) (live (.loop (yaa Tryz.f146 0)) (LV.mk 32 [(0, 32)] 16 0 false)) (LV.mk 32 [(0, 32)] 16 0 false) 0 64 R [EV.rsI .u32 x0 x1, EV.int .i64 x2, EV.slice 0 0 x3 (some x4) 1, EV.int .i64 x5, EV.int .i64 x6] [some (EV.arr .u32 x7 x8)] K = zbx.l5.step (fun x0 x1 x2 x3 x4 x5 x6 x7 x8 => R [EV.rsI .u32 x0 x1, EV.int .i64 x2, EV.slice 0 0 x3 (some x4) 1, EV.int .i64 x5, EV.int .i64 x6] [some (EV.arr .u32 x7 x8)]) (fun y0 y1 y2 y3 => K (.exit 0) [EV.slice 0 0 y0 (some y1) 1] [some (EV.arr .u32 y2 y3)]) x0 x1 x2 x3 x4 x5 x6 x7 x8 := (yav _ _ _ _ _ _ _ _ _ _ _).symm.trans (by kernel_rfl)
theorem zbx.l5X.eq (K : Ex → List EV → yae → Prop) : ∀ (n : Nat) (x0 : Nat) (x1 : Nat → Int) (x2 : Int) (x3 : Nat) (x4 : Nat) (x5 : Int) (x6 : Int) (x7 : Nat) (x8 : Nat → Int), yar E_zbx (yaa Tryz.f146 0) (LV.mk 32 [(0, 32)] 16 0 false) 0 64 K n [EV.rsI .u32 x0 x1, EV.int .i64 x2, EV.slice 0 0 x3 (some x4) 1, EV.int .i64 x5, EV.int .i64 x6] [some (EV.arr .u32 x7 x8)] = zbx.l5 (fun y0 y1 y2 y3 => K (.exit 0) [EV.slice 0 0 y0 (some y1) 1] [some (EV.arr .u32 y2 y3)]) n x0 x1 x2 x3 x4 x5 x6 x7 x8
 | 0, _, _, _, _, _, _, _, _, _ => rfl
 | n + 1, x0, x1, x2, x3, x4, x5, x6, x7, x8 => by
  have ih : (fun (x0 : Nat) (x1 : Nat → Int) (x2 : Int) (x3 : Nat) (x4 : Nat) (x5 : Int) (x6 : Int) (x7 : Nat) (x8 : Nat → Int) => yar E_zbx (yaa Tryz.f146 0) (LV.mk 32 [(0, 32)] 16 0 false) 0 64 K n [EV.rsI .u32 x0 x1, EV.int .i64 x2, EV.slice 0 0 x3 (some x4) 1, EV.int .i64 x5, EV.int .i64 x6] [some (EV.arr .u32 x7 x8)]) = zbx.l5 (fun y0 y1 y2 y3 => K (.exit 0) [EV.slice 0 0 y0 (some y1) 1] [some (EV.arr .u32 y2 y3)]) n := by funext x0 x1 x2 x3 x4 x5 x6 x7 x8; exact zbx.l5X.eq K n x0 x1 x2 x3 x4 x5 x6 x7 x8
  show yah _ _ _ _ _ (yar E_zbx (yaa Tryz.f146 0) (LV.mk 32 [(0, 32)] 16 0 false) 0 64 K n) [EV.rsI .u32 x0 x1, EV.int .i64 x2, EV.slice 0 0 x3 (some x4) 1, EV.int .i64 x5, EV.int .i64 x6] [some (EV.arr .u32 x7 x8)] K = zbx.l5.step (zbx.l5 (fun y0 y1 y2 y3 => K (.exit 0) [EV.slice 0 0 y0 (some y1) 1] [some (EV.arr .u32 y2 y3)]) n) (fun y0 y1 y2 y3 => K (.exit 0) [EV.slice 0 0 y0 (some y1) 1] [some (EV.arr .u32 y2 y3)]) x0 x1 x2 x3 x4 x5 x6 x7 x8
  rw [← ih]
  exact zbx.l5X.stepEq _ K x0 x1 x2 x3 x4 x5 x6 x7 x8
theorem zbx.l5X.ok : LoopEq E_zbx (yaa Tryz.f146 0) := by
 intro L hL vs H
 have h1 : E_zbx.lp (yag (yaa Tryz.f146 0)) = some zbx.l5.entry := by kernel_rfl
 have h2 : L = zbx.l5.entry := Option.some.inj (hL.symm.trans h1)
 subst h2
 by_cases hx : ∃ (x0 : Nat) (x1 : Nat → Int) (x2 : Int) (x3 : Nat) (x4 : Nat) (x5 : Int) (x6 : Int) (x7 : Nat) (x8 : Nat → Int), vs = [EV.rsI .u32 x0 x1, EV.int .i64 x2, EV.slice 0 0 x3 (some x4) 1, EV.int .i64 x5, EV.int .i64 x6] ∧ H = [some (EV.arr .u32 x7 x8)]
 ·obtain ⟨x0, x1, x2, x3, x4, x5, x6, x7, x8, rfl, rfl⟩ := hx
  right; intro K
  exact exists_congr fun n => iff_of_eq (zbx.l5X.eq K n x0 x1 x2 x3 x4 x5 x6 x7 x8).symm
 ·left; intro K h
  simp only [zbx.l5.entry] at h
  split at h
  ·exact hx ⟨_, _, _, _, _, _, _, _, _, rfl, rfl⟩
  ·exact h
theorem X_zbx.eq (a0n : Nat) (a0 : Nat → Int) (a1 : Int) (K : EV → yae → Prop) : yaK E_zbx Tryz.f146 false [.rsI .u32 a0n a0, .int .i64 a1] [] K = zbx a0n a0 a1 (fun y0 y1 => K (EV.rsI .u32 y0 y1) []) := by
 rw [zbx.is]; exact (yac _ _ _ _ _ _).symm.trans (by kernel_rfl)
theorem X_zbx.ok : SoundE Tryz.prog gl 146 e_zbx := by
 refine yaO (E := E_zbx) (fn := Tryz.f146) rfl tys_ok rfl (show yaM _ l_zbx from ⟨X_nat_cut.ok, trivial⟩) mixed (by kernel_rfl) (by kernel_rfl) (by kernel_rfl) 1 (by kernel_rfl) false ⟨zbx.l5X.ok, trivial⟩ ?_
 intro args H
 by_cases hx : ∃ (a0n : Nat) (a0 : Nat → Int) (a1 : Int), args = [.rsI .u32 a0n a0, .int .i64 a1] ∧ H = []
 ·obtain ⟨a0n, a0, a1, rfl, rfl⟩ := hx
  right; intro K
  exact iff_of_eq (X_zbx.eq a0n a0 a1 K).symm
 ·left; intro K h
  simp only [e_zbx] at h
  split at h
  ·exact hx ⟨_, _, _, rfl, rfl⟩
  ·exact h
noncomputable def e_zcb : Entry := ⟨[some .u32, some .u32], false, fun args H K => match args, H with
 | [.rsI .u32 a0n a0, .rsI .u32 a1n a1], [] => zcb a0n a0 a1n a1 (fun y0 y1 y2 y3 => K (EV.tuple [EV.rsI .u32 y0 y1, EV.rsI .u32 y2 y3]) [])
 | _, _ => False⟩
noncomputable def l_zcb : List (Nat × Entry) := [(95, e_zbt), (102, e_zen), (140, e_nat_upN), (146, e_zbx), (172, e_nat_cut)]
noncomputable def E_zcb : Env := ⟨look tys, look l_zcb, look [(7, zcb.l7.entry), (16, zcb.l16.entry), (20, zcb.l20.entry), (24, zcb.l24.entry), (31, zcb.l31.entry), (45, zcb.l45.entry)], gl, yaq [], true⟩
theorem zcb.l7X.stepEq (R : List EV → yae → Prop) (K : Ex → List EV → yae → Prop) (x0 : Nat) (x1 : Nat → Int) (x2 : Nat) (x3 : Nat → Int) (x4 : Nat) (x5 : Int) (x6 : Int) (x7 : Nat) (x8 : Nat → Int) : yah (yap E_zcb (yaa Tryz.f134 0) { (LV.mk 80 [(0, 80)] 48 0 true) with nx := live (.loop (yaa Tryz.f134 0)) (LV.mk 80 [(0, 80)] 48 0 true) }) (live (.loop (yaa Tryz.f134 0)) (LV.mk 80 [(0, 80)] 48 0 true)) (LV.mk 80 [(0, 80)] 48 0 true) 0 285 R [EV.rsI .u32 x0 x1, EV.rsI .u32 x2 x3, EV.slice 0 0 x4 none 1, EV.int .u64 x5, EV.int .i64 x6] [some (EV.arr .u32 x7 x8)] K = zcb.l7.step (fun x0 x1 x2 x3 x4 x5 x6 x7 x8 => R [EV.rsI .u32 x0 x1, EV.rsI .u32 x2 x3, EV.slice 0 0 x4 none 1, EV.int .u64 x5, EV.int .i64 x6] [some (EV.arr .u32 x7 x8)]) (fun y0 y1 y2 y3 => K (.exit 0) [EV.slice 0 0 y0 none 1, EV.int .u64 y1] [some (EV.arr .u32 y2 y3)]) x0 x1 x2 x3 x4 x5 x6 x7 x8 := (yav _ _ _ _ _ _ _ _ _ _ _).symm.trans (by kernel_rfl)
theorem zcb.l7X.eq (K : Ex → List EV → yae → Prop) : ∀ (n : Nat) (x0 : Nat) (x1 : Nat → Int) (x2 : Nat) (x3 : Nat → Int) (x4 : Nat) (x5 : Int) (x6 : Int) (x7 : Nat) (x8 : Nat → Int), yar E_zcb (yaa Tryz.f134 0) (LV.mk 80 [(0, 80)] 48 0 true) 0 285 K n [EV.rsI .u32 x0 x1, EV.rsI .u32 x2 x3, EV.slice 0 0 x4 none 1, EV.int .u64 x5, EV.int .i64 x6] [some (EV.arr .u32 x7 x8)] = zcb.l7 (fun y0 y1 y2 y3 => K (.exit 0) [EV.slice 0 0 y0 none 1, EV.int .u64 y1] [some (EV.arr .u32 y2 y3)]) n x0 x1 x2 x3 x4 x5 x6 x7 x8
 | 0, _, _, _, _, _, _, _, _, _ => rfl
 | n + 1, x0, x1, x2, x3, x4, x5, x6, x7, x8 => by
  have ih : (fun (x0 : Nat) (x1 : Nat → Int) (x2 : Nat) (x3 : Nat → Int) (x4 : Nat) (x5 : Int) (x6 : Int) (x7 : Nat) (x8 : Nat → Int) => yar E_zcb (yaa Tryz.f134 0) (LV.mk 80 [(0, 80)] 48 0 true) 0 285 K n [EV.rsI .u32 x0 x1, EV.rsI .u32 x2 x3, EV.slice 0 0 x4 none 1, EV.int .u64 x5, EV.int .i64 x6] [some (EV.arr .u32 x7 x8)]) = zcb.l7 (fun y0 y1 y2 y3 => K (.exit 0) [EV.slice 0 0 y0 none 1, EV.int .u64 y1] [some (EV.arr .u32 y2 y3)]) n := by funext x0 x1 x2 x3 x4 x5 x6 x7 x8; exact zcb.l7X.eq K n x0 x1 x2 x3 x4 x5 x6 x7 x8
  show yah _ _ _ _ _ (yar E_zcb (yaa Tryz.f134 0) (LV.mk 80 [(0, 80)] 48 0 true) 0 285 K n) [EV.rsI .u32 x0 x1, EV.rsI .u32 x2 x3, EV.slice 0 0 x4 none 1, EV.int .u64 x5, EV.int .i64 x6] [some (EV.arr .u32 x7 x8)] K = zcb.l7.step (zcb.l7 (fun y0 y1 y2 y3 => K (.exit 0) [EV.slice 0 0 y0 none 1, EV.int .u64 y1] [some (EV.arr .u32 y2 y3)]) n) (fun y0 y1 y2 y3 => K (.exit 0) [EV.slice 0 0 y0 none 1, EV.int .u64 y1] [some (EV.arr .u32 y2 y3)]) x0 x1 x2 x3 x4 x5 x6 x7 x8
  rw [← ih]
  exact zcb.l7X.stepEq _ K x0 x1 x2 x3 x4 x5 x6 x7 x8
theorem zcb.l7X.ok : LoopEq E_zcb (yaa Tryz.f134 0) := by
 intro L hL vs H
 have h1 : E_zcb.lp (yag (yaa Tryz.f134 0)) = some zcb.l7.entry := by kernel_rfl
 have h2 : L = zcb.l7.entry := Option.some.inj (hL.symm.trans h1)
 subst h2
 by_cases hx : ∃ (x0 : Nat) (x1 : Nat → Int) (x2 : Nat) (x3 : Nat → Int) (x4 : Nat) (x5 : Int) (x6 : Int) (x7 : Nat) (x8 : Nat → Int), vs = [EV.rsI .u32 x0 x1, EV.rsI .u32 x2 x3, EV.slice 0 0 x4 none 1, EV.int .u64 x5, EV.int .i64 x6] ∧ H = [some (EV.arr .u32 x7 x8)]
 ·obtain ⟨x0, x1, x2, x3, x4, x5, x6, x7, x8, rfl, rfl⟩ := hx
  right; intro K
  exact exists_congr fun n => iff_of_eq (zcb.l7X.eq K n x0 x1 x2 x3 x4 x5 x6 x7 x8).symm
 ·left; intro K h
  simp only [zcb.l7.entry] at h
  split at h
  ·exact hx ⟨_, _, _, _, _, _, _, _, _, rfl, rfl⟩
  ·exact h
theorem zcb.l16X.stepEq (R : List EV → yae → Prop) (K : Ex → List EV → yae → Prop) (x0 : Nat) (x1 : Nat → Int) (x2 : Nat) (x3 : Int) (x4 : Nat) (x5 : Nat) (x6 : Nat) (x7 : Nat → Int) (x8 : Nat) (x9 : Nat → Int) (x10 : Nat) (x11 : Nat → Int) : yah (yap E_zcb (yaa Tryz.f134 1) { (LV.mk 1808 [(2, 1808)] 48 0 true) with nx := live (.loop (yaa Tryz.f134 1)) (LV.mk 1808 [(2, 1808)] 48 0 true) }) (live (.loop (yaa Tryz.f134 1)) (LV.mk 1808 [(2, 1808)] 48 0 true)) (LV.mk 1808 [(2, 1808)] 48 0 true) 0 285 R [EV.rsI .u32 x0 x1, EV.slice 0 0 x2 none 1, EV.int .i64 x3, EV.slice 1 0 x4 none 1, EV.slice 2 0 x5 none 1] [some (EV.arr .u32 x6 x7), some (EV.arr .u32 x8 x9), some (EV.arr .u32 x10 x11)] K = zcb.l16.step (fun x0 x1 x2 x3 x4 x5 x6 x7 x8 x9 x10 x11 => R [EV.rsI .u32 x0 x1, EV.slice 0 0 x2 none 1, EV.int .i64 x3, EV.slice 1 0 x4 none 1, EV.slice 2 0 x5 none 1] [some (EV.arr .u32 x6 x7), some (EV.arr .u32 x8 x9), some (EV.arr .u32 x10 x11)]) (fun y0 y1 y2 y3 y4 y5 y6 y7 y8 y9 => K (.exit 2) [EV.slice 0 0 y0 none 1, EV.int .i64 y1, EV.slice 1 0 y2 none 1, EV.slice 2 0 y3 none 1] [some (EV.arr .u32 y4 y5), some (EV.arr .u32 y6 y7), some (EV.arr .u32 y8 y9)]) x0 x1 x2 x3 x4 x5 x6 x7 x8 x9 x10 x11 := (yav _ _ _ _ _ _ _ _ _ _ _).symm.trans (by kernel_rfl)
theorem zcb.l16X.eq (K : Ex → List EV → yae → Prop) : ∀ (n : Nat) (x0 : Nat) (x1 : Nat → Int) (x2 : Nat) (x3 : Int) (x4 : Nat) (x5 : Nat) (x6 : Nat) (x7 : Nat → Int) (x8 : Nat) (x9 : Nat → Int) (x10 : Nat) (x11 : Nat → Int), yar E_zcb (yaa Tryz.f134 1) (LV.mk 1808 [(2, 1808)] 48 0 true) 0 285 K n [EV.rsI .u32 x0 x1, EV.slice 0 0 x2 none 1, EV.int .i64 x3, EV.slice 1 0 x4 none 1, EV.slice 2 0 x5 none 1] [some (EV.arr .u32 x6 x7), some (EV.arr .u32 x8 x9), some (EV.arr .u32 x10 x11)] = zcb.l16 (fun y0 y1 y2 y3 y4 y5 y6 y7 y8 y9 => K (.exit 2) [EV.slice 0 0 y0 none 1, EV.int .i64 y1, EV.slice 1 0 y2 none 1, EV.slice 2 0 y3 none 1] [some (EV.arr .u32 y4 y5), some (EV.arr .u32 y6 y7), some (EV.arr .u32 y8 y9)]) n x0 x1 x2 x3 x4 x5 x6 x7 x8 x9 x10 x11
 | 0, _, _, _, _, _, _, _, _, _, _, _, _ => rfl
 | n + 1, x0, x1, x2, x3, x4, x5, x6, x7, x8, x9, x10, x11 => by
  have ih : (fun (x0 : Nat) (x1 : Nat → Int) (x2 : Nat) (x3 : Int) (x4 : Nat) (x5 : Nat) (x6 : Nat) (x7 : Nat → Int) (x8 : Nat) (x9 : Nat → Int) (x10 : Nat) (x11 : Nat → Int) => yar E_zcb (yaa Tryz.f134 1) (LV.mk 1808 [(2, 1808)] 48 0 true) 0 285 K n [EV.rsI .u32 x0 x1, EV.slice 0 0 x2 none 1, EV.int .i64 x3, EV.slice 1 0 x4 none 1, EV.slice 2 0 x5 none 1] [some (EV.arr .u32 x6 x7), some (EV.arr .u32 x8 x9), some (EV.arr .u32 x10 x11)]) = zcb.l16 (fun y0 y1 y2 y3 y4 y5 y6 y7 y8 y9 => K (.exit 2) [EV.slice 0 0 y0 none 1, EV.int .i64 y1, EV.slice 1 0 y2 none 1, EV.slice 2 0 y3 none 1] [some (EV.arr .u32 y4 y5), some (EV.arr .u32 y6 y7), some (EV.arr .u32 y8 y9)]) n := by funext x0 x1 x2 x3 x4 x5 x6 x7 x8 x9 x10 x11; exact zcb.l16X.eq K n x0 x1 x2 x3 x4 x5 x6 x7 x8 x9 x10 x11
  show yah _ _ _ _ _ (yar E_zcb (yaa Tryz.f134 1) (LV.mk 1808 [(2, 1808)] 48 0 true) 0 285 K n) [EV.rsI .u32 x0 x1, EV.slice 0 0 x2 none 1, EV.int .i64 x3, EV.slice 1 0 x4 none 1, EV.slice 2 0 x5 none 1] [some (EV.arr .u32 x6 x7), some (EV.arr .u32 x8 x9), some (EV.arr .u32 x10 x11)] K = zcb.l16.step (zcb.l16 (fun y0 y1 y2 y3 y4 y5 y6 y7 y8 y9 => K (.exit 2) [EV.slice 0 0 y0 none 1, EV.int .i64 y1, EV.slice 1 0 y2 none 1, EV.slice 2 0 y3 none 1] [some (EV.arr .u32 y4 y5), some (EV.arr .u32 y6 y7), some (EV.arr .u32 y8 y9)]) n) (fun y0 y1 y2 y3 y4 y5 y6 y7 y8 y9 => K (.exit 2) [EV.slice 0 0 y0 none 1, EV.int .i64 y1, EV.slice 1 0 y2 none 1, EV.slice 2 0 y3 none 1] [some (EV.arr .u32 y4 y5), some (EV.arr .u32 y6 y7), some (EV.arr .u32 y8 y9)]) x0 x1 x2 x3 x4 x5 x6 x7 x8 x9 x10 x11
  rw [← ih]
  exact zcb.l16X.stepEq _ K x0 x1 x2 x3 x4 x5 x6 x7 x8 x9 x10 x11
theorem zcb.l16X.ok : LoopEq E_zcb (yaa Tryz.f134 1) := by
 intro L hL vs H
 have h1 : E_zcb.lp (yag (yaa Tryz.f134 1)) = some zcb.l16.entry := by kernel_rfl
 have h2 : L = zcb.l16.entry := Option.some.inj (hL.symm.trans h1)
 subst h2
 by_cases hx : ∃ (x0 : Nat) (x1 : Nat → Int) (x2 : Nat) (x3 : Int) (x4 : Nat) (x5 : Nat) (x6 : Nat) (x7 : Nat → Int) (x8 : Nat) (x9 : Nat → Int) (x10 : Nat) (x11 : Nat → Int), vs = [EV.rsI .u32 x0 x1, EV.slice 0 0 x2 none 1, EV.int .i64 x3, EV.slice 1 0 x4 none 1, EV.slice 2 0 x5 none 1] ∧ H = [some (EV.arr .u32 x6 x7), some (EV.arr .u32 x8 x9), some (EV.arr .u32 x10 x11)]
 ·obtain ⟨x0, x1, x2, x3, x4, x5, x6, x7, x8, x9, x10, x11, rfl, rfl⟩ := hx
  right; intro K
  exact exists_congr fun n => iff_of_eq (zcb.l16X.eq K n x0 x1 x2 x3 x4 x5 x6 x7 x8 x9 x10 x11).symm
 ·left; intro K h
  simp only [zcb.l16.entry] at h
  split at h
  ·exact hx ⟨_, _, _, _, _, _, _, _, _, _, _, _, rfl, rfl⟩
  ·exact h
theorem zcb.l20X.stepEq (R : List EV → yae → Prop) (K : Ex → List EV → yae → Prop) (x0 : Nat) (x1 : Int) (x2 : Nat) (x3 : Nat) (x4 : Int) (x5 : Int) (x6 : Nat) (x7 : Nat → Int) (x8 : Nat) (x9 : Nat → Int) (x10 : Nat) (x11 : Nat → Int) : yah (yap E_zcb (yaa Tryz.f134 2) { (LV.mk 1296 [(4, 1296)] 48 0 true) with nx := live (.loop (yaa Tryz.f134 2)) (LV.mk 1296 [(4, 1296)] 48 0 true) }) (live (.loop (yaa Tryz.f134 2)) (LV.mk 1296 [(4, 1296)] 48 0 true)) (LV.mk 1296 [(4, 1296)] 48 0 true) 0 285 R [EV.slice 0 0 x0 none 1, EV.int .i64 x1, EV.slice 1 0 x2 none 1, EV.slice 2 0 x3 none 1, EV.int .i64 x4, EV.int .i64 x5] [some (EV.arr .u32 x6 x7), some (EV.arr .u32 x8 x9), some (EV.arr .u32 x10 x11)] K = zcb.l20.step (fun x0 x1 x2 x3 x4 x5 x6 x7 x8 x9 x10 x11 => R [EV.slice 0 0 x0 none 1, EV.int .i64 x1, EV.slice 1 0 x2 none 1, EV.slice 2 0 x3 none 1, EV.int .i64 x4, EV.int .i64 x5] [some (EV.arr .u32 x6 x7), some (EV.arr .u32 x8 x9), some (EV.arr .u32 x10 x11)]) (fun y0 y1 y2 y3 y4 y5 y6 => K (.exit 4) [EV.slice 0 0 y0 none 1, EV.int .i64 y1, EV.slice 1 0 y2 none 1] [some (EV.arr .u32 y3 y4), some (EV.arr .u32 y5 y6)]) x0 x1 x2 x3 x4 x5 x6 x7 x8 x9 x10 x11 := (yav _ _ _ _ _ _ _ _ _ _ _).symm.trans (by kernel_rfl)
theorem zcb.l20X.eq (K : Ex → List EV → yae → Prop) : ∀ (n : Nat) (x0 : Nat) (x1 : Int) (x2 : Nat) (x3 : Nat) (x4 : Int) (x5 : Int) (x6 : Nat) (x7 : Nat → Int) (x8 : Nat) (x9 : Nat → Int) (x10 : Nat) (x11 : Nat → Int), yar E_zcb (yaa Tryz.f134 2) (LV.mk 1296 [(4, 1296)] 48 0 true) 0 285 K n [EV.slice 0 0 x0 none 1, EV.int .i64 x1, EV.slice 1 0 x2 none 1, EV.slice 2 0 x3 none 1, EV.int .i64 x4, EV.int .i64 x5] [some (EV.arr .u32 x6 x7), some (EV.arr .u32 x8 x9), some (EV.arr .u32 x10 x11)] = zcb.l20 (fun y0 y1 y2 y3 y4 y5 y6 => K (.exit 4) [EV.slice 0 0 y0 none 1, EV.int .i64 y1, EV.slice 1 0 y2 none 1] [some (EV.arr .u32 y3 y4), some (EV.arr .u32 y5 y6)]) n x0 x1 x2 x3 x4 x5 x6 x7 x8 x9 x10 x11
 | 0, _, _, _, _, _, _, _, _, _, _, _, _ => rfl
 | n + 1, x0, x1, x2, x3, x4, x5, x6, x7, x8, x9, x10, x11 => by
  have ih : (fun (x0 : Nat) (x1 : Int) (x2 : Nat) (x3 : Nat) (x4 : Int) (x5 : Int) (x6 : Nat) (x7 : Nat → Int) (x8 : Nat) (x9 : Nat → Int) (x10 : Nat) (x11 : Nat → Int) => yar E_zcb (yaa Tryz.f134 2) (LV.mk 1296 [(4, 1296)] 48 0 true) 0 285 K n [EV.slice 0 0 x0 none 1, EV.int .i64 x1, EV.slice 1 0 x2 none 1, EV.slice 2 0 x3 none 1, EV.int .i64 x4, EV.int .i64 x5] [some (EV.arr .u32 x6 x7), some (EV.arr .u32 x8 x9), some (EV.arr .u32 x10 x11)]) = zcb.l20 (fun y0 y1 y2 y3 y4 y5 y6 => K (.exit 4) [EV.slice 0 0 y0 none 1, EV.int .i64 y1, EV.slice 1 0 y2 none 1] [some (EV.arr .u32 y3 y4), some (EV.arr .u32 y5 y6)]) n := by funext x0 x1 x2 x3 x4 x5 x6 x7 x8 x9 x10 x11; exact zcb.l20X.eq K n x0 x1 x2 x3 x4 x5 x6 x7 x8 x9 x10 x11
  show yah _ _ _ _ _ (yar E_zcb (yaa Tryz.f134 2) (LV.mk 1296 [(4, 1296)] 48 0 true) 0 285 K n) [EV.slice 0 0 x0 none 1, EV.int .i64 x1, EV.slice 1 0 x2 none 1, EV.slice 2 0 x3 none 1, EV.int .i64 x4, EV.int .i64 x5] [some (EV.arr .u32 x6 x7), some (EV.arr .u32 x8 x9), some (EV.arr .u32 x10 x11)] K = zcb.l20.step (zcb.l20 (fun y0 y1 y2 y3 y4 y5 y6 => K (.exit 4) [EV.slice 0 0 y0 none 1, EV.int .i64 y1, EV.slice 1 0 y2 none 1] [some (EV.arr .u32 y3 y4), some (EV.arr .u32 y5 y6)]) n) (fun y0 y1 y2 y3 y4 y5 y6 => K (.exit 4) [EV.slice 0 0 y0 none 1, EV.int .i64 y1, EV.slice 1 0 y2 none 1] [some (EV.arr .u32 y3 y4), some (EV.arr .u32 y5 y6)]) x0 x1 x2 x3 x4 x5 x6 x7 x8 x9 x10 x11
  rw [← ih]
  exact zcb.l20X.stepEq _ K x0 x1 x2 x3 x4 x5 x6 x7 x8 x9 x10 x11
theorem zcb.l20X.ok : LoopEq E_zcb (yaa Tryz.f134 2) := by
 intro L hL vs H
 have h1 : E_zcb.lp (yag (yaa Tryz.f134 2)) = some zcb.l20.entry := by kernel_rfl
 have h2 : L = zcb.l20.entry := Option.some.inj (hL.symm.trans h1)
 subst h2
 by_cases hx : ∃ (x0 : Nat) (x1 : Int) (x2 : Nat) (x3 : Nat) (x4 : Int) (x5 : Int) (x6 : Nat) (x7 : Nat → Int) (x8 : Nat) (x9 : Nat → Int) (x10 : Nat) (x11 : Nat → Int), vs = [EV.slice 0 0 x0 none 1, EV.int .i64 x1, EV.slice 1 0 x2 none 1, EV.slice 2 0 x3 none 1, EV.int .i64 x4, EV.int .i64 x5] ∧ H = [some (EV.arr .u32 x6 x7), some (EV.arr .u32 x8 x9), some (EV.arr .u32 x10 x11)]
 ·obtain ⟨x0, x1, x2, x3, x4, x5, x6, x7, x8, x9, x10, x11, rfl, rfl⟩ := hx
  right; intro K
  exact exists_congr fun n => iff_of_eq (zcb.l20X.eq K n x0 x1 x2 x3 x4 x5 x6 x7 x8 x9 x10 x11).symm
 ·left; intro K h
  simp only [zcb.l20.entry] at h
  split at h
  ·exact hx ⟨_, _, _, _, _, _, _, _, _, _, _, _, rfl, rfl⟩
  ·exact h
theorem zcb.l24X.stepEq (R : List EV → yae → Prop) (K : Ex → List EV → yae → Prop) (x0 : Nat) (x1 : Int) (x2 : Nat) (x3 : Nat) (x4 : Int) (x5 : Int) (x6 : Int) (x7 : Int) (x8 : Nat) (x9 : Nat → Int) (x10 : Nat) (x11 : Nat → Int) (x12 : Nat) (x13 : Nat → Int) : yah (yap E_zcb (yaa Tryz.f134 3) { (LV.mk 24336 [(6, 24336), (5, 7952), (4, 1296)] 48 0 true) with nx := live (.loop (yaa Tryz.f134 3)) (LV.mk 24336 [(6, 24336), (5, 7952), (4, 1296)] 48 0 true) }) (live (.loop (yaa Tryz.f134 3)) (LV.mk 24336 [(6, 24336), (5, 7952), (4, 1296)] 48 0 true)) (LV.mk 24336 [(6, 24336), (5, 7952), (4, 1296)] 48 0 true) 0 285 R [EV.slice 0 0 x0 none 1, EV.int .i64 x1, EV.slice 1 0 x2 none 1, EV.slice 2 0 x3 none 1, EV.int .i64 x4, EV.int .i64 x5, EV.int .u64 x6, EV.int .u64 x7] [some (EV.arr .u32 x8 x9), some (EV.arr .u32 x10 x11), some (EV.arr .u32 x12 x13)] K = zcb.l24.step (fun x0 x1 x2 x3 x4 x5 x6 x7 x8 x9 x10 x11 x12 x13 => R [EV.slice 0 0 x0 none 1, EV.int .i64 x1, EV.slice 1 0 x2 none 1, EV.slice 2 0 x3 none 1, EV.int .i64 x4, EV.int .i64 x5, EV.int .u64 x6, EV.int .u64 x7] [some (EV.arr .u32 x8 x9), some (EV.arr .u32 x10 x11), some (EV.arr .u32 x12 x13)]) (fun y0 y1 y2 y3 y4 y5 y6 y7 y8 y9 y10 y11 y12 => K (.exit 6) [EV.slice 0 0 y0 none 1, EV.int .i64 y1, EV.slice 1 0 y2 none 1, EV.slice 2 0 y3 none 1, EV.int .i64 y4, EV.int .i64 y5, EV.int .u64 y6] [some (EV.arr .u32 y7 y8), some (EV.arr .u32 y9 y10), some (EV.arr .u32 y11 y12)]) x0 x1 x2 x3 x4 x5 x6 x7 x8 x9 x10 x11 x12 x13 := (yav _ _ _ _ _ _ _ _ _ _ _).symm.trans (by kernel_rfl)
theorem zcb.l24X.eq (K : Ex → List EV → yae → Prop) : ∀ (n : Nat) (x0 : Nat) (x1 : Int) (x2 : Nat) (x3 : Nat) (x4 : Int) (x5 : Int) (x6 : Int) (x7 : Int) (x8 : Nat) (x9 : Nat → Int) (x10 : Nat) (x11 : Nat → Int) (x12 : Nat) (x13 : Nat → Int), yar E_zcb (yaa Tryz.f134 3) (LV.mk 24336 [(6, 24336), (5, 7952), (4, 1296)] 48 0 true) 0 285 K n [EV.slice 0 0 x0 none 1, EV.int .i64 x1, EV.slice 1 0 x2 none 1, EV.slice 2 0 x3 none 1, EV.int .i64 x4, EV.int .i64 x5, EV.int .u64 x6, EV.int .u64 x7] [some (EV.arr .u32 x8 x9), some (EV.arr .u32 x10 x11), some (EV.arr .u32 x12 x13)] = zcb.l24 (fun y0 y1 y2 y3 y4 y5 y6 y7 y8 y9 y10 y11 y12 => K (.exit 6) [EV.slice 0 0 y0 none 1, EV.int .i64 y1, EV.slice 1 0 y2 none 1, EV.slice 2 0 y3 none 1, EV.int .i64 y4, EV.int .i64 y5, EV.int .u64 y6] [some (EV.arr .u32 y7 y8), some (EV.arr .u32 y9 y10), some (EV.arr .u32 y11 y12)]) n x0 x1 x2 x3 x4 x5 x6 x7 x8 x9 x10 x11 x12 x13
 | 0, _, _, _, _, _, _, _, _, _, _, _, _, _, _ => rfl
 | n + 1, x0, x1, x2, x3, x4, x5, x6, x7, x8, x9, x10, x11, x12, x13 => by
  have ih : (fun (x0 : Nat) (x1 : Int) (x2 : Nat) (x3 : Nat) (x4 : Int) (x5 : Int) (x6 : Int) (x7 : Int) (x8 : Nat) (x9 : Nat → Int) (x10 : Nat) (x11 : Nat → Int) (x12 : Nat) (x13 : Nat → Int) => yar E_zcb (yaa Tryz.f134 3) (LV.mk 24336 [(6, 24336), (5, 7952), (4, 1296)] 48 0 true) 0 285 K n [EV.slice 0 0 x0 none 1, EV.int .i64 x1, EV.slice 1 0 x2 none 1, EV.slice 2 0 x3 none 1, EV.int .i64 x4, EV.int .i64 x5, EV.int .u64 x6, EV.int .u64 x7] [some (EV.arr .u32 x8 x9), some (EV.arr .u32 x10 x11), some (EV.arr .u32 x12 x13)]) = zcb.l24 (fun y0 y1 y2 y3 y4 y5 y6 y7 y8 y9 y10 y11 y12 => K (.exit 6) [EV.slice 0 0 y0 none 1, EV.int .i64 y1, EV.slice 1 0 y2 none 1, EV.slice 2 0 y3 none 1, EV.int .i64 y4, EV.int .i64 y5, EV.int .u64 y6] [some (EV.arr .u32 y7 y8), some (EV.arr .u32 y9 y10), some (EV.arr .u32 y11 y12)]) n := by funext x0 x1 x2 x3 x4 x5 x6 x7 x8 x9 x10 x11 x12 x13; exact zcb.l24X.eq K n x0 x1 x2 x3 x4 x5 x6 x7 x8 x9 x10 x11 x12 x13
  show yah _ _ _ _ _ (yar E_zcb (yaa Tryz.f134 3) (LV.mk 24336 [(6, 24336), (5, 7952), (4, 1296)] 48 0 true) 0 285 K n) [EV.slice 0 0 x0 none 1, EV.int .i64 x1, EV.slice 1 0 x2 none 1, EV.slice 2 0 x3 none 1, EV.int .i64 x4, EV.int .i64 x5, EV.int .u64 x6, EV.int .u64 x7] [some (EV.arr .u32 x8 x9), some (EV.arr .u32 x10 x11), some (EV.arr .u32 x12 x13)] K = zcb.l24.step (zcb.l24 (fun y0 y1 y2 y3 y4 y5 y6 y7 y8 y9 y10 y11 y12 => K (.exit 6) [EV.slice 0 0 y0 none 1, EV.int .i64 y1, EV.slice 1 0 y2 none 1, EV.slice 2 0 y3 none 1, EV.int .i64 y4, EV.int .i64 y5, EV.int .u64 y6] [some (EV.arr .u32 y7 y8), some (EV.arr .u32 y9 y10), some (EV.arr .u32 y11 y12)]) n) (fun y0 y1 y2 y3 y4 y5 y6 y7 y8 y9 y10 y11 y12 => K (.exit 6) [EV.slice 0 0 y0 none 1, EV.int .i64 y1, EV.slice 1 0 y2 none 1, EV.slice 2 0 y3 none 1, EV.int .i64 y4, EV.int .i64 y5, EV.int .u64 y6] [some (EV.arr .u32 y7 y8), some (EV.arr .u32 y9 y10), some (EV.arr .u32 y11 y12)]) x0 x1 x2 x3 x4 x5 x6 x7 x8 x9 x10 x11 x12 x13
  rw [← ih]
  exact zcb.l24X.stepEq _ K x0 x1 x2 x3 x4 x5 x6 x7 x8 x9 x10 x11 x12 x13
theorem zcb.l24X.ok : LoopEq E_zcb (yaa Tryz.f134 3) := by
 intro L hL vs H
 have h1 : E_zcb.lp (yag (yaa Tryz.f134 3)) = some zcb.l24.entry := by kernel_rfl
 have h2 : L = zcb.l24.entry := Option.some.inj (hL.symm.trans h1)
 subst h2
 by_cases hx : ∃ (x0 : Nat) (x1 : Int) (x2 : Nat) (x3 : Nat) (x4 : Int) (x5 : Int) (x6 : Int) (x7 : Int) (x8 : Nat) (x9 : Nat → Int) (x10 : Nat) (x11 : Nat → Int) (x12 : Nat) (x13 : Nat → Int), vs = [EV.slice 0 0 x0 none 1, EV.int .i64 x1, EV.slice 1 0 x2 none 1, EV.slice 2 0 x3 none 1, EV.int .i64 x4, EV.int .i64 x5, EV.int .u64 x6, EV.int .u64 x7] ∧ H = [some (EV.arr .u32 x8 x9), some (EV.arr .u32 x10 x11), some (EV.arr .u32 x12 x13)]
 ·obtain ⟨x0, x1, x2, x3, x4, x5, x6, x7, x8, x9, x10, x11, x12, x13, rfl, rfl⟩ := hx
  right; intro K
  exact exists_congr fun n => iff_of_eq (zcb.l24X.eq K n x0 x1 x2 x3 x4 x5 x6 x7 x8 x9 x10 x11 x12 x13).symm
 ·left; intro K h
  simp only [zcb.l24.entry] at h
  split at h
  ·exact hx ⟨_, _, _, _, _, _, _, _, _, _, _, _, _, _, rfl, rfl⟩
  ·exact h
theorem zcb.l31X.stepEq (R : List EV → yae → Prop) (K : Ex → List EV → yae → Prop) (x0 : Nat) (x1 : Int) (x2 : Nat) (x3 : Nat) (x4 : Int) (x5 : Int) (x6 : Int) (x7 : Int) (x8 : Int) (x9 : Int) (x10 : Int) (x11 : Nat) (x12 : Nat → Int) (x13 : Nat) (x14 : Nat → Int) (x15 : Nat) (x16 : Nat → Int) : yah (yap E_zcb (yaa Tryz.f134 4) { (LV.mk 220944 [(8, 220944), (5, 7952), (4, 1296)] 48 0 true) with nx := live (.loop (yaa Tryz.f134 4)) (LV.mk 220944 [(8, 220944), (5, 7952), (4, 1296)] 48 0 true) }) (live (.loop (yaa Tryz.f134 4)) (LV.mk 220944 [(8, 220944), (5, 7952), (4, 1296)] 48 0 true)) (LV.mk 220944 [(8, 220944), (5, 7952), (4, 1296)] 48 0 true) 0 285 R [EV.slice 0 0 x0 none 1, EV.int .i64 x1, EV.slice 1 0 x2 none 1, EV.slice 2 0 x3 none 1, EV.int .i64 x4, EV.int .i64 x5, EV.int .u64 x6, EV.int .u64 x7, EV.int .i64 x8, EV.int .i64 x9, EV.int .i64 x10] [some (EV.arr .u32 x11 x12), some (EV.arr .u32 x13 x14), some (EV.arr .u32 x15 x16)] K = zcb.l31.step (fun x0 x1 x2 x3 x4 x5 x6 x7 x8 x9 x10 x11 x12 x13 x14 x15 x16 => R [EV.slice 0 0 x0 none 1, EV.int .i64 x1, EV.slice 1 0 x2 none 1, EV.slice 2 0 x3 none 1, EV.int .i64 x4, EV.int .i64 x5, EV.int .u64 x6, EV.int .u64 x7, EV.int .i64 x8, EV.int .i64 x9, EV.int .i64 x10] [some (EV.arr .u32 x11 x12), some (EV.arr .u32 x13 x14), some (EV.arr .u32 x15 x16)]) (fun y0 y1 y2 y3 y4 y5 y6 y7 y8 y9 y10 y11 y12 y13 y14 => K (.exit 8) [EV.slice 0 0 y0 none 1, EV.int .i64 y1, EV.slice 1 0 y2 none 1, EV.slice 2 0 y3 none 1, EV.int .i64 y4, EV.int .i64 y5, EV.int .u64 y6, EV.int .u64 y7, EV.int .i64 y8] [some (EV.arr .u32 y9 y10), some (EV.arr .u32 y11 y12), some (EV.arr .u32 y13 y14)]) x0 x1 x2 x3 x4 x5 x6 x7 x8 x9 x10 x11 x12 x13 x14 x15 x16 := (yav _ _ _ _ _ _ _ _ _ _ _).symm.trans (by kernel_rfl)
theorem zcb.l31X.eq (K : Ex → List EV → yae → Prop) : ∀ (n : Nat) (x0 : Nat) (x1 : Int) (x2 : Nat) (x3 : Nat) (x4 : Int) (x5 : Int) (x6 : Int) (x7 : Int) (x8 : Int) (x9 : Int) (x10 : Int) (x11 : Nat) (x12 : Nat → Int) (x13 : Nat) (x14 : Nat → Int) (x15 : Nat) (x16 : Nat → Int), yar E_zcb (yaa Tryz.f134 4) (LV.mk 220944 [(8, 220944), (5, 7952), (4, 1296)] 48 0 true) 0 285 K n [EV.slice 0 0 x0 none 1, EV.int .i64 x1, EV.slice 1 0 x2 none 1, EV.slice 2 0 x3 none 1, EV.int .i64 x4, EV.int .i64 x5, EV.int .u64 x6, EV.int .u64 x7, EV.int .i64 x8, EV.int .i64 x9, EV.int .i64 x10] [some (EV.arr .u32 x11 x12), some (EV.arr .u32 x13 x14), some (EV.arr .u32 x15 x16)] = zcb.l31 (fun y0 y1 y2 y3 y4 y5 y6 y7 y8 y9 y10 y11 y12 y13 y14 => K (.exit 8) [EV.slice 0 0 y0 none 1, EV.int .i64 y1, EV.slice 1 0 y2 none 1, EV.slice 2 0 y3 none 1, EV.int .i64 y4, EV.int .i64 y5, EV.int .u64 y6, EV.int .u64 y7, EV.int .i64 y8] [some (EV.arr .u32 y9 y10), some (EV.arr .u32 y11 y12), some (EV.arr .u32 y13 y14)]) n x0 x1 x2 x3 x4 x5 x6 x7 x8 x9 x10 x11 x12 x13 x14 x15 x16
 | 0, _, _, _, _, _, _, _, _, _, _, _, _, _, _, _, _, _ => rfl
 | n + 1, x0, x1, x2, x3, x4, x5, x6, x7, x8, x9, x10, x11, x12, x13, x14, x15, x16 => by
  have ih : (fun (x0 : Nat) (x1 : Int) (x2 : Nat) (x3 : Nat) (x4 : Int) (x5 : Int) (x6 : Int) (x7 : Int) (x8 : Int) (x9 : Int) (x10 : Int) (x11 : Nat) (x12 : Nat → Int) (x13 : Nat) (x14 : Nat → Int) (x15 : Nat) (x16 : Nat → Int) => yar E_zcb (yaa Tryz.f134 4) (LV.mk 220944 [(8, 220944), (5, 7952), (4, 1296)] 48 0 true) 0 285 K n [EV.slice 0 0 x0 none 1, EV.int .i64 x1, EV.slice 1 0 x2 none 1, EV.slice 2 0 x3 none 1, EV.int .i64 x4, EV.int .i64 x5, EV.int .u64 x6, EV.int .u64 x7, EV.int .i64 x8, EV.int .i64 x9, EV.int .i64 x10] [some (EV.arr .u32 x11 x12), some (EV.arr .u32 x13 x14), some (EV.arr .u32 x15 x16)]) = zcb.l31 (fun y0 y1 y2 y3 y4 y5 y6 y7 y8 y9 y10 y11 y12 y13 y14 => K (.exit 8) [EV.slice 0 0 y0 none 1, EV.int .i64 y1, EV.slice 1 0 y2 none 1, EV.slice 2 0 y3 none 1, EV.int .i64 y4, EV.int .i64 y5, EV.int .u64 y6, EV.int .u64 y7, EV.int .i64 y8] [some (EV.arr .u32 y9 y10), some (EV.arr .u32 y11 y12), some (EV.arr .u32 y13 y14)]) n := by funext x0 x1 x2 x3 x4 x5 x6 x7 x8 x9 x10 x11 x12 x13 x14 x15 x16; exact zcb.l31X.eq K n x0 x1 x2 x3 x4 x5 x6 x7 x8 x9 x10 x11 x12 x13 x14 x15 x16
  show yah _ _ _ _ _ (yar E_zcb (yaa Tryz.f134 4) (LV.mk 220944 [(8, 220944), (5, 7952), (4, 1296)] 48 0 true) 0 285 K n) [EV.slice 0 0 x0 none 1, EV.int .i64 x1, EV.slice 1 0 x2 none 1, EV.slice 2 0 x3 none 1, EV.int .i64 x4, EV.int .i64 x5, EV.int .u64 x6, EV.int .u64 x7, EV.int .i64 x8, EV.int .i64 x9, EV.int .i64 x10] [some (EV.arr .u32 x11 x12), some (EV.arr .u32 x13 x14), some (EV.arr .u32 x15 x16)] K = zcb.l31.step (zcb.l31 (fun y0 y1 y2 y3 y4 y5 y6 y7 y8 y9 y10 y11 y12 y13 y14 => K (.exit 8) [EV.slice 0 0 y0 none 1, EV.int .i64 y1, EV.slice 1 0 y2 none 1, EV.slice 2 0 y3 none 1, EV.int .i64 y4, EV.int .i64 y5, EV.int .u64 y6, EV.int .u64 y7, EV.int .i64 y8] [some (EV.arr .u32 y9 y10), some (EV.arr .u32 y11 y12), some (EV.arr .u32 y13 y14)]) n) (fun y0 y1 y2 y3 y4 y5 y6 y7 y8 y9 y10 y11 y12 y13 y14 => K (.exit 8) [EV.slice 0 0 y0 none 1, EV.int .i64 y1, EV.slice 1 0 y2 none 1, EV.slice 2 0 y3 none 1, EV.int .i64 y4, EV.int .i64 y5, EV.int .u64 y6, EV.int .u64 y7, EV.int .i64 y8] [some (EV.arr .u32 y9 y10), some (EV.arr .u32 y11 y12), some (EV.arr .u32 y13 y14)]) x0 x1 x2 x3 x4 x5 x6 x7 x8 x9 x10 x11 x12 x13 x14 x15 x16
  rw [← ih]
  exact zcb.l31X.stepEq _ K x0 x1 x2 x3 x4 x5 x6 x7 x8 x9 x10 x11 x12 x13 x14 x15 x16
theorem zcb.l31X.ok : LoopEq E_zcb (yaa Tryz.f134 4) := by
 intro L hL vs H
 have h1 : E_zcb.lp (yag (yaa Tryz.f134 4)) = some zcb.l31.entry := by kernel_rfl
 have h2 : L = zcb.l31.entry := Option.some.inj (hL.symm.trans h1)
 subst h2
 by_cases hx : ∃ (x0 : Nat) (x1 : Int) (x2 : Nat) (x3 : Nat) (x4 : Int) (x5 : Int) (x6 : Int) (x7 : Int) (x8 : Int) (x9 : Int) (x10 : Int) (x11 : Nat) (x12 : Nat → Int) (x13 : Nat) (x14 : Nat → Int) (x15 : Nat) (x16 : Nat → Int), vs = [EV.slice 0 0 x0 none 1, EV.int .i64 x1, EV.slice 1 0 x2 none 1, EV.slice 2 0 x3 none 1, EV.int .i64 x4, EV.int .i64 x5, EV.int .u64 x6, EV.int .u64 x7, EV.int .i64 x8, EV.int .i64 x9, EV.int .i64 x10] ∧ H = [some (EV.arr .u32 x11 x12), some (EV.arr .u32 x13 x14), some (EV.arr .u32 x15 x16)]
 ·obtain ⟨x0, x1, x2, x3, x4, x5, x6, x7, x8, x9, x10, x11, x12, x13, x14, x15, x16, rfl, rfl⟩ := hx
  right; intro K
  exact exists_congr fun n => iff_of_eq (zcb.l31X.eq K n x0 x1 x2 x3 x4 x5 x6 x7 x8 x9 x10 x11 x12 x13 x14 x15 x16).symm
 ·left; intro K h
  simp only [zcb.l31.entry] at h
  split at h
  ·exact hx ⟨_, _, _, _, _, _, _, _, _, _, _, _, _, _, _, _, _, rfl, rfl⟩
  ·exact h
theorem zcb.l45X.stepEq (R : List EV → yae → Prop) (K : Ex → List EV → yae → Prop) (x0 : Nat) (x1 : Int) (x2 : Nat) (x3 : Nat) (x4 : Int) (x5 : Int) (x6 : Int) (x7 : Int) (x8 : Int) (x9 : Int) (x10 : Nat) (x11 : Nat → Int) (x12 : Nat) (x13 : Nat → Int) (x14 : Nat) (x15 : Nat → Int) : yah (yap E_zcb (yaa Tryz.f134 5) { (LV.mk 89872 [(10, 89872), (5, 7952), (4, 1296)] 48 0 true) with nx := live (.loop (yaa Tryz.f134 5)) (LV.mk 89872 [(10, 89872), (5, 7952), (4, 1296)] 48 0 true) }) (live (.loop (yaa Tryz.f134 5)) (LV.mk 89872 [(10, 89872), (5, 7952), (4, 1296)] 48 0 true)) (LV.mk 89872 [(10, 89872), (5, 7952), (4, 1296)] 48 0 true) 0 285 R [EV.slice 0 0 x0 none 1, EV.int .i64 x1, EV.slice 1 0 x2 none 1, EV.slice 2 0 x3 none 1, EV.int .i64 x4, EV.int .i64 x5, EV.int .u64 x6, EV.int .u64 x7, EV.int .i64 x8, EV.int .i64 x9] [some (EV.arr .u32 x10 x11), some (EV.arr .u32 x12 x13), some (EV.arr .u32 x14 x15)] K = zcb.l45.step (fun x0 x1 x2 x3 x4 x5 x6 x7 x8 x9 x10 x11 x12 x13 x14 x15 => R [EV.slice 0 0 x0 none 1, EV.int .i64 x1, EV.slice 1 0 x2 none 1, EV.slice 2 0 x3 none 1, EV.int .i64 x4, EV.int .i64 x5, EV.int .u64 x6, EV.int .u64 x7, EV.int .i64 x8, EV.int .i64 x9] [some (EV.arr .u32 x10 x11), some (EV.arr .u32 x12 x13), some (EV.arr .u32 x14 x15)]) (fun y0 y1 y2 y3 y4 y5 y6 y7 y8 y9 y10 y11 y12 y13 => K (.exit 10) [EV.slice 0 0 y0 none 1, EV.int .i64 y1, EV.slice 1 0 y2 none 1, EV.slice 2 0 y3 none 1, EV.int .i64 y4, EV.int .i64 y5, EV.int .u64 y6, EV.int .u64 y7] [some (EV.arr .u32 y8 y9), some (EV.arr .u32 y10 y11), some (EV.arr .u32 y12 y13)]) x0 x1 x2 x3 x4 x5 x6 x7 x8 x9 x10 x11 x12 x13 x14 x15 := (yav _ _ _ _ _ _ _ _ _ _ _).symm.trans (by kernel_rfl)
theorem zcb.l45X.eq (K : Ex → List EV → yae → Prop) : ∀ (n : Nat) (x0 : Nat) (x1 : Int) (x2 : Nat) (x3 : Nat) (x4 : Int) (x5 : Int) (x6 : Int) (x7 : Int) (x8 : Int) (x9 : Int) (x10 : Nat) (x11 : Nat → Int) (x12 : Nat) (x13 : Nat → Int) (x14 : Nat) (x15 : Nat → Int), yar E_zcb (yaa Tryz.f134 5) (LV.mk 89872 [(10, 89872), (5, 7952), (4, 1296)] 48 0 true) 0 285 K n [EV.slice 0 0 x0 none 1, EV.int .i64 x1, EV.slice 1 0 x2 none 1, EV.slice 2 0 x3 none 1, EV.int .i64 x4, EV.int .i64 x5, EV.int .u64 x6, EV.int .u64 x7, EV.int .i64 x8, EV.int .i64 x9] [some (EV.arr .u32 x10 x11), some (EV.arr .u32 x12 x13), some (EV.arr .u32 x14 x15)] = zcb.l45 (fun y0 y1 y2 y3 y4 y5 y6 y7 y8 y9 y10 y11 y12 y13 => K (.exit 10) [EV.slice 0 0 y0 none 1, EV.int .i64 y1, EV.slice 1 0 y2 none 1, EV.slice 2 0 y3 none 1, EV.int .i64 y4, EV.int .i64 y5, EV.int .u64 y6, EV.int .u64 y7] [some (EV.arr .u32 y8 y9), some (EV.arr .u32 y10 y11), some (EV.arr .u32 y12 y13)]) n x0 x1 x2 x3 x4 x5 x6 x7 x8 x9 x10 x11 x12 x13 x14 x15
 | 0, _, _, _, _, _, _, _, _, _, _, _, _, _, _, _, _ => rfl
 | n + 1, x0, x1, x2, x3, x4, x5, x6, x7, x8, x9, x10, x11, x12, x13, x14, x15 => by
  have ih : (fun (x0 : Nat) (x1 : Int) (x2 : Nat) (x3 : Nat) (x4 : Int) (x5 : Int) (x6 : Int) (x7 : Int) (x8 : Int) (x9 : Int) (x10 : Nat) (x11 : Nat → Int) (x12 : Nat) (x13 : Nat → Int) (x14 : Nat) (x15 : Nat → Int) => yar E_zcb (yaa Tryz.f134 5) (LV.mk 89872 [(10, 89872), (5, 7952), (4, 1296)] 48 0 true) 0 285 K n [EV.slice 0 0 x0 none 1, EV.int .i64 x1, EV.slice 1 0 x2 none 1, EV.slice 2 0 x3 none 1, EV.int .i64 x4, EV.int .i64 x5, EV.int .u64 x6, EV.int .u64 x7, EV.int .i64 x8, EV.int .i64 x9] [some (EV.arr .u32 x10 x11), some (EV.arr .u32 x12 x13), some (EV.arr .u32 x14 x15)]) = zcb.l45 (fun y0 y1 y2 y3 y4 y5 y6 y7 y8 y9 y10 y11 y12 y13 => K (.exit 10) [EV.slice 0 0 y0 none 1, EV.int .i64 y1, EV.slice 1 0 y2 none 1, EV.slice 2 0 y3 none 1, EV.int .i64 y4, EV.int .i64 y5, EV.int .u64 y6, EV.int .u64 y7] [some (EV.arr .u32 y8 y9), some (EV.arr .u32 y10 y11), some (EV.arr .u32 y12 y13)]) n := by funext x0 x1 x2 x3 x4 x5 x6 x7 x8 x9 x10 x11 x12 x13 x14 x15; exact zcb.l45X.eq K n x0 x1 x2 x3 x4 x5 x6 x7 x8 x9 x10 x11 x12 x13 x14 x15
  show yah _ _ _ _ _ (yar E_zcb (yaa Tryz.f134 5) (LV.mk 89872 [(10, 89872), (5, 7952), (4, 1296)] 48 0 true) 0 285 K n) [EV.slice 0 0 x0 none 1, EV.int .i64 x1, EV.slice 1 0 x2 none 1, EV.slice 2 0 x3 none 1, EV.int .i64 x4, EV.int .i64 x5, EV.int .u64 x6, EV.int .u64 x7, EV.int .i64 x8, EV.int .i64 x9] [some (EV.arr .u32 x10 x11), some (EV.arr .u32 x12 x13), some (EV.arr .u32 x14 x15)] K = zcb.l45.step (zcb.l45 (fun y0 y1 y2 y3 y4 y5 y6 y7 y8 y9 y10 y11 y12 y13 => K (.exit 10) [EV.slice 0 0 y0 none 1, EV.int .i64 y1, EV.slice 1 0 y2 none 1, EV.slice 2 0 y3 none 1, EV.int .i64 y4, EV.int .i64 y5, EV.int .u64 y6, EV.int .u64 y7] [some (EV.arr .u32 y8 y9), some (EV.arr .u32 y10 y11), some (EV.arr .u32 y12 y13)]) n) (fun y0 y1 y2 y3 y4 y5 y6 y7 y8 y9 y10 y11 y12 y13 => K (.exit 10) [EV.slice 0 0 y0 none 1, EV.int .i64 y1, EV.slice 1 0 y2 none 1, EV.slice 2 0 y3 none 1, EV.int .i64 y4, EV.int .i64 y5, EV.int .u64 y6, EV.int .u64 y7] [some (EV.arr .u32 y8 y9), some (EV.arr .u32 y10 y11), some (EV.arr .u32 y12 y13)]) x0 x1 x2 x3 x4 x5 x6 x7 x8 x9 x10 x11 x12 x13 x14 x15
  rw [← ih]
  exact zcb.l45X.stepEq _ K x0 x1 x2 x3 x4 x5 x6 x7 x8 x9 x10 x11 x12 x13 x14 x15
theorem zcb.l45X.ok : LoopEq E_zcb (yaa Tryz.f134 5) := by
 intro L hL vs H
 have h1 : E_zcb.lp (yag (yaa Tryz.f134 5)) = some zcb.l45.entry := by kernel_rfl
 have h2 : L = zcb.l45.entry := Option.some.inj (hL.symm.trans h1)
 subst h2
 by_cases hx : ∃ (x0 : Nat) (x1 : Int) (x2 : Nat) (x3 : Nat) (x4 : Int) (x5 : Int) (x6 : Int) (x7 : Int) (x8 : Int) (x9 : Int) (x10 : Nat) (x11 : Nat → Int) (x12 : Nat) (x13 : Nat → Int) (x14 : Nat) (x15 : Nat → Int), vs = [EV.slice 0 0 x0 none 1, EV.int .i64 x1, EV.slice 1 0 x2 none 1, EV.slice 2 0 x3 none 1, EV.int .i64 x4, EV.int .i64 x5, EV.int .u64 x6, EV.int .u64 x7, EV.int .i64 x8, EV.int .i64 x9] ∧ H = [some (EV.arr .u32 x10 x11), some (EV.arr .u32 x12 x13), some (EV.arr .u32 x14 x15)]
 ·obtain ⟨x0, x1, x2, x3, x4, x5, x6, x7, x8, x9, x10, x11, x12, x13, x14, x15, rfl, rfl⟩ := hx
  right; intro K
  exact exists_congr fun n => iff_of_eq (zcb.l45X.eq K n x0 x1 x2 x3 x4 x5 x6 x7 x8 x9 x10 x11 x12 x13 x14 x15).symm
 ·left; intro K h
  simp only [zcb.l45.entry] at h
  split at h
  ·exact hx ⟨_, _, _, _, _, _, _, _, _, _, _, _, _, _, _, _, rfl, rfl⟩
  ·exact h
theorem X_zcb.eq (a0n : Nat) (a0 : Nat → Int) (a1n : Nat) (a1 : Nat → Int) (K : EV → yae → Prop) : yaK E_zcb Tryz.f134 false [.rsI .u32 a0n a0, .rsI .u32 a1n a1] [] K = zcb a0n a0 a1n a1 (fun y0 y1 y2 y3 => K (EV.tuple [EV.rsI .u32 y0 y1, EV.rsI .u32 y2 y3]) []) := by
 rw [zcb.is]; exact (yac _ _ _ _ _ _).symm.trans (by kernel_rfl)
theorem X_zcb.ok : SoundE Tryz.prog gl 134 e_zcb := by
 refine yaO (E := E_zcb) (fn := Tryz.f134) rfl tys_ok rfl (show yaM _ l_zcb from ⟨X_zbt.ok, X_zen.ok, X_nat_upN.ok, X_zbx.ok, X_nat_cut.ok, trivial⟩) mixed (by kernel_rfl) (by kernel_rfl) (by kernel_rfl) 6 (by kernel_rfl) false ⟨zcb.l7X.ok, zcb.l16X.ok, zcb.l20X.ok, zcb.l24X.ok, zcb.l31X.ok, zcb.l45X.ok, trivial⟩ ?_
 intro args H
 by_cases hx : ∃ (a0n : Nat) (a0 : Nat → Int) (a1n : Nat) (a1 : Nat → Int), args = [.rsI .u32 a0n a0, .rsI .u32 a1n a1] ∧ H = []
 ·obtain ⟨a0n, a0, a1n, a1, rfl, rfl⟩ := hx
  right; intro K
  exact iff_of_eq (X_zcb.eq a0n a0 a1n a1 K).symm
 ·left; intro K h
  simp only [e_zcb] at h
  split at h
  ·exact hx ⟨_, _, _, _, rfl, rfl⟩
  ·exact h
noncomputable def e_zbj : Entry := ⟨[none, none], false, fun args H K => match args, H with
 | [.str a0, .str a1], [] => zbj a0 a1 (fun y0 y1 => K (EV.tuple [EV.str y0, EV.int .i64 y1]) [])
 | _, _ => False⟩
noncomputable def l_zbj : List (Nat × Entry) := [(94, e_zcc), (96, e_zci), (133, e_zca), (134, e_zcb)]
noncomputable def E_zbj : Env := ⟨look tys, look l_zbj, look [(4, zbj.l4.entry)], gl, yaq [], false⟩
theorem zbj.l4X.stepEq (R : List EV → yae → Prop) (K : Ex → List EV → yae → Prop) (x0 : Nat) (x1 : Nat → Int) (x2 : Nat) (x3 : Nat → Int) : yah (yap E_zbj (yaa Tryz.f87 0) { (LV.mk 64 [(0, 64)] 48 0 false) with nx := live (.loop (yaa Tryz.f87 0)) (LV.mk 64 [(0, 64)] 48 0 false) }) (live (.loop (yaa Tryz.f87 0)) (LV.mk 64 [(0, 64)] 48 0 false)) (LV.mk 64 [(0, 64)] 48 0 false) 0 31 R [EV.rsI .u32 x0 x1, EV.rsI .u32 x2 x3] [] K = zbj.l4.step (fun x0 x1 x2 x3 => R [EV.rsI .u32 x0 x1, EV.rsI .u32 x2 x3] []) (fun y0 y1 => K (.exit 0) [EV.rsI .u32 y0 y1] []) x0 x1 x2 x3 := (yav _ _ _ _ _ _ _ _ _ _ _).symm.trans (by kernel_rfl)
theorem zbj.l4X.eq (K : Ex → List EV → yae → Prop) : ∀ (n : Nat) (x0 : Nat) (x1 : Nat → Int) (x2 : Nat) (x3 : Nat → Int), yar E_zbj (yaa Tryz.f87 0) (LV.mk 64 [(0, 64)] 48 0 false) 0 31 K n [EV.rsI .u32 x0 x1, EV.rsI .u32 x2 x3] [] = zbj.l4 (fun y0 y1 => K (.exit 0) [EV.rsI .u32 y0 y1] []) n x0 x1 x2 x3
 | 0, _, _, _, _ => rfl
 | n + 1, x0, x1, x2, x3 => by
  have ih : (fun (x0 : Nat) (x1 : Nat → Int) (x2 : Nat) (x3 : Nat → Int) => yar E_zbj (yaa Tryz.f87 0) (LV.mk 64 [(0, 64)] 48 0 false) 0 31 K n [EV.rsI .u32 x0 x1, EV.rsI .u32 x2 x3] []) = zbj.l4 (fun y0 y1 => K (.exit 0) [EV.rsI .u32 y0 y1] []) n := by funext x0 x1 x2 x3; exact zbj.l4X.eq K n x0 x1 x2 x3
  show yah _ _ _ _ _ (yar E_zbj (yaa Tryz.f87 0) (LV.mk 64 [(0, 64)] 48 0 false) 0 31 K n) [EV.rsI .u32 x0 x1, EV.rsI .u32 x2 x3] [] K = zbj.l4.step (zbj.l4 (fun y0 y1 => K (.exit 0) [EV.rsI .u32 y0 y1] []) n) (fun y0 y1 => K (.exit 0) [EV.rsI .u32 y0 y1] []) x0 x1 x2 x3
  rw [← ih]
  exact zbj.l4X.stepEq _ K x0 x1 x2 x3
theorem zbj.l4X.ok : LoopEq E_zbj (yaa Tryz.f87 0) := by
 intro L hL vs H
 have h1 : E_zbj.lp (yag (yaa Tryz.f87 0)) = some zbj.l4.entry := by kernel_rfl
 have h2 : L = zbj.l4.entry := Option.some.inj (hL.symm.trans h1)
 subst h2
 by_cases hx : ∃ (x0 : Nat) (x1 : Nat → Int) (x2 : Nat) (x3 : Nat → Int), vs = [EV.rsI .u32 x0 x1, EV.rsI .u32 x2 x3] ∧ H = []
 ·obtain ⟨x0, x1, x2, x3, rfl, rfl⟩ := hx
  right; intro K
  exact exists_congr fun n => iff_of_eq (zbj.l4X.eq K n x0 x1 x2 x3).symm
 ·left; intro K h
  simp only [zbj.l4.entry] at h
  split at h
  ·exact hx ⟨_, _, _, _, rfl, rfl⟩
  ·exact h
theorem X_zbj.eq (a0 : List UInt8) (a1 : List UInt8) (K : EV → yae → Prop) : yaK E_zbj Tryz.f87 false [.str a0, .str a1] [] K = zbj a0 a1 (fun y0 y1 => K (EV.tuple [EV.str y0, EV.int .i64 y1]) []) := by
 rw [zbj.is]; exact (yac _ _ _ _ _ _).symm.trans (by kernel_rfl)
theorem X_zbj.ok : SoundE Tryz.prog gl 87 e_zbj := by
 refine yaO (E := E_zbj) (fn := Tryz.f87) rfl tys_ok rfl (show yaM _ l_zbj from ⟨X_zcc.ok, X_zci.ok, X_zca.ok, X_zcb.ok, trivial⟩) mixed (by kernel_rfl) (by kernel_rfl) (by kernel_rfl) 1 (by kernel_rfl) false ⟨zbj.l4X.ok, trivial⟩ ?_
 intro args H
 by_cases hx : ∃ (a0 : List UInt8) (a1 : List UInt8), args = [.str a0, .str a1] ∧ H = []
 ·obtain ⟨a0, a1, rfl, rfl⟩ := hx
  right; intro K
  exact iff_of_eq (X_zbj.eq a0 a1 K).symm
 ·left; intro K h
  simp only [e_zbj] at h
  split at h
  ·exact hx ⟨_, _, rfl, rfl⟩
  ·exact h
noncomputable def e_zae : Entry := ⟨[none], false, fun args H K => match args, H with
 | [.agg [.bool a0_0, .str a0_1, .str a0_2, .int .i64 a0_3]], [] => zae a0_0 a0_1 a0_2 a0_3 (fun y0 => K (EV.int .i64 y0) [])
 | _, _ => False⟩
noncomputable def l_zae : List (Nat × Entry) := [(47, e_zao), (84, e_zbg), (85, e_zap), (86, e_zas), (87, e_zbj)]
noncomputable def E_zae : Env := ⟨look tys, look l_zae, look [], gl, yaq [], false⟩
theorem X_zae.eq (a0_0 : Bool) (a0_1 : List UInt8) (a0_2 : List UInt8) (a0_3 : Int) (K : EV → yae → Prop) : yaK E_zae Tryz.f45 false [.agg [.bool a0_0, .str a0_1, .str a0_2, .int .i64 a0_3]] [] K = zae a0_0 a0_1 a0_2 a0_3 (fun y0 => K (EV.int .i64 y0) []) := by
 rw [zae.is]; exact (yac _ _ _ _ _ _).symm.trans (by kernel_rfl)
theorem X_zae.ok : SoundE Tryz.prog gl 45 e_zae := by
 refine yaO (E := E_zae) (fn := Tryz.f45) rfl tys_ok rfl (show yaM _ l_zae from ⟨X_zao.ok, X_zbg.ok, X_zap.ok, X_zas.ok, X_zbj.ok, trivial⟩) mixed (by kernel_rfl) (by kernel_rfl) (by kernel_rfl) 0 (by kernel_rfl) false trivial ?_
 intro args H
 by_cases hx : ∃ (a0_0 : Bool) (a0_1 : List UInt8) (a0_2 : List UInt8) (a0_3 : Int), args = [.agg [.bool a0_0, .str a0_1, .str a0_2, .int .i64 a0_3]] ∧ H = []
 ·obtain ⟨a0_0, a0_1, a0_2, a0_3, rfl, rfl⟩ := hx
  right; intro K
  exact iff_of_eq (X_zae.eq a0_0 a0_1 a0_2 a0_3 K).symm
 ·left; intro K h
  simp only [e_zae] at h
  split at h
  ·exact hx ⟨_, _, _, _, rfl, rfl⟩
  ·exact h
noncomputable def e_zac : Entry := ⟨[none], false, fun args H K => match args, H with
 | [.agg [.bool a0_0, .str a0_1, .str a0_2, .int .i64 a0_3]], [] => zac a0_0 a0_1 a0_2 a0_3 (fun y0 y1 y2 y3 => K (EV.agg [EV.bool y0, EV.str y1, EV.str y2, EV.int .i64 y3]) [])
 | _, _ => False⟩
noncomputable def l_zac : List (Nat × Entry) := [(45, e_zae)]
noncomputable def E_zac : Env := ⟨look tys, look l_zac, look [], gl, yaq [], false⟩
theorem X_zac.eq (a0_0 : Bool) (a0_1 : List UInt8) (a0_2 : List UInt8) (a0_3 : Int) (K : EV → yae → Prop) : yaK E_zac Tryz.f26 false [.agg [.bool a0_0, .str a0_1, .str a0_2, .int .i64 a0_3]] [] K = zac a0_0 a0_1 a0_2 a0_3 (fun y0 y1 y2 y3 => K (EV.agg [EV.bool y0, EV.str y1, EV.str y2, EV.int .i64 y3]) []) := by
 rw [zac.is]; exact (yac _ _ _ _ _ _).symm.trans (by kernel_rfl)
theorem X_zac.ok : SoundE Tryz.prog gl 26 e_zac := by
 refine yaO (E := E_zac) (fn := Tryz.f26) rfl tys_ok rfl (show yaM _ l_zac from ⟨X_zae.ok, trivial⟩) mixed (by kernel_rfl) (by kernel_rfl) (by kernel_rfl) 0 (by kernel_rfl) false trivial ?_
 intro args H
 by_cases hx : ∃ (a0_0 : Bool) (a0_1 : List UInt8) (a0_2 : List UInt8) (a0_3 : Int), args = [.agg [.bool a0_0, .str a0_1, .str a0_2, .int .i64 a0_3]] ∧ H = []
 ·obtain ⟨a0_0, a0_1, a0_2, a0_3, rfl, rfl⟩ := hx
  right; intro K
  exact iff_of_eq (X_zac.eq a0_0 a0_1 a0_2 a0_3 K).symm
 ·left; intro K h
  simp only [e_zac] at h
  split at h
  ·exact hx ⟨_, _, _, _, rfl, rfl⟩
  ·exact h
noncomputable def e_zdn : Entry := ⟨[none], false, fun args H K => match args, H with
 | [.int .u8 a0], [] => zdn a0 (fun y0 => K (EV.int .i64 y0) [])
 | _, _ => False⟩
noncomputable def E_zdn : Env := ⟨look tys, look [], look [], gl, yaq [], false⟩
theorem X_zdn.eq (a0 : Int) (K : EV → yae → Prop) : yaK E_zdn Tryz.f56 false [.int .u8 a0] [] K = zdn a0 (fun y0 => K (EV.int .i64 y0) []) := by
 rw [zdn.is]; exact (yac _ _ _ _ _ _).symm.trans (by kernel_rfl)
theorem X_zdn.ok : SoundE Tryz.prog gl 56 e_zdn := by
 refine yaO (E := E_zdn) (fn := Tryz.f56) rfl tys_ok rfl (show yaM _ [] from trivial) mixed (by kernel_rfl) (by kernel_rfl) (by kernel_rfl) 0 (by kernel_rfl) false trivial ?_
 intro args H
 by_cases hx : ∃ (a0 : Int), args = [.int .u8 a0] ∧ H = []
 ·obtain ⟨a0, rfl, rfl⟩ := hx
  right; intro K
  exact iff_of_eq (X_zdn.eq a0 K).symm
 ·left; intro K h
  simp only [e_zdn] at h
  split at h
  ·exact hx ⟨_, rfl, rfl⟩
  ·exact h
noncomputable def e_zdo : Entry := ⟨[none], false, fun args H K => match args, H with
 | [.int .u8 a0], [] => zdo a0 (fun y0 => K (EV.int .i64 y0) [])
 | _, _ => False⟩
noncomputable def E_zdo : Env := ⟨look tys, look [], look [], gl, yaq [], false⟩
theorem X_zdo.eq (a0 : Int) (K : EV → yae → Prop) : yaK E_zdo Tryz.f57 false [.int .u8 a0] [] K = zdo a0 (fun y0 => K (EV.int .i64 y0) []) := by
 rw [zdo.is]; exact (yac _ _ _ _ _ _).symm.trans (by kernel_rfl)
theorem X_zdo.ok : SoundE Tryz.prog gl 57 e_zdo := by
 refine yaO (E := E_zdo) (fn := Tryz.f57) rfl tys_ok rfl (show yaM _ [] from trivial) mixed (by kernel_rfl) (by kernel_rfl) (by kernel_rfl) 0 (by kernel_rfl) false trivial ?_
 intro args H
 by_cases hx : ∃ (a0 : Int), args = [.int .u8 a0] ∧ H = []
 ·obtain ⟨a0, rfl, rfl⟩ := hx
  right; intro K
  exact iff_of_eq (X_zdo.eq a0 K).symm
 ·left; intro K h
  simp only [e_zdo] at h
  split at h
  ·exact hx ⟨_, rfl, rfl⟩
  ·exact h
noncomputable def e_zdf : Entry := ⟨[none, none, none, none], false, fun args H K => match args, H with
 | [.int .u8 a0, .int .u8 a1, .agg [.bool a2_0, .str a2_1, .str a2_2, .int .i64 a2_3], .bool a3], [] => zdf a0 a1 a2_0 a2_1 a2_2 a2_3 a3 (fun y0 => K (EV.int .i64 y0) [])
 | _, _ => False⟩
noncomputable def l_zdf : List (Nat × Entry) := [(45, e_zae), (56, e_zdn), (57, e_zdo)]
noncomputable def E_zdf : Env := ⟨look tys, look l_zdf, look [], gl, yaq [], false⟩
theorem X_zdf.eq (a0 : Int) (a1 : Int) (a2_0 : Bool) (a2_1 : List UInt8) (a2_2 : List UInt8) (a2_3 : Int) (a3 : Bool) (K : EV → yae → Prop) : yaK E_zdf Tryz.f31 false [.int .u8 a0, .int .u8 a1, .agg [.bool a2_0, .str a2_1, .str a2_2, .int .i64 a2_3], .bool a3] [] K = zdf a0 a1 a2_0 a2_1 a2_2 a2_3 a3 (fun y0 => K (EV.int .i64 y0) []) := by
 rw [zdf.is]; exact (yac _ _ _ _ _ _).symm.trans (by kernel_rfl)
theorem X_zdf.ok : SoundE Tryz.prog gl 31 e_zdf := by
 refine yaO (E := E_zdf) (fn := Tryz.f31) rfl tys_ok rfl (show yaM _ l_zdf from ⟨X_zae.ok, X_zdn.ok, X_zdo.ok, trivial⟩) mixed (by kernel_rfl) (by kernel_rfl) (by kernel_rfl) 0 (by kernel_rfl) false trivial ?_
 intro args H
 by_cases hx : ∃ (a0 : Int) (a1 : Int) (a2_0 : Bool) (a2_1 : List UInt8) (a2_2 : List UInt8) (a2_3 : Int) (a3 : Bool), args = [.int .u8 a0, .int .u8 a1, .agg [.bool a2_0, .str a2_1, .str a2_2, .int .i64 a2_3], .bool a3] ∧ H = []
 ·obtain ⟨a0, a1, a2_0, a2_1, a2_2, a2_3, a3, rfl, rfl⟩ := hx
  right; intro K
  exact iff_of_eq (X_zdf.eq a0 a1 a2_0 a2_1 a2_2 a2_3 a3 K).symm
 ·left; intro K h
  simp only [e_zdf] at h
  split at h
  ·exact hx ⟨_, _, _, _, _, _, _, rfl, rfl⟩
  ·exact h
noncomputable def e_zbh : Entry := ⟨[none, none], false, fun args H K => match args, H with
 | [.str a0, .str a1], [] => zbh a0 a1 (fun y0 y1 => K (EV.tuple [EV.int .i64 y0, EV.int .i64 y1]) [])
 | _, _ => False⟩
noncomputable def l_zbh : List (Nat × Entry) := [(94, e_zcc), (95, e_zbt), (96, e_zci)]
noncomputable def E_zbh : Env := ⟨look tys, look l_zbh, look [], gl, yaq [], false⟩
theorem X_zbh.eq (a0 : List UInt8) (a1 : List UInt8) (K : EV → yae → Prop) : yaK E_zbh Tryz.f55 false [.str a0, .str a1] [] K = zbh a0 a1 (fun y0 y1 => K (EV.tuple [EV.int .i64 y0, EV.int .i64 y1]) []) := by
 rw [zbh.is]; exact (yac _ _ _ _ _ _).symm.trans (by kernel_rfl)
theorem X_zbh.ok : SoundE Tryz.prog gl 55 e_zbh := by
 refine yaO (E := E_zbh) (fn := Tryz.f55) rfl tys_ok rfl (show yaM _ l_zbh from ⟨X_zcc.ok, X_zbt.ok, X_zci.ok, trivial⟩) mixed (by kernel_rfl) (by kernel_rfl) (by kernel_rfl) 0 (by kernel_rfl) false trivial ?_
 intro args H
 by_cases hx : ∃ (a0 : List UInt8) (a1 : List UInt8), args = [.str a0, .str a1] ∧ H = []
 ·obtain ⟨a0, a1, rfl, rfl⟩ := hx
  right; intro K
  exact iff_of_eq (X_zbh.eq a0 a1 K).symm
 ·left; intro K h
  simp only [e_zbh] at h
  split at h
  ·exact hx ⟨_, _, rfl, rfl⟩
  ·exact h
noncomputable def e_zbl : Entry := ⟨[none], false, fun args H K => match args, H with
 | [.str a0], [] => zbl a0 (fun y0 => K (EV.int .i64 y0) [])
 | _, _ => False⟩
noncomputable def l_zbl : List (Nat × Entry) := [(84, e_zbg), (102, e_zen)]
noncomputable def E_zbl : Env := ⟨look tys, look l_zbl, look [], gl, yaq [], false⟩
theorem X_zbl.eq (a0 : List UInt8) (K : EV → yae → Prop) : yaK E_zbl Tryz.f64 false [.str a0] [] K = zbl a0 (fun y0 => K (EV.int .i64 y0) []) := by
 rw [zbl.is]; exact (yac _ _ _ _ _ _).symm.trans (by kernel_rfl)
theorem X_zbl.ok : SoundE Tryz.prog gl 64 e_zbl := by
 refine yaO (E := E_zbl) (fn := Tryz.f64) rfl tys_ok rfl (show yaM _ l_zbl from ⟨X_zbg.ok, X_zen.ok, trivial⟩) mixed (by kernel_rfl) (by kernel_rfl) (by kernel_rfl) 0 (by kernel_rfl) false trivial ?_
 intro args H
 by_cases hx : ∃ (a0 : List UInt8), args = [.str a0] ∧ H = []
 ·obtain ⟨a0, rfl, rfl⟩ := hx
  right; intro K
  exact iff_of_eq (X_zbl.eq a0 K).symm
 ·left; intro K h
  simp only [e_zbl] at h
  split at h
  ·exact hx ⟨_, rfl, rfl⟩
  ·exact h
noncomputable def e_zcf : Entry := ⟨[some .u32], false, fun args H K => match args, H with
 | [.rsI .u32 a0n a0], [] => zcf a0n a0 (fun y0 y1 => K (EV.tuple [EV.str y0, EV.int .i64 y1]) [])
 | _, _ => False⟩
noncomputable def l_zcf : List (Nat × Entry) := [(133, e_zca)]
noncomputable def E_zcf : Env := ⟨look tys, look l_zcf, look [], gl, yaq [], false⟩
theorem X_zcf.eq (a0n : Nat) (a0 : Nat → Int) (K : EV → yae → Prop) : yaK E_zcf Tryz.f135 false [.rsI .u32 a0n a0] [] K = zcf a0n a0 (fun y0 y1 => K (EV.tuple [EV.str y0, EV.int .i64 y1]) []) := by
 rw [zcf.is]; exact (yac _ _ _ _ _ _).symm.trans (by kernel_rfl)
theorem X_zcf.ok : SoundE Tryz.prog gl 135 e_zcf := by
 refine yaO (E := E_zcf) (fn := Tryz.f135) rfl tys_ok rfl (show yaM _ l_zcf from ⟨X_zca.ok, trivial⟩) mixed (by kernel_rfl) (by kernel_rfl) (by kernel_rfl) 0 (by kernel_rfl) false trivial ?_
 intro args H
 by_cases hx : ∃ (a0n : Nat) (a0 : Nat → Int), args = [.rsI .u32 a0n a0] ∧ H = []
 ·obtain ⟨a0n, a0, rfl, rfl⟩ := hx
  right; intro K
  exact iff_of_eq (X_zcf.eq a0n a0 K).symm
 ·left; intro K h
  simp only [e_zcf] at h
  split at h
  ·exact hx ⟨_, _, rfl, rfl⟩
  ·exact h
noncomputable def e_zbk : Entry := ⟨[none, none], false, fun args H K => match args, H with
 | [.str a0, .int .i64 a1], [] => zbk a0 a1 (fun y0 y1 => K (EV.tuple [EV.str y0, EV.int .i64 y1]) [])
 | _, _ => False⟩
noncomputable def l_zbk : List (Nat × Entry) := [(64, e_zbl), (84, e_zbg), (96, e_zci), (135, e_zcf), (140, e_zcg)]
noncomputable def E_zbk : Env := ⟨look tys, look l_zbk, look [], gl, yaq [], false⟩
theorem X_zbk.eq (a0 : List UInt8) (a1 : Int) (K : EV → yae → Prop) : yaK E_zbk Tryz.f93 false [.str a0, .int .i64 a1] [] K = zbk a0 a1 (fun y0 y1 => K (EV.tuple [EV.str y0, EV.int .i64 y1]) []) := by
 rw [zbk.is]; exact (yac _ _ _ _ _ _).symm.trans (by kernel_rfl)
theorem X_zbk.ok : SoundE Tryz.prog gl 93 e_zbk := by
 refine yaO (E := E_zbk) (fn := Tryz.f93) rfl tys_ok rfl (show yaM _ l_zbk from ⟨X_zbl.ok, X_zbg.ok, X_zci.ok, X_zcf.ok, X_zcg.ok, trivial⟩) mixed (by kernel_rfl) (by kernel_rfl) (by kernel_rfl) 0 (by kernel_rfl) false trivial ?_
 intro args H
 by_cases hx : ∃ (a0 : List UInt8) (a1 : Int), args = [.str a0, .int .i64 a1] ∧ H = []
 ·obtain ⟨a0, a1, rfl, rfl⟩ := hx
  right; intro K
  exact iff_of_eq (X_zbk.eq a0 a1 K).symm
 ·left; intro K h
  simp only [e_zbk] at h
  split at h
  ·exact hx ⟨_, _, rfl, rfl⟩
  ·exact h
noncomputable def e_zar : Entry := ⟨[none], false, fun args H K => match args, H with
 | [.agg [.bool a0_0, .str a0_1, .str a0_2, .int .i64 a0_3]], [] => zar a0_0 a0_1 a0_2 a0_3 (fun y0 => K (EV.int .i64 y0) [])
 | _, _ => False⟩
noncomputable def l_zar : List (Nat × Entry) := [(55, e_zbh), (64, e_zbl), (93, e_zbk)]
noncomputable def E_zar : Env := ⟨look tys, look l_zar, look [], gl, yaq [], false⟩
theorem X_zar.eq (a0_0 : Bool) (a0_1 : List UInt8) (a0_2 : List UInt8) (a0_3 : Int) (K : EV → yae → Prop) : yaK E_zar Tryz.f141 false [.agg [.bool a0_0, .str a0_1, .str a0_2, .int .i64 a0_3]] [] K = zar a0_0 a0_1 a0_2 a0_3 (fun y0 => K (EV.int .i64 y0) []) := by
 rw [zar.is]; exact (yac _ _ _ _ _ _).symm.trans (by kernel_rfl)
theorem X_zar.ok : SoundE Tryz.prog gl 141 e_zar := by
 refine yaO (E := E_zar) (fn := Tryz.f141) rfl tys_ok rfl (show yaM _ l_zar from ⟨X_zbh.ok, X_zbl.ok, X_zbk.ok, trivial⟩) mixed (by kernel_rfl) (by kernel_rfl) (by kernel_rfl) 0 (by kernel_rfl) false trivial ?_
 intro args H
 by_cases hx : ∃ (a0_0 : Bool) (a0_1 : List UInt8) (a0_2 : List UInt8) (a0_3 : Int), args = [.agg [.bool a0_0, .str a0_1, .str a0_2, .int .i64 a0_3]] ∧ H = []
 ·obtain ⟨a0_0, a0_1, a0_2, a0_3, rfl, rfl⟩ := hx
  right; intro K
  exact iff_of_eq (X_zar.eq a0_0 a0_1 a0_2 a0_3 K).symm
 ·left; intro K h
  simp only [e_zar] at h
  split at h
  ·exact hx ⟨_, _, _, _, rfl, rfl⟩
  ·exact h
noncomputable def e_zal : Entry := ⟨[none], false, fun args H K => match args, H with
 | [.agg [.bool a0_0, .str a0_1, .str a0_2, .int .i64 a0_3]], [] => zal a0_0 a0_1 a0_2 a0_3 (fun y0 y1 => K (EV.tuple [EV.int .i64 y0, EV.int .i64 y1]) [])
 | _, _ => False⟩
noncomputable def l_zal : List (Nat × Entry) := [(45, e_zae), (141, e_zar)]
noncomputable def E_zal : Env := ⟨look tys, look l_zal, look [], gl, yaq [], false⟩
theorem X_zal.eq (a0_0 : Bool) (a0_1 : List UInt8) (a0_2 : List UInt8) (a0_3 : Int) (K : EV → yae → Prop) : yaK E_zal Tryz.f97 false [.agg [.bool a0_0, .str a0_1, .str a0_2, .int .i64 a0_3]] [] K = zal a0_0 a0_1 a0_2 a0_3 (fun y0 y1 => K (EV.tuple [EV.int .i64 y0, EV.int .i64 y1]) []) := by
 rw [zal.is]; exact (yac _ _ _ _ _ _).symm.trans (by kernel_rfl)
theorem X_zal.ok : SoundE Tryz.prog gl 97 e_zal := by
 refine yaO (E := E_zal) (fn := Tryz.f97) rfl tys_ok rfl (show yaM _ l_zal from ⟨X_zae.ok, X_zar.ok, trivial⟩) mixed (by kernel_rfl) (by kernel_rfl) (by kernel_rfl) 0 (by kernel_rfl) false trivial ?_
 intro args H
 by_cases hx : ∃ (a0_0 : Bool) (a0_1 : List UInt8) (a0_2 : List UInt8) (a0_3 : Int), args = [.agg [.bool a0_0, .str a0_1, .str a0_2, .int .i64 a0_3]] ∧ H = []
 ·obtain ⟨a0_0, a0_1, a0_2, a0_3, rfl, rfl⟩ := hx
  right; intro K
  exact iff_of_eq (X_zal.eq a0_0 a0_1 a0_2 a0_3 K).symm
 ·left; intro K h
  simp only [e_zal] at h
  split at h
  ·exact hx ⟨_, _, _, _, rfl, rfl⟩
  ·exact h
noncomputable def e_zdm : Entry := ⟨[none], false, fun args H K => match args, H with
 | [.agg [.agg [.bool a0_0_0, .str a0_0_1, .str a0_0_2, .int .i64 a0_0_3], .bool a0_1]], [] => zdm a0_0_0 a0_0_1 a0_0_2 a0_0_3 a0_1 (fun y0 => K (EV.int .i64 y0) [])
 | _, _ => False⟩
noncomputable def l_zdm : List (Nat × Entry) := [(97, e_zal)]
noncomputable def E_zdm : Env := ⟨look tys, look l_zdm, look [], gl, yaq [], false⟩
theorem X_zdm.eq (a0_0_0 : Bool) (a0_0_1 : List UInt8) (a0_0_2 : List UInt8) (a0_0_3 : Int) (a0_1 : Bool) (K : EV → yae → Prop) : yaK E_zdm Tryz.f58 false [.agg [.agg [.bool a0_0_0, .str a0_0_1, .str a0_0_2, .int .i64 a0_0_3], .bool a0_1]] [] K = zdm a0_0_0 a0_0_1 a0_0_2 a0_0_3 a0_1 (fun y0 => K (EV.int .i64 y0) []) := by
 rw [zdm.is]; exact (yac _ _ _ _ _ _).symm.trans (by kernel_rfl)
theorem X_zdm.ok : SoundE Tryz.prog gl 58 e_zdm := by
 refine yaO (E := E_zdm) (fn := Tryz.f58) rfl tys_ok rfl (show yaM _ l_zdm from ⟨X_zal.ok, trivial⟩) mixed (by kernel_rfl) (by kernel_rfl) (by kernel_rfl) 0 (by kernel_rfl) false trivial ?_
 intro args H
 by_cases hx : ∃ (a0_0_0 : Bool) (a0_0_1 : List UInt8) (a0_0_2 : List UInt8) (a0_0_3 : Int) (a0_1 : Bool), args = [.agg [.agg [.bool a0_0_0, .str a0_0_1, .str a0_0_2, .int .i64 a0_0_3], .bool a0_1]] ∧ H = []
 ·obtain ⟨a0_0_0, a0_0_1, a0_0_2, a0_0_3, a0_1, rfl, rfl⟩ := hx
  right; intro K
  exact iff_of_eq (X_zdm.eq a0_0_0 a0_0_1 a0_0_2 a0_0_3 a0_1 K).symm
 ·left; intro K h
  simp only [e_zdm] at h
  split at h
  ·exact hx ⟨_, _, _, _, _, rfl, rfl⟩
  ·exact h
noncomputable def e_zdz : Entry := ⟨[none], false, fun args H K => match args, H with
 | [.int .u8 a0], [] => zdz a0 (fun y0 y1 y2 y3 => K (EV.tuple [EV.int .i64 y0, EV.int .i64 y1, EV.int .i64 y2, EV.str y3]) [])
 | _, _ => False⟩
noncomputable def E_zdz : Env := ⟨look tys, look [], look [], gl, yaq [], false⟩
theorem X_zdz.eq (a0 : Int) (K : EV → yae → Prop) : yaK E_zdz Tryz.f81 false [.int .u8 a0] [] K = zdz a0 (fun y0 y1 y2 y3 => K (EV.tuple [EV.int .i64 y0, EV.int .i64 y1, EV.int .i64 y2, EV.str y3]) []) := by
 rw [zdz.is]; exact (yac _ _ _ _ _ _).symm.trans (by kernel_rfl)
theorem X_zdz.ok : SoundE Tryz.prog gl 81 e_zdz := by
 refine yaO (E := E_zdz) (fn := Tryz.f81) rfl tys_ok rfl (show yaM _ [] from trivial) mixed (by kernel_rfl) (by kernel_rfl) (by kernel_rfl) 0 (by kernel_rfl) false trivial ?_
 intro args H
 by_cases hx : ∃ (a0 : Int), args = [.int .u8 a0] ∧ H = []
 ·obtain ⟨a0, rfl, rfl⟩ := hx
  right; intro K
  exact iff_of_eq (X_zdz.eq a0 K).symm
 ·left; intro K h
  simp only [e_zdz] at h
  split at h
  ·exact hx ⟨_, rfl, rfl⟩
  ·exact h
noncomputable def e_zdp : Entry := ⟨[none], false, fun args H K => match args, H with
 | [.int .u8 a0], [] => zdp a0 (fun y0 => K (EV.int .i64 y0) [])
 | _, _ => False⟩
noncomputable def l_zdp : List (Nat × Entry) := [(81, e_zdz)]
noncomputable def E_zdp : Env := ⟨look tys, look l_zdp, look [], gl, yaq [], false⟩
theorem X_zdp.eq (a0 : Int) (K : EV → yae → Prop) : yaK E_zdp Tryz.f59 false [.int .u8 a0] [] K = zdp a0 (fun y0 => K (EV.int .i64 y0) []) := by
 rw [zdp.is]; exact (yac _ _ _ _ _ _).symm.trans (by kernel_rfl)
theorem X_zdp.ok : SoundE Tryz.prog gl 59 e_zdp := by
 refine yaO (E := E_zdp) (fn := Tryz.f59) rfl tys_ok rfl (show yaM _ l_zdp from ⟨X_zdz.ok, trivial⟩) mixed (by kernel_rfl) (by kernel_rfl) (by kernel_rfl) 0 (by kernel_rfl) false trivial ?_
 intro args H
 by_cases hx : ∃ (a0 : Int), args = [.int .u8 a0] ∧ H = []
 ·obtain ⟨a0, rfl, rfl⟩ := hx
  right; intro K
  exact iff_of_eq (X_zdp.eq a0 K).symm
 ·left; intro K h
  simp only [e_zdp] at h
  split at h
  ·exact hx ⟨_, rfl, rfl⟩
  ·exact h
noncomputable def e_zdq : Entry := ⟨[none], false, fun args H K => match args, H with
 | [.int .u8 a0], [] => zdq a0 (fun y0 => K (EV.int .i64 y0) [])
 | _, _ => False⟩
noncomputable def l_zdq : List (Nat × Entry) := [(56, e_zdn), (59, e_zdp)]
noncomputable def E_zdq : Env := ⟨look tys, look l_zdq, look [], gl, yaq [], false⟩
theorem X_zdq.eq (a0 : Int) (K : EV → yae → Prop) : yaK E_zdq Tryz.f61 false [.int .u8 a0] [] K = zdq a0 (fun y0 => K (EV.int .i64 y0) []) := by
 rw [zdq.is]; exact (yac _ _ _ _ _ _).symm.trans (by kernel_rfl)
theorem X_zdq.ok : SoundE Tryz.prog gl 61 e_zdq := by
 refine yaO (E := E_zdq) (fn := Tryz.f61) rfl tys_ok rfl (show yaM _ l_zdq from ⟨X_zdn.ok, X_zdp.ok, trivial⟩) mixed (by kernel_rfl) (by kernel_rfl) (by kernel_rfl) 0 (by kernel_rfl) false trivial ?_
 intro args H
 by_cases hx : ∃ (a0 : Int), args = [.int .u8 a0] ∧ H = []
 ·obtain ⟨a0, rfl, rfl⟩ := hx
  right; intro K
  exact iff_of_eq (X_zdq.eq a0 K).symm
 ·left; intro K h
  simp only [e_zdq] at h
  split at h
  ·exact hx ⟨_, rfl, rfl⟩
  ·exact h
noncomputable def e_zdu : Entry := ⟨[none], false, fun args H K => match args, H with
 | [.int .u8 a0], [] => zdu a0 (fun y0 => K (EV.int .i64 y0) [])
 | _, _ => False⟩
noncomputable def l_zdu : List (Nat × Entry) := [(81, e_zdz)]
noncomputable def E_zdu : Env := ⟨look tys, look l_zdu, look [], gl, yaq [], false⟩
theorem X_zdu.eq (a0 : Int) (K : EV → yae → Prop) : yaK E_zdu Tryz.f62 false [.int .u8 a0] [] K = zdu a0 (fun y0 => K (EV.int .i64 y0) []) := by
 rw [zdu.is]; exact (yac _ _ _ _ _ _).symm.trans (by kernel_rfl)
theorem X_zdu.ok : SoundE Tryz.prog gl 62 e_zdu := by
 refine yaO (E := E_zdu) (fn := Tryz.f62) rfl tys_ok rfl (show yaM _ l_zdu from ⟨X_zdz.ok, trivial⟩) mixed (by kernel_rfl) (by kernel_rfl) (by kernel_rfl) 0 (by kernel_rfl) false trivial ?_
 intro args H
 by_cases hx : ∃ (a0 : Int), args = [.int .u8 a0] ∧ H = []
 ·obtain ⟨a0, rfl, rfl⟩ := hx
  right; intro K
  exact iff_of_eq (X_zdu.eq a0 K).symm
 ·left; intro K h
  simp only [e_zdu] at h
  split at h
  ·exact hx ⟨_, rfl, rfl⟩
  ·exact h
noncomputable def e_zcd : Entry := ⟨[some .u32, some .u32], false, fun args H K => match args, H with
 | [.rsI .u32 a0n a0, .rsI .u32 a1n a1], [] => zcd a0n a0 a1n a1 (fun y0 y1 => K (EV.rsI .u32 y0 y1) [])
 | _, _ => False⟩
noncomputable def l_zcd : List (Nat × Entry) := [(172, e_nat_cut)]
noncomputable def E_zcd : Env := ⟨look tys, look l_zcd, look [(7, zcd.l7.entry)], gl, yaq [], false⟩
theorem zcd.l7X.stepEq (R : List EV → yae → Prop) (K : Ex → List EV → yae → Prop) (x0 : Nat) (x1 : Nat → Int) (x2 : Nat) (x3 : Nat) (x4 : Int) (x5 : Int) (x6 : Nat) (x7 : Nat → Int) : yah (yap E_zcd (yaa Tryz.f138 0) { (LV.mk 32 [(0, 32)] 16 0 false) with nx := live (.loop (yaa Tryz.f138 0)) (LV.mk 32 [(0, 32)] 16 0 false) }) (live (.loop (yaa Tryz.f138 0)) (LV.mk 32 [(0, 32)] 16 0 false)) (LV.mk 32 [(0, 32)] 16 0 false) 0 59 R [EV.rsI .u32 x0 x1, EV.slice 0 0 x2 (some x3) 1, EV.int .u64 x4, EV.int .i64 x5] [some (EV.arr .u32 x6 x7)] K = zcd.l7.step (fun x0 x1 x2 x3 x4 x5 x6 x7 => R [EV.rsI .u32 x0 x1, EV.slice 0 0 x2 (some x3) 1, EV.int .u64 x4, EV.int .i64 x5] [some (EV.arr .u32 x6 x7)]) (fun y0 y1 y2 y3 => K (.exit 0) [EV.slice 0 0 y0 (some y1) 1] [some (EV.arr .u32 y2 y3)]) x0 x1 x2 x3 x4 x5 x6 x7 := (yav _ _ _ _ _ _ _ _ _ _ _).symm.trans (by kernel_rfl)
theorem zcd.l7X.eq (K : Ex → List EV → yae → Prop) : ∀ (n : Nat) (x0 : Nat) (x1 : Nat → Int) (x2 : Nat) (x3 : Nat) (x4 : Int) (x5 : Int) (x6 : Nat) (x7 : Nat → Int), yar E_zcd (yaa Tryz.f138 0) (LV.mk 32 [(0, 32)] 16 0 false) 0 59 K n [EV.rsI .u32 x0 x1, EV.slice 0 0 x2 (some x3) 1, EV.int .u64 x4, EV.int .i64 x5] [some (EV.arr .u32 x6 x7)] = zcd.l7 (fun y0 y1 y2 y3 => K (.exit 0) [EV.slice 0 0 y0 (some y1) 1] [some (EV.arr .u32 y2 y3)]) n x0 x1 x2 x3 x4 x5 x6 x7
 | 0, _, _, _, _, _, _, _, _ => rfl
 | n + 1, x0, x1, x2, x3, x4, x5, x6, x7 => by
  have ih : (fun (x0 : Nat) (x1 : Nat → Int) (x2 : Nat) (x3 : Nat) (x4 : Int) (x5 : Int) (x6 : Nat) (x7 : Nat → Int) => yar E_zcd (yaa Tryz.f138 0) (LV.mk 32 [(0, 32)] 16 0 false) 0 59 K n [EV.rsI .u32 x0 x1, EV.slice 0 0 x2 (some x3) 1, EV.int .u64 x4, EV.int .i64 x5] [some (EV.arr .u32 x6 x7)]) = zcd.l7 (fun y0 y1 y2 y3 => K (.exit 0) [EV.slice 0 0 y0 (some y1) 1] [some (EV.arr .u32 y2 y3)]) n := by funext x0 x1 x2 x3 x4 x5 x6 x7; exact zcd.l7X.eq K n x0 x1 x2 x3 x4 x5 x6 x7
  show yah _ _ _ _ _ (yar E_zcd (yaa Tryz.f138 0) (LV.mk 32 [(0, 32)] 16 0 false) 0 59 K n) [EV.rsI .u32 x0 x1, EV.slice 0 0 x2 (some x3) 1, EV.int .u64 x4, EV.int .i64 x5] [some (EV.arr .u32 x6 x7)] K = zcd.l7.step (zcd.l7 (fun y0 y1 y2 y3 => K (.exit 0) [EV.slice 0 0 y0 (some y1) 1] [some (EV.arr .u32 y2 y3)]) n) (fun y0 y1 y2 y3 => K (.exit 0) [EV.slice 0 0 y0 (some y1) 1] [some (EV.arr .u32 y2 y3)]) x0 x1 x2 x3 x4 x5 x6 x7
  rw [← ih]
  exact zcd.l7X.stepEq _ K x0 x1 x2 x3 x4 x5 x6 x7
theorem zcd.l7X.ok : LoopEq E_zcd (yaa Tryz.f138 0) := by
 intro L hL vs H
 have h1 : E_zcd.lp (yag (yaa Tryz.f138 0)) = some zcd.l7.entry := by kernel_rfl
 have h2 : L = zcd.l7.entry := Option.some.inj (hL.symm.trans h1)
 subst h2
 by_cases hx : ∃ (x0 : Nat) (x1 : Nat → Int) (x2 : Nat) (x3 : Nat) (x4 : Int) (x5 : Int) (x6 : Nat) (x7 : Nat → Int), vs = [EV.rsI .u32 x0 x1, EV.slice 0 0 x2 (some x3) 1, EV.int .u64 x4, EV.int .i64 x5] ∧ H = [some (EV.arr .u32 x6 x7)]
 ·obtain ⟨x0, x1, x2, x3, x4, x5, x6, x7, rfl, rfl⟩ := hx
  right; intro K
  exact exists_congr fun n => iff_of_eq (zcd.l7X.eq K n x0 x1 x2 x3 x4 x5 x6 x7).symm
 ·left; intro K h
  simp only [zcd.l7.entry] at h
  split at h
  ·exact hx ⟨_, _, _, _, _, _, _, _, rfl, rfl⟩
  ·exact h
theorem X_zcd.eq (a0n : Nat) (a0 : Nat → Int) (a1n : Nat) (a1 : Nat → Int) (K : EV → yae → Prop) : yaK E_zcd Tryz.f138 false [.rsI .u32 a0n a0, .rsI .u32 a1n a1] [] K = zcd a0n a0 a1n a1 (fun y0 y1 => K (EV.rsI .u32 y0 y1) []) := by
 rw [zcd.is]; exact (yac _ _ _ _ _ _).symm.trans (by kernel_rfl)
theorem X_zcd.ok : SoundE Tryz.prog gl 138 e_zcd := by
 refine yaO (E := E_zcd) (fn := Tryz.f138) rfl tys_ok rfl (show yaM _ l_zcd from ⟨X_nat_cut.ok, trivial⟩) mixed (by kernel_rfl) (by kernel_rfl) (by kernel_rfl) 1 (by kernel_rfl) false ⟨zcd.l7X.ok, trivial⟩ ?_
 intro args H
 by_cases hx : ∃ (a0n : Nat) (a0 : Nat → Int) (a1n : Nat) (a1 : Nat → Int), args = [.rsI .u32 a0n a0, .rsI .u32 a1n a1] ∧ H = []
 ·obtain ⟨a0n, a0, a1n, a1, rfl, rfl⟩ := hx
  right; intro K
  exact iff_of_eq (X_zcd.eq a0n a0 a1n a1 K).symm
 ·left; intro K h
  simp only [e_zcd] at h
  split at h
  ·exact hx ⟨_, _, _, _, rfl, rfl⟩
  ·exact h
noncomputable def e_zbf : Entry := ⟨[none, none], false, fun args H K => match args, H with
 | [.str a0, .str a1], [] => zbf a0 a1 (fun y0 y1 => K (EV.tuple [EV.str y0, EV.int .i64 y1]) [])
 | _, _ => False⟩
noncomputable def l_zbf : List (Nat × Entry) := [(94, e_zcc), (96, e_zci), (135, e_zcf), (138, e_zcd)]
noncomputable def E_zbf : Env := ⟨look tys, look l_zbf, look [], gl, yaq [], false⟩
theorem X_zbf.eq (a0 : List UInt8) (a1 : List UInt8) (K : EV → yae → Prop) : yaK E_zbf Tryz.f91 false [.str a0, .str a1] [] K = zbf a0 a1 (fun y0 y1 => K (EV.tuple [EV.str y0, EV.int .i64 y1]) []) := by
 rw [zbf.is]; exact (yac _ _ _ _ _ _).symm.trans (by kernel_rfl)
theorem X_zbf.ok : SoundE Tryz.prog gl 91 e_zbf := by
 refine yaO (E := E_zbf) (fn := Tryz.f91) rfl tys_ok rfl (show yaM _ l_zbf from ⟨X_zcc.ok, X_zci.ok, X_zcf.ok, X_zcd.ok, trivial⟩) mixed (by kernel_rfl) (by kernel_rfl) (by kernel_rfl) 0 (by kernel_rfl) false trivial ?_
 intro args H
 by_cases hx : ∃ (a0 : List UInt8) (a1 : List UInt8), args = [.str a0, .str a1] ∧ H = []
 ·obtain ⟨a0, a1, rfl, rfl⟩ := hx
  right; intro K
  exact iff_of_eq (X_zbf.eq a0 a1 K).symm
 ·left; intro K h
  simp only [e_zbf] at h
  split at h
  ·exact hx ⟨_, _, rfl, rfl⟩
  ·exact h
noncomputable def e_zbi : Entry := ⟨[none, none], false, fun args H K => match args, H with
 | [.str a0, .str a1], [] => zbi a0 a1 (fun y0 y1 y2 => K (EV.tuple [EV.str y0, EV.str y1, EV.int .i64 y2]) [])
 | _, _ => False⟩
noncomputable def l_zbi : List (Nat × Entry) := [(94, e_zcc), (96, e_zci), (133, e_zca), (134, e_zcb)]
noncomputable def E_zbi : Env := ⟨look tys, look l_zbi, look [], gl, yaq [], false⟩
theorem X_zbi.eq (a0 : List UInt8) (a1 : List UInt8) (K : EV → yae → Prop) : yaK E_zbi Tryz.f104 false [.str a0, .str a1] [] K = zbi a0 a1 (fun y0 y1 y2 => K (EV.tuple [EV.str y0, EV.str y1, EV.int .i64 y2]) []) := by
 rw [zbi.is]; exact (yac _ _ _ _ _ _).symm.trans (by kernel_rfl)
theorem X_zbi.ok : SoundE Tryz.prog gl 104 e_zbi := by
 refine yaO (E := E_zbi) (fn := Tryz.f104) rfl tys_ok rfl (show yaM _ l_zbi from ⟨X_zcc.ok, X_zci.ok, X_zca.ok, X_zcb.ok, trivial⟩) mixed (by kernel_rfl) (by kernel_rfl) (by kernel_rfl) 0 (by kernel_rfl) false trivial ?_
 intro args H
 by_cases hx : ∃ (a0 : List UInt8) (a1 : List UInt8), args = [.str a0, .str a1] ∧ H = []
 ·obtain ⟨a0, a1, rfl, rfl⟩ := hx
  right; intro K
  exact iff_of_eq (X_zbi.eq a0 a1 K).symm
 ·left; intro K h
  simp only [e_zbi] at h
  split at h
  ·exact hx ⟨_, _, rfl, rfl⟩
  ·exact h
noncomputable def e_zag : Entry := ⟨[none, none], false, fun args H K => match args, H with
 | [.agg [.bool a0_0, .str a0_1, .str a0_2, .int .i64 a0_3], .int .i64 a1], [] => zag a0_0 a0_1 a0_2 a0_3 a1 (fun y0 y1 y2 => K (EV.tuple [EV.str y0, EV.bool y1, EV.int .i64 y2]) [])
 | _, _ => False⟩
noncomputable def l_zag : List (Nat × Entry) := [(45, e_zae), (93, e_zbk), (104, e_zbi), (141, e_zar)]
noncomputable def E_zag : Env := ⟨look tys, look l_zag, look [], gl, yaq [], false⟩
theorem X_zag.eq (a0_0 : Bool) (a0_1 : List UInt8) (a0_2 : List UInt8) (a0_3 : Int) (a1 : Int) (K : EV → yae → Prop) : yaK E_zag Tryz.f105 false [.agg [.bool a0_0, .str a0_1, .str a0_2, .int .i64 a0_3], .int .i64 a1] [] K = zag a0_0 a0_1 a0_2 a0_3 a1 (fun y0 y1 y2 => K (EV.tuple [EV.str y0, EV.bool y1, EV.int .i64 y2]) []) := by
 rw [zag.is]; exact (yac _ _ _ _ _ _).symm.trans (by kernel_rfl)
theorem X_zag.ok : SoundE Tryz.prog gl 105 e_zag := by
 refine yaO (E := E_zag) (fn := Tryz.f105) rfl tys_ok rfl (show yaM _ l_zag from ⟨X_zae.ok, X_zbk.ok, X_zbi.ok, X_zar.ok, trivial⟩) mixed (by kernel_rfl) (by kernel_rfl) (by kernel_rfl) 0 (by kernel_rfl) false trivial ?_
 intro args H
 by_cases hx : ∃ (a0_0 : Bool) (a0_1 : List UInt8) (a0_2 : List UInt8) (a0_3 : Int) (a1 : Int), args = [.agg [.bool a0_0, .str a0_1, .str a0_2, .int .i64 a0_3], .int .i64 a1] ∧ H = []
 ·obtain ⟨a0_0, a0_1, a0_2, a0_3, a1, rfl, rfl⟩ := hx
  right; intro K
  exact iff_of_eq (X_zag.eq a0_0 a0_1 a0_2 a0_3 a1 K).symm
 ·left; intro K h
  simp only [e_zag] at h
  split at h
  ·exact hx ⟨_, _, _, _, _, rfl, rfl⟩
  ·exact h
noncomputable def e_zce : Entry := ⟨[some .u32, some .u32], false, fun args H K => match args, H with
 | [.rsI .u32 a0n a0, .rsI .u32 a1n a1], [] => zce a0n a0 a1n a1 (fun y0 y1 => K (EV.rsI .u32 y0 y1) [])
 | _, _ => False⟩
noncomputable def l_zce : List (Nat × Entry) := [(172, e_nat_cut)]
noncomputable def E_zce : Env := ⟨look tys, look l_zce, look [(3, zce.l3.entry), (7, zce.l7.entry)], gl, yaq [], false⟩
theorem zce.l3X.stepEq (R : List EV → yae → Prop) (K : Ex → List EV → yae → Prop) (x0 : Nat) (x1 : Nat → Int) (x2 : Nat) (x3 : Nat) (x4 : Nat) (x5 : Nat → Int) (x6 : Int) (x7 : Int) (x8 : Nat) (x9 : Nat → Int) : yah (yap E_zce (yaa Tryz.f136 0) { (LV.mk 32 [(0, 32)] 16 0 false) with nx := live (.loop (yaa Tryz.f136 0)) (LV.mk 32 [(0, 32)] 16 0 false) }) (live (.loop (yaa Tryz.f136 0)) (LV.mk 32 [(0, 32)] 16 0 false)) (LV.mk 32 [(0, 32)] 16 0 false) 0 67 R [EV.rsI .u32 x0 x1, EV.slice 0 0 x2 (some x3) 1, EV.rsI .u32 x4 x5, EV.int .i64 x6, EV.int .i64 x7] [some (EV.arr .u32 x8 x9)] K = zce.l3.step (fun x0 x1 x2 x3 x4 x5 x6 x7 x8 x9 => R [EV.rsI .u32 x0 x1, EV.slice 0 0 x2 (some x3) 1, EV.rsI .u32 x4 x5, EV.int .i64 x6, EV.int .i64 x7] [some (EV.arr .u32 x8 x9)]) (fun y0 y1 y2 y3 => K (.exit 0) [EV.slice 0 0 y0 (some y1) 1] [some (EV.arr .u32 y2 y3)]) x0 x1 x2 x3 x4 x5 x6 x7 x8 x9 := (yav _ _ _ _ _ _ _ _ _ _ _).symm.trans (by kernel_rfl)
theorem zce.l3X.eq (K : Ex → List EV → yae → Prop) : ∀ (n : Nat) (x0 : Nat) (x1 : Nat → Int) (x2 : Nat) (x3 : Nat) (x4 : Nat) (x5 : Nat → Int) (x6 : Int) (x7 : Int) (x8 : Nat) (x9 : Nat → Int), yar E_zce (yaa Tryz.f136 0) (LV.mk 32 [(0, 32)] 16 0 false) 0 67 K n [EV.rsI .u32 x0 x1, EV.slice 0 0 x2 (some x3) 1, EV.rsI .u32 x4 x5, EV.int .i64 x6, EV.int .i64 x7] [some (EV.arr .u32 x8 x9)] = zce.l3 (fun y0 y1 y2 y3 => K (.exit 0) [EV.slice 0 0 y0 (some y1) 1] [some (EV.arr .u32 y2 y3)]) n x0 x1 x2 x3 x4 x5 x6 x7 x8 x9
 | 0, _, _, _, _, _, _, _, _, _, _ => rfl
 | n + 1, x0, x1, x2, x3, x4, x5, x6, x7, x8, x9 => by
  have ih : (fun (x0 : Nat) (x1 : Nat → Int) (x2 : Nat) (x3 : Nat) (x4 : Nat) (x5 : Nat → Int) (x6 : Int) (x7 : Int) (x8 : Nat) (x9 : Nat → Int) => yar E_zce (yaa Tryz.f136 0) (LV.mk 32 [(0, 32)] 16 0 false) 0 67 K n [EV.rsI .u32 x0 x1, EV.slice 0 0 x2 (some x3) 1, EV.rsI .u32 x4 x5, EV.int .i64 x6, EV.int .i64 x7] [some (EV.arr .u32 x8 x9)]) = zce.l3 (fun y0 y1 y2 y3 => K (.exit 0) [EV.slice 0 0 y0 (some y1) 1] [some (EV.arr .u32 y2 y3)]) n := by funext x0 x1 x2 x3 x4 x5 x6 x7 x8 x9; exact zce.l3X.eq K n x0 x1 x2 x3 x4 x5 x6 x7 x8 x9
  show yah _ _ _ _ _ (yar E_zce (yaa Tryz.f136 0) (LV.mk 32 [(0, 32)] 16 0 false) 0 67 K n) [EV.rsI .u32 x0 x1, EV.slice 0 0 x2 (some x3) 1, EV.rsI .u32 x4 x5, EV.int .i64 x6, EV.int .i64 x7] [some (EV.arr .u32 x8 x9)] K = zce.l3.step (zce.l3 (fun y0 y1 y2 y3 => K (.exit 0) [EV.slice 0 0 y0 (some y1) 1] [some (EV.arr .u32 y2 y3)]) n) (fun y0 y1 y2 y3 => K (.exit 0) [EV.slice 0 0 y0 (some y1) 1] [some (EV.arr .u32 y2 y3)]) x0 x1 x2 x3 x4 x5 x6 x7 x8 x9
  rw [← ih]
  exact zce.l3X.stepEq _ K x0 x1 x2 x3 x4 x5 x6 x7 x8 x9
theorem zce.l3X.ok : LoopEq E_zce (yaa Tryz.f136 0) := by
 intro L hL vs H
 have h1 : E_zce.lp (yag (yaa Tryz.f136 0)) = some zce.l3.entry := by kernel_rfl
 have h2 : L = zce.l3.entry := Option.some.inj (hL.symm.trans h1)
 subst h2
 by_cases hx : ∃ (x0 : Nat) (x1 : Nat → Int) (x2 : Nat) (x3 : Nat) (x4 : Nat) (x5 : Nat → Int) (x6 : Int) (x7 : Int) (x8 : Nat) (x9 : Nat → Int), vs = [EV.rsI .u32 x0 x1, EV.slice 0 0 x2 (some x3) 1, EV.rsI .u32 x4 x5, EV.int .i64 x6, EV.int .i64 x7] ∧ H = [some (EV.arr .u32 x8 x9)]
 ·obtain ⟨x0, x1, x2, x3, x4, x5, x6, x7, x8, x9, rfl, rfl⟩ := hx
  right; intro K
  exact exists_congr fun n => iff_of_eq (zce.l3X.eq K n x0 x1 x2 x3 x4 x5 x6 x7 x8 x9).symm
 ·left; intro K h
  simp only [zce.l3.entry] at h
  split at h
  ·exact hx ⟨_, _, _, _, _, _, _, _, _, _, rfl, rfl⟩
  ·exact h
theorem zce.l7X.stepEq (R : List EV → yae → Prop) (K : Ex → List EV → yae → Prop) (x0 : Nat) (x1 : Nat → Int) (x2 : Nat) (x3 : Nat) (x4 : Int) (x5 : Int) (x6 : Int) (x7 : Nat) (x8 : Nat → Int) (x9 : Int) (x10 : Int) (x11 : Nat) (x12 : Nat → Int) (x13 : Int) (x14 : Int) (x15 : Nat) (x16 : Nat → Int) : yah (yap E_zce (yaa Tryz.f136 1) { (LV.mk 917858 [(2, 917858), (1, 917538), (0, 32)] 16 0 false) with nx := live (.loop (yaa Tryz.f136 1)) (LV.mk 917858 [(2, 917858), (1, 917538), (0, 32)] 16 0 false) }) (live (.loop (yaa Tryz.f136 1)) (LV.mk 917858 [(2, 917858), (1, 917538), (0, 32)] 16 0 false)) (LV.mk 917858 [(2, 917858), (1, 917538), (0, 32)] 16 0 false) 0 67 R [EV.rsI .u32 x0 x1, EV.slice 0 0 x2 (some x3) 1, EV.int .i64 x4, EV.int .u32 x5, EV.int .u64 x6, EV.rsI .u32 x7 x8, EV.int .i64 x9, EV.int .i64 x10, EV.rsI .u32 x11 x12, EV.int .i64 x13, EV.int .i64 x14] [some (EV.arr .u32 x15 x16)] K = zce.l7.step (fun x0 x1 x2 x3 x4 x5 x6 x7 x8 x9 x10 x11 x12 x13 x14 x15 x16 => R [EV.rsI .u32 x0 x1, EV.slice 0 0 x2 (some x3) 1, EV.int .i64 x4, EV.int .u32 x5, EV.int .u64 x6, EV.rsI .u32 x7 x8, EV.int .i64 x9, EV.int .i64 x10, EV.rsI .u32 x11 x12, EV.int .i64 x13, EV.int .i64 x14] [some (EV.arr .u32 x15 x16)]) (fun y0 y1 y2 y3 y4 y5 y6 y7 y8 y9 y10 y11 => K (.exit 2) [EV.rsI .u32 y0 y1, EV.slice 0 0 y2 (some y3) 1, EV.int .i64 y4, EV.int .u64 y5, EV.rsI .u32 y6 y7, EV.int .i64 y8, EV.int .i64 y9] [some (EV.arr .u32 y10 y11)]) x0 x1 x2 x3 x4 x5 x6 x7 x8 x9 x10 x11 x12 x13 x14 x15 x16 := (yav _ _ _ _ _ _ _ _ _ _ _).symm.trans (by kernel_rfl)
theorem zce.l7X.eq (K : Ex → List EV → yae → Prop) : ∀ (n : Nat) (x0 : Nat) (x1 : Nat → Int) (x2 : Nat) (x3 : Nat) (x4 : Int) (x5 : Int) (x6 : Int) (x7 : Nat) (x8 : Nat → Int) (x9 : Int) (x10 : Int) (x11 : Nat) (x12 : Nat → Int) (x13 : Int) (x14 : Int) (x15 : Nat) (x16 : Nat → Int), yar E_zce (yaa Tryz.f136 1) (LV.mk 917858 [(2, 917858), (1, 917538), (0, 32)] 16 0 false) 0 67 K n [EV.rsI .u32 x0 x1, EV.slice 0 0 x2 (some x3) 1, EV.int .i64 x4, EV.int .u32 x5, EV.int .u64 x6, EV.rsI .u32 x7 x8, EV.int .i64 x9, EV.int .i64 x10, EV.rsI .u32 x11 x12, EV.int .i64 x13, EV.int .i64 x14] [some (EV.arr .u32 x15 x16)] = zce.l7 (fun y0 y1 y2 y3 y4 y5 y6 y7 y8 y9 y10 y11 => K (.exit 2) [EV.rsI .u32 y0 y1, EV.slice 0 0 y2 (some y3) 1, EV.int .i64 y4, EV.int .u64 y5, EV.rsI .u32 y6 y7, EV.int .i64 y8, EV.int .i64 y9] [some (EV.arr .u32 y10 y11)]) n x0 x1 x2 x3 x4 x5 x6 x7 x8 x9 x10 x11 x12 x13 x14 x15 x16
 | 0, _, _, _, _, _, _, _, _, _, _, _, _, _, _, _, _, _ => rfl
 | n + 1, x0, x1, x2, x3, x4, x5, x6, x7, x8, x9, x10, x11, x12, x13, x14, x15, x16 => by
  have ih : (fun (x0 : Nat) (x1 : Nat → Int) (x2 : Nat) (x3 : Nat) (x4 : Int) (x5 : Int) (x6 : Int) (x7 : Nat) (x8 : Nat → Int) (x9 : Int) (x10 : Int) (x11 : Nat) (x12 : Nat → Int) (x13 : Int) (x14 : Int) (x15 : Nat) (x16 : Nat → Int) => yar E_zce (yaa Tryz.f136 1) (LV.mk 917858 [(2, 917858), (1, 917538), (0, 32)] 16 0 false) 0 67 K n [EV.rsI .u32 x0 x1, EV.slice 0 0 x2 (some x3) 1, EV.int .i64 x4, EV.int .u32 x5, EV.int .u64 x6, EV.rsI .u32 x7 x8, EV.int .i64 x9, EV.int .i64 x10, EV.rsI .u32 x11 x12, EV.int .i64 x13, EV.int .i64 x14] [some (EV.arr .u32 x15 x16)]) = zce.l7 (fun y0 y1 y2 y3 y4 y5 y6 y7 y8 y9 y10 y11 => K (.exit 2) [EV.rsI .u32 y0 y1, EV.slice 0 0 y2 (some y3) 1, EV.int .i64 y4, EV.int .u64 y5, EV.rsI .u32 y6 y7, EV.int .i64 y8, EV.int .i64 y9] [some (EV.arr .u32 y10 y11)]) n := by funext x0 x1 x2 x3 x4 x5 x6 x7 x8 x9 x10 x11 x12 x13 x14 x15 x16; exact zce.l7X.eq K n x0 x1 x2 x3 x4 x5 x6 x7 x8 x9 x10 x11 x12 x13 x14 x15 x16
  show yah _ _ _ _ _ (yar E_zce (yaa Tryz.f136 1) (LV.mk 917858 [(2, 917858), (1, 917538), (0, 32)] 16 0 false) 0 67 K n) [EV.rsI .u32 x0 x1, EV.slice 0 0 x2 (some x3) 1, EV.int .i64 x4, EV.int .u32 x5, EV.int .u64 x6, EV.rsI .u32 x7 x8, EV.int .i64 x9, EV.int .i64 x10, EV.rsI .u32 x11 x12, EV.int .i64 x13, EV.int .i64 x14] [some (EV.arr .u32 x15 x16)] K = zce.l7.step (zce.l7 (fun y0 y1 y2 y3 y4 y5 y6 y7 y8 y9 y10 y11 => K (.exit 2) [EV.rsI .u32 y0 y1, EV.slice 0 0 y2 (some y3) 1, EV.int .i64 y4, EV.int .u64 y5, EV.rsI .u32 y6 y7, EV.int .i64 y8, EV.int .i64 y9] [some (EV.arr .u32 y10 y11)]) n) (fun y0 y1 y2 y3 y4 y5 y6 y7 y8 y9 y10 y11 => K (.exit 2) [EV.rsI .u32 y0 y1, EV.slice 0 0 y2 (some y3) 1, EV.int .i64 y4, EV.int .u64 y5, EV.rsI .u32 y6 y7, EV.int .i64 y8, EV.int .i64 y9] [some (EV.arr .u32 y10 y11)]) x0 x1 x2 x3 x4 x5 x6 x7 x8 x9 x10 x11 x12 x13 x14 x15 x16
  rw [← ih]
  exact zce.l7X.stepEq _ K x0 x1 x2 x3 x4 x5 x6 x7 x8 x9 x10 x11 x12 x13 x14 x15 x16
theorem zce.l7X.ok : LoopEq E_zce (yaa Tryz.f136 1) := by
 intro L hL vs H
 have h1 : E_zce.lp (yag (yaa Tryz.f136 1)) = some zce.l7.entry := by kernel_rfl
 have h2 : L = zce.l7.entry := Option.some.inj (hL.symm.trans h1)
 subst h2
 by_cases hx : ∃ (x0 : Nat) (x1 : Nat → Int) (x2 : Nat) (x3 : Nat) (x4 : Int) (x5 : Int) (x6 : Int) (x7 : Nat) (x8 : Nat → Int) (x9 : Int) (x10 : Int) (x11 : Nat) (x12 : Nat → Int) (x13 : Int) (x14 : Int) (x15 : Nat) (x16 : Nat → Int), vs = [EV.rsI .u32 x0 x1, EV.slice 0 0 x2 (some x3) 1, EV.int .i64 x4, EV.int .u32 x5, EV.int .u64 x6, EV.rsI .u32 x7 x8, EV.int .i64 x9, EV.int .i64 x10, EV.rsI .u32 x11 x12, EV.int .i64 x13, EV.int .i64 x14] ∧ H = [some (EV.arr .u32 x15 x16)]
 ·obtain ⟨x0, x1, x2, x3, x4, x5, x6, x7, x8, x9, x10, x11, x12, x13, x14, x15, x16, rfl, rfl⟩ := hx
  right; intro K
  exact exists_congr fun n => iff_of_eq (zce.l7X.eq K n x0 x1 x2 x3 x4 x5 x6 x7 x8 x9 x10 x11 x12 x13 x14 x15 x16).symm
 ·left; intro K h
  simp only [zce.l7.entry] at h
  split at h
  ·exact hx ⟨_, _, _, _, _, _, _, _, _, _, _, _, _, _, _, _, _, rfl, rfl⟩
  ·exact h
theorem X_zce.eq (a0n : Nat) (a0 : Nat → Int) (a1n : Nat) (a1 : Nat → Int) (K : EV → yae → Prop) : yaK E_zce Tryz.f136 false [.rsI .u32 a0n a0, .rsI .u32 a1n a1] [] K = zce a0n a0 a1n a1 (fun y0 y1 => K (EV.rsI .u32 y0 y1) []) := by
 rw [zce.is]; exact (yac _ _ _ _ _ _).symm.trans (by kernel_rfl)
theorem X_zce.ok : SoundE Tryz.prog gl 136 e_zce := by
 refine yaO (E := E_zce) (fn := Tryz.f136) rfl tys_ok rfl (show yaM _ l_zce from ⟨X_nat_cut.ok, trivial⟩) mixed (by kernel_rfl) (by kernel_rfl) (by kernel_rfl) 2 (by kernel_rfl) false ⟨zce.l3X.ok, zce.l7X.ok, trivial⟩ ?_
 intro args H
 by_cases hx : ∃ (a0n : Nat) (a0 : Nat → Int) (a1n : Nat) (a1 : Nat → Int), args = [.rsI .u32 a0n a0, .rsI .u32 a1n a1] ∧ H = []
 ·obtain ⟨a0n, a0, a1n, a1, rfl, rfl⟩ := hx
  right; intro K
  exact iff_of_eq (X_zce.eq a0n a0 a1n a1 K).symm
 ·left; intro K h
  simp only [e_zce] at h
  split at h
  ·exact hx ⟨_, _, _, _, rfl, rfl⟩
  ·exact h
end Go.Ev.S
