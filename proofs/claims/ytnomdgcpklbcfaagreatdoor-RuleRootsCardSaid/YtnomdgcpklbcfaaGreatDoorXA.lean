/- The functions of the seat: that the evaluator has them as they are. -/
import Derived.Test.YtnomdgcpklbcfaaGreatDoorProg
import Derived.Test.YtnomdgcpklbcfaaGreatDoorEvC
import Derived.Test.YtnomdgcpklbcfaaGreatDoorDA
import Derived.KernelRfl
set_option maxRecDepth 100000
set_option linter.unusedVariables false
set_option linter.unusedSimpArgs false
namespace Go.Ev.S
open Go Go.Proofs Go.Ev
def tys : List (Nat × TI) := [
 (1, ⟨.func, 1, 8, .nilFunc⟩),
 (2, ⟨.int .i64, 1, 8, .int .i64 0⟩),
 (3, ⟨.int .i64, 1, 8, .int .i64 0⟩),
 (4, ⟨.bool, 1, 1, .bool false⟩),
 (5, ⟨.int .u8, 1, 1, .int .u8 0⟩),
 (6, ⟨.int .u8, 1, 1, .int .u8 0⟩),
 (7, ⟨.struct [(0, 2), (1, 3), (2, 4), (3, 6)], 4, 24, .agg [.int .i64 0, .int .i64 0, .bool false, .int .u8 0]⟩),
 (8, ⟨.struct [(0, 2), (1, 3), (2, 4), (3, 6)], 4, 24, .agg [.int .i64 0, .int .i64 0, .bool false, .int .u8 0]⟩),
 (9, ⟨.str, 1, 16, .str []⟩),
 (10, ⟨.str, 1, 16, .str []⟩),
 (11, ⟨.str, 1, 16, .str []⟩),
 (12, ⟨.int .u64, 1, 8, .int .u64 0⟩),
 (15, ⟨.ptr, 1, 8, .nilPtr⟩),
 (16, ⟨.ptr, 1, 8, .nilPtr⟩),
 (17, ⟨.ptr, 1, 8, .nilPtr⟩),
 (21, ⟨.int .i32, 1, 4, .int .i32 0⟩),
 (22, ⟨.int .u8, 1, 1, .int .u8 0⟩),
 (23, ⟨.int .u8, 1, 1, .int .u8 0⟩),
 (24, ⟨.str, 1, 16, .str []⟩),
 (25, ⟨.struct [(0, 4), (1, 24), (2, 24), (3, 3)], 4, 48, .agg [.bool false, .str [], .str [], .int .i64 0]⟩),
 (26, ⟨.struct [(0, 4), (1, 24), (2, 24), (3, 3)], 4, 48, .agg [.bool false, .str [], .str [], .int .i64 0]⟩),
 (27, ⟨.func, 1, 8, .nilFunc⟩),
 (28, ⟨.func, 1, 8, .nilFunc⟩),
 (29, ⟨.int .u64, 1, 8, .int .u64 0⟩),
 (30, ⟨.struct [(0, 29), (1, 29)], 2, 16, .agg [.int .u64 0, .int .u64 0]⟩),
 (31, ⟨.struct [(0, 29), (1, 29)], 2, 16, .agg [.int .u64 0, .int .u64 0]⟩),
 (32, ⟨.int .u8, 1, 1, .int .u8 0⟩),
 (33, ⟨.int .i64, 1, 8, .int .i64 0⟩),
 (35, ⟨.func, 1, 8, .nilFunc⟩),
 (37, ⟨.func, 1, 8, .nilFunc⟩),
 (38, ⟨.func, 1, 8, .nilFunc⟩),
 (39, ⟨.slice 5, 1, 24, .nilSlice⟩),
 (40, ⟨.func, 1, 8, .nilFunc⟩),
 (42, ⟨.func, 1, 8, .nilFunc⟩),
 (44, ⟨.func, 1, 8, .nilFunc⟩),
 (46, ⟨.func, 1, 8, .nilFunc⟩),
 (47, ⟨.func, 1, 8, .nilFunc⟩),
 (49, ⟨.func, 1, 8, .nilFunc⟩),
 (50, ⟨.func, 1, 8, .nilFunc⟩),
 (51, ⟨.func, 1, 8, .nilFunc⟩),
 (53, ⟨.func, 1, 8, .nilFunc⟩),
 (54, ⟨.func, 1, 8, .nilFunc⟩),
 (56, ⟨.func, 1, 8, .nilFunc⟩),
 (57, ⟨.func, 1, 8, .nilFunc⟩),
 (58, ⟨.func, 1, 8, .nilFunc⟩),
 (59, ⟨.int .u8, 1, 1, .int .u8 0⟩),
 (61, ⟨.func, 1, 8, .nilFunc⟩),
 (63, ⟨.func, 1, 8, .nilFunc⟩),
 (64, ⟨.func, 1, 8, .nilFunc⟩),
 (65, ⟨.struct [(0, 26), (4, 4)], 5, 56, .agg [.agg [.bool false, .str [], .str [], .int .i64 0], .bool false]⟩),
 (66, ⟨.struct [(0, 26), (4, 4)], 5, 56, .agg [.agg [.bool false, .str [], .str [], .int .i64 0], .bool false]⟩),
 (67, ⟨.func, 1, 8, .nilFunc⟩),
 (68, ⟨.func, 1, 8, .nilFunc⟩),
 (70, ⟨.func, 1, 8, .nilFunc⟩),
 (71, ⟨.func, 1, 8, .nilFunc⟩),
 (72, ⟨.func, 1, 8, .nilFunc⟩),
 (73, ⟨.func, 1, 8, .nilFunc⟩),
 (74, ⟨.func, 1, 8, .nilFunc⟩),
 (75, ⟨.func, 1, 8, .nilFunc⟩),
 (76, ⟨.func, 1, 8, .nilFunc⟩),
 (77, ⟨.int .u64, 1, 8, .int .u64 0⟩),
 (78, ⟨.func, 1, 8, .nilFunc⟩),
 (79, ⟨.func, 1, 8, .nilFunc⟩),
 (80, ⟨.func, 1, 8, .nilFunc⟩),
 (81, ⟨.func, 1, 8, .nilFunc⟩),
 (82, ⟨.func, 1, 8, .nilFunc⟩),
 (83, ⟨.func, 1, 8, .nilFunc⟩),
 (84, ⟨.func, 1, 8, .nilFunc⟩),
 (85, ⟨.array 6 29, 6, 48, .arr .u64 6 (fun _ => 0)⟩),
 (86, ⟨.array 6 29, 6, 48, .arr .u64 6 (fun _ => 0)⟩),
 (87, ⟨.func, 1, 8, .nilFunc⟩),
 (89, ⟨.func, 1, 8, .nilFunc⟩),
 (90, ⟨.func, 1, 8, .nilFunc⟩),
 (91, ⟨.func, 1, 8, .nilFunc⟩),
 (92, ⟨.func, 1, 8, .nilFunc⟩),
 (93, ⟨.func, 1, 8, .nilFunc⟩),
 (95, ⟨.func, 1, 8, .nilFunc⟩),
 (96, ⟨.func, 1, 8, .nilFunc⟩),
 (97, ⟨.func, 1, 8, .nilFunc⟩),
 (99, ⟨.func, 1, 8, .nilFunc⟩),
 (100, ⟨.func, 1, 8, .nilFunc⟩),
 (101, ⟨.func, 1, 8, .nilFunc⟩),
 (102, ⟨.func, 1, 8, .nilFunc⟩),
 (103, ⟨.struct [(0, 9), (1, 3), (2, 3), (3, 4)], 4, 40, .agg [.str [], .int .i64 0, .int .i64 0, .bool false]⟩),
 (104, ⟨.struct [(0, 9), (1, 3), (2, 3), (3, 4)], 4, 40, .agg [.str [], .int .i64 0, .int .i64 0, .bool false]⟩),
 (105, ⟨.func, 1, 8, .nilFunc⟩),
 (107, ⟨.func, 1, 8, .nilFunc⟩),
 (108, ⟨.func, 1, 8, .nilFunc⟩),
 (110, ⟨.func, 1, 8, .nilFunc⟩),
 (111, ⟨.func, 1, 8, .nilFunc⟩),
 (113, ⟨.func, 1, 8, .nilFunc⟩),
 (115, ⟨.func, 1, 8, .nilFunc⟩),
 (116, ⟨.struct [(0, 59), (1, 86), (7, 3), (8, 86)], 14, 112, .agg [.int .u8 0, .arr .u64 6 (fun _ => 0), .int .i64 0, .arr .u64 6 (fun _ => 0)]⟩),
 (117, ⟨.struct [(0, 59), (1, 86), (7, 3), (8, 86)], 14, 112, .agg [.int .u8 0, .arr .u64 6 (fun _ => 0), .int .i64 0, .arr .u64 6 (fun _ => 0)]⟩),
 (119, ⟨.func, 1, 8, .nilFunc⟩),
 (120, ⟨.func, 1, 8, .nilFunc⟩),
 (121, ⟨.func, 1, 8, .nilFunc⟩),
 (122, ⟨.func, 1, 8, .nilFunc⟩),
 (123, ⟨.func, 1, 8, .nilFunc⟩),
 (125, ⟨.func, 1, 8, .nilFunc⟩),
 (126, ⟨.struct [(0, 33)], 1, 8, .agg [.int .i64 0]⟩),
 (127, ⟨.struct [(0, 33)], 1, 8, .agg [.int .i64 0]⟩),
 (128, ⟨.func, 1, 8, .nilFunc⟩),
 (130, ⟨.func, 1, 8, .nilFunc⟩),
 (131, ⟨.func, 1, 8, .nilFunc⟩),
 (132, ⟨.func, 1, 8, .nilFunc⟩),
 (133, ⟨.func, 1, 8, .nilFunc⟩),
 (134, ⟨.slice 168, 1, 24, .nilSlice⟩),
 (135, ⟨.func, 1, 8, .nilFunc⟩),
 (136, ⟨.func, 1, 8, .nilFunc⟩),
 (137, ⟨.func, 1, 8, .nilFunc⟩),
 (138, ⟨.func, 1, 8, .nilFunc⟩),
 (140, ⟨.func, 1, 8, .nilFunc⟩),
 (142, ⟨.func, 1, 8, .nilFunc⟩),
 (143, ⟨.func, 1, 8, .nilFunc⟩),
 (145, ⟨.func, 1, 8, .nilFunc⟩),
 (146, ⟨.func, 1, 8, .nilFunc⟩),
 (147, ⟨.func, 1, 8, .nilFunc⟩),
 (148, ⟨.func, 1, 8, .nilFunc⟩),
 (149, ⟨.func, 1, 8, .nilFunc⟩),
 (151, ⟨.func, 1, 8, .nilFunc⟩),
 (153, ⟨.func, 1, 8, .nilFunc⟩),
 (155, ⟨.func, 1, 8, .nilFunc⟩),
 (156, ⟨.func, 1, 8, .nilFunc⟩),
 (157, ⟨.func, 1, 8, .nilFunc⟩),
 (159, ⟨.func, 1, 8, .nilFunc⟩),
 (160, ⟨.func, 1, 8, .nilFunc⟩),
 (161, ⟨.func, 1, 8, .nilFunc⟩),
 (162, ⟨.func, 1, 8, .nilFunc⟩),
 (163, ⟨.func, 1, 8, .nilFunc⟩),
 (164, ⟨.func, 1, 8, .nilFunc⟩),
 (165, ⟨.func, 1, 8, .nilFunc⟩),
 (166, ⟨.struct [(0, 3), (1, 3), (2, 3), (3, 9)], 4, 40, .agg [.int .i64 0, .int .i64 0, .int .i64 0, .str []]⟩),
 (167, ⟨.array 4 166, 16, 160, .agg [.agg [.int .i64 0, .int .i64 0, .int .i64 0, .str []], .agg [.int .i64 0, .int .i64 0, .int .i64 0, .str []], .agg [.int .i64 0, .int .i64 0, .int .i64 0, .str []], .agg [.int .i64 0, .int .i64 0, .int .i64 0, .str []]]⟩),
 (168, ⟨.int .u32, 1, 4, .int .u32 0⟩),
 (169, ⟨.func, 1, 8, .nilFunc⟩),
 (171, ⟨.func, 1, 8, .nilFunc⟩),
 (172, ⟨.ptr, 1, 8, .nilPtr⟩),
 (173, ⟨.func, 1, 8, .nilFunc⟩),
 (174, ⟨.func, 1, 8, .nilFunc⟩),
 (175, ⟨.func, 1, 8, .nilFunc⟩),
 (176, ⟨.func, 1, 8, .nilFunc⟩),
 (177, ⟨.func, 1, 8, .nilFunc⟩),
 (178, ⟨.func, 1, 8, .nilFunc⟩),
 (179, ⟨.func, 1, 8, .nilFunc⟩),
 (180, ⟨.func, 1, 8, .nilFunc⟩),
 (181, ⟨.func, 1, 8, .nilFunc⟩),
 (182, ⟨.func, 1, 8, .nilFunc⟩),
 (183, ⟨.func, 1, 8, .nilFunc⟩),
 (184, ⟨.func, 1, 8, .nilFunc⟩),
 (185, ⟨.func, 1, 8, .nilFunc⟩),
 (186, ⟨.func, 1, 8, .nilFunc⟩),
 (187, ⟨.func, 1, 8, .nilFunc⟩),
 (188, ⟨.func, 1, 8, .nilFunc⟩),
 (189, ⟨.func, 1, 8, .nilFunc⟩),
 (190, ⟨.func, 1, 8, .nilFunc⟩),
 (191, ⟨.func, 1, 8, .nilFunc⟩),
 (193, ⟨.func, 1, 8, .nilFunc⟩),
 (194, ⟨.array 64 5, 64, 64, .arr .u8 64 (fun _ => 0)⟩),
 (195, ⟨.func, 1, 8, .nilFunc⟩),
 (198, ⟨.array 0 16, 0, 0, .agg []⟩),
 (201, ⟨.int .u8, 1, 1, .int .u8 0⟩),
 (202, ⟨.int .u8, 1, 1, .int .u8 0⟩),
 (203, ⟨.func, 1, 8, .nilFunc⟩),
 (204, ⟨.ptr, 1, 8, .nilPtr⟩),
 (205, ⟨.int .i32, 1, 4, .int .i32 0⟩),
 (206, ⟨.int .i32, 1, 4, .int .i32 0⟩)]
theorem tys_ok : yaK (OkTI Tryz.prog) tys :=
 ⟨.of (by kernel_rfl) (by kernel_rfl), .of (by kernel_rfl) (by kernel_rfl), .of (by kernel_rfl) (by kernel_rfl), .of (by kernel_rfl) (by kernel_rfl), .of (by kernel_rfl) (by kernel_rfl), .of (by kernel_rfl) (by kernel_rfl), .of (by kernel_rfl) (by kernel_rfl), .of (by kernel_rfl) (by kernel_rfl), .of (by kernel_rfl) (by kernel_rfl), .of (by kernel_rfl) (by kernel_rfl), .of (by kernel_rfl) (by kernel_rfl), .of (by kernel_rfl) (by kernel_rfl), .of (by kernel_rfl) (by kernel_rfl), .of (by kernel_rfl) (by kernel_rfl), .of (by kernel_rfl) (by kernel_rfl), .of (by kernel_rfl) (by kernel_rfl), .of (by kernel_rfl) (by kernel_rfl), .of (by kernel_rfl) (by kernel_rfl), .of (by kernel_rfl) (by kernel_rfl), .of (by kernel_rfl) (by kernel_rfl), .of (by kernel_rfl) (by kernel_rfl), .of (by kernel_rfl) (by kernel_rfl), .of (by kernel_rfl) (by kernel_rfl), .of (by kernel_rfl) (by kernel_rfl), .of (by kernel_rfl) (by kernel_rfl), .of (by kernel_rfl) (by kernel_rfl), .of (by kernel_rfl) (by kernel_rfl), .of (by kernel_rfl) (by kernel_rfl), .of (by kernel_rfl) (by kernel_rfl), .of (by kernel_rfl) (by kernel_rfl), .of (by kernel_rfl) (by kernel_rfl), .of (by kernel_rfl) (by kernel_rfl), .of (by kernel_rfl) (by kernel_rfl), .of (by kernel_rfl) (by kernel_rfl), .of (by kernel_rfl) (by kernel_rfl), .of (by kernel_rfl) (by kernel_rfl), .of (by kernel_rfl) (by kernel_rfl), .of (by kernel_rfl) (by kernel_rfl), .of (by kernel_rfl) (by kernel_rfl), .of (by kernel_rfl) (by kernel_rfl), .of (by kernel_rfl) (by kernel_rfl), .of (by kernel_rfl) (by kernel_rfl), .of (by kernel_rfl) (by kernel_rfl), .of (by kernel_rfl) (by kernel_rfl), .of (by kernel_rfl) (by kernel_rfl), .of (by kernel_rfl) (by kernel_rfl), .of (by kernel_rfl) (by kernel_rfl), .of (by kernel_rfl) (by kernel_rfl), .of (by kernel_rfl) (by kernel_rfl), .of (by kernel_rfl) (by kernel_rfl), .of (by kernel_rfl) (by kernel_rfl), .of (by kernel_rfl) (by kernel_rfl), .of (by kernel_rfl) (by kernel_rfl), .of (by kernel_rfl) (by kernel_rfl), .of (by kernel_rfl) (by kernel_rfl), .of (by kernel_rfl) (by kernel_rfl), .of (by kernel_rfl) (by kernel_rfl), .of (by kernel_rfl) (by kernel_rfl), .of (by kernel_rfl) (by kernel_rfl), .of (by kernel_rfl) (by kernel_rfl), .of (by kernel_rfl) (by kernel_rfl), .of (by kernel_rfl) (by kernel_rfl), .of (by kernel_rfl) (by kernel_rfl), .of (by kernel_rfl) (by kernel_rfl), .of (by kernel_rfl) (by kernel_rfl), .of (by kernel_rfl) (by kernel_rfl), .of (by kernel_rfl) (by kernel_rfl), .of (by kernel_rfl) (by kernel_rfl), .of (by kernel_rfl) (by kernel_rfl), .of (by kernel_rfl) (by kernel_rfl), .of (by kernel_rfl) (by kernel_rfl), .of (by kernel_rfl) (by kernel_rfl), .of (by kernel_rfl) (by kernel_rfl), .of (by kernel_rfl) (by kernel_rfl), .of (by kernel_rfl) (by kernel_rfl), .of (by kernel_rfl) (by kernel_rfl), .of (by kernel_rfl) (by kernel_rfl), .of (by kernel_rfl) (by kernel_rfl), .of (by kernel_rfl) (by kernel_rfl), .of (by kernel_rfl) (by kernel_rfl), .of (by kernel_rfl) (by kernel_rfl), .of (by kernel_rfl) (by kernel_rfl), .of (by kernel_rfl) (by kernel_rfl), .of (by kernel_rfl) (by kernel_rfl), .of (by kernel_rfl) (by kernel_rfl), .of (by kernel_rfl) (by kernel_rfl), .of (by kernel_rfl) (by kernel_rfl), .of (by kernel_rfl) (by kernel_rfl), .of (by kernel_rfl) (by kernel_rfl), .of (by kernel_rfl) (by kernel_rfl), .of (by kernel_rfl) (by kernel_rfl), .of (by kernel_rfl) (by kernel_rfl), .of (by kernel_rfl) (by kernel_rfl), .of (by kernel_rfl) (by kernel_rfl), .of (by kernel_rfl) (by kernel_rfl), .of (by kernel_rfl) (by kernel_rfl), .of (by kernel_rfl) (by kernel_rfl), .of (by kernel_rfl) (by kernel_rfl), .of (by kernel_rfl) (by kernel_rfl), .of (by kernel_rfl) (by kernel_rfl), .of (by kernel_rfl) (by kernel_rfl), .of (by kernel_rfl) (by kernel_rfl), .of (by kernel_rfl) (by kernel_rfl), .of (by kernel_rfl) (by kernel_rfl), .of (by kernel_rfl) (by kernel_rfl), .of (by kernel_rfl) (by kernel_rfl), .of (by kernel_rfl) (by kernel_rfl), .of (by kernel_rfl) (by kernel_rfl), .of (by kernel_rfl) (by kernel_rfl), .of (by kernel_rfl) (by kernel_rfl), .of (by kernel_rfl) (by kernel_rfl), .of (by kernel_rfl) (by kernel_rfl), .of (by kernel_rfl) (by kernel_rfl), .of (by kernel_rfl) (by kernel_rfl), .of (by kernel_rfl) (by kernel_rfl), .of (by kernel_rfl) (by kernel_rfl), .of (by kernel_rfl) (by kernel_rfl), .of (by kernel_rfl) (by kernel_rfl), .of (by kernel_rfl) (by kernel_rfl), .of (by kernel_rfl) (by kernel_rfl), .of (by kernel_rfl) (by kernel_rfl), .of (by kernel_rfl) (by kernel_rfl), .of (by kernel_rfl) (by kernel_rfl), .of (by kernel_rfl) (by kernel_rfl), .of (by kernel_rfl) (by kernel_rfl), .of (by kernel_rfl) (by kernel_rfl), .of (by kernel_rfl) (by kernel_rfl), .of (by kernel_rfl) (by kernel_rfl), .of (by kernel_rfl) (by kernel_rfl), .of (by kernel_rfl) (by kernel_rfl), .of (by kernel_rfl) (by kernel_rfl), .of (by kernel_rfl) (by kernel_rfl), .of (by kernel_rfl) (by kernel_rfl), .of (by kernel_rfl) (by kernel_rfl), .of (by kernel_rfl) (by kernel_rfl), .of (by kernel_rfl) (by kernel_rfl), .of (by kernel_rfl) (by kernel_rfl), .of (by kernel_rfl) (by kernel_rfl), .of (by kernel_rfl) (by kernel_rfl), .of (by kernel_rfl) (by kernel_rfl), .of (by kernel_rfl) (by kernel_rfl), .of (by kernel_rfl) (by kernel_rfl), .of (by kernel_rfl) (by kernel_rfl), .of (by kernel_rfl) (by kernel_rfl), .of (by kernel_rfl) (by kernel_rfl), .of (by kernel_rfl) (by kernel_rfl), .of (by kernel_rfl) (by kernel_rfl), .of (by kernel_rfl) (by kernel_rfl), .of (by kernel_rfl) (by kernel_rfl), .of (by kernel_rfl) (by kernel_rfl), .of (by kernel_rfl) (by kernel_rfl), .of (by kernel_rfl) (by kernel_rfl), .of (by kernel_rfl) (by kernel_rfl), .of (by kernel_rfl) (by kernel_rfl), .of (by kernel_rfl) (by kernel_rfl), .of (by kernel_rfl) (by kernel_rfl), .of (by kernel_rfl) (by kernel_rfl), .of (by kernel_rfl) (by kernel_rfl), .of (by kernel_rfl) (by kernel_rfl), .of (by kernel_rfl) (by kernel_rfl), .of (by kernel_rfl) (by kernel_rfl), .of (by kernel_rfl) (by kernel_rfl), .of (by kernel_rfl) (by kernel_rfl), .of (by kernel_rfl) (by kernel_rfl), .of (by kernel_rfl) (by kernel_rfl), .of (by kernel_rfl) (by kernel_rfl), .of (by kernel_rfl) (by kernel_rfl), trivial⟩
theorem mixed : Tryz.prog.follows .mixedOrders = true := by kernel_rfl
noncomputable def gl : Nat → Option EV := look [(0, .arr .u8 64 ybl)]
noncomputable def e_zap : Entry := ⟨[none], false, fun args H K => match args, H with
 | [.agg [.bool a0_0, .str a0_1, .str a0_2, .int .i64 a0_3]], [] => zap a0_0 a0_1 a0_2 a0_3 (fun y0 => K (EV.bool y0) [])
 | _, _ => False⟩
noncomputable def E_zap : Env := ⟨look tys, look [], look [], gl, yas [], false⟩
theorem X_zap.eq (a0_0 : Bool) (a0_1 : List UInt8) (a0_2 : List UInt8) (a0_3 : Int) (K : EV → yad → Prop) : yaJ E_zap Tryz.f9 false [.agg [.bool a0_0, .str a0_1, .str a0_2, .int .i64 a0_3]] [] K = zap a0_0 a0_1 a0_2 a0_3 (fun y0 => K (EV.bool y0) []) := by
 rw [zap.is]; exact (yac _ _ _ _ _ _).symm.trans (by kernel_rfl)
theorem X_zap.ok : SoundE Tryz.prog gl 9 e_zap := by
 refine yaM (E := E_zap) (fn := Tryz.f9) rfl tys_ok rfl (show yaK _ [] from trivial) mixed (by kernel_rfl) (by kernel_rfl) (by kernel_rfl) 0 (by kernel_rfl) false trivial ?_
 intro args H
 by_cases hx : ∃ (a0_0 : Bool) (a0_1 : List UInt8) (a0_2 : List UInt8) (a0_3 : Int), args = [.agg [.bool a0_0, .str a0_1, .str a0_2, .int .i64 a0_3]] ∧ H = []
 ·obtain ⟨a0_0, a0_1, a0_2, a0_3, rfl, rfl⟩ := hx
  right; intro K
  exact iff_of_eq (X_zap.eq a0_0 a0_1 a0_2 a0_3 K).symm
 ·left; intro K h
  simp only [e_zap] at h
  split at h
  ·exact hx ⟨_, _, _, _, rfl, rfl⟩
  ·exact h
noncomputable def e_zah : Entry := ⟨[], false, fun args H K => match args, H with
 | [], [] => zah  (fun y0 y1 y2 y3 => K (EV.agg [EV.bool y0, EV.str y1, EV.str y2, EV.int .i64 y3]) [])
 | _, _ => False⟩
noncomputable def E_zah : Env := ⟨look tys, look [], look [], gl, yas [], false⟩
theorem X_zah.eq (K : EV → yad → Prop) : yaJ E_zah Tryz.f47 false [] [] K = zah  (fun y0 y1 y2 y3 => K (EV.agg [EV.bool y0, EV.str y1, EV.str y2, EV.int .i64 y3]) []) := by
 rw [zah.is]; exact (yac _ _ _ _ _ _).symm.trans (by kernel_rfl)
theorem X_zah.ok : SoundE Tryz.prog gl 47 e_zah := by
 refine yaM (E := E_zah) (fn := Tryz.f47) rfl tys_ok rfl (show yaK _ [] from trivial) mixed (by kernel_rfl) (by kernel_rfl) (by kernel_rfl) 0 (by kernel_rfl) false trivial ?_
 intro args H
 by_cases hx : args = [] ∧ H = []
 ·obtain ⟨rfl, rfl⟩ := hx
  right; intro K
  exact iff_of_eq (X_zah.eq  K).symm
 ·left; intro K h
  simp only [e_zah] at h
  split at h
  ·exact hx ⟨rfl, rfl⟩
  ·exact h
noncomputable def e_zar : Entry := ⟨[none], false, fun args H K => match args, H with
 | [.str a0], [] => zar a0 (fun y0 => K (EV.int .i64 y0) [])
 | _, _ => False⟩
noncomputable def E_zar : Env := ⟨look tys, look [], look [], gl, yas [], false⟩
theorem X_zar.eq (a0 : List UInt8) (K : EV → yad → Prop) : yaJ E_zar Tryz.f84 false [.str a0] [] K = zar a0 (fun y0 => K (EV.int .i64 y0) []) := by
 rw [zar.is]; exact (yac _ _ _ _ _ _).symm.trans (by kernel_rfl)
theorem X_zar.ok : SoundE Tryz.prog gl 84 e_zar := by
 refine yaM (E := E_zar) (fn := Tryz.f84) rfl tys_ok rfl (show yaK _ [] from trivial) mixed (by kernel_rfl) (by kernel_rfl) (by kernel_rfl) 0 (by kernel_rfl) false trivial ?_
 intro args H
 by_cases hx : ∃ (a0 : List UInt8), args = [.str a0] ∧ H = []
 ·obtain ⟨a0, rfl, rfl⟩ := hx
  right; intro K
  exact iff_of_eq (X_zar.eq a0 K).symm
 ·left; intro K h
  simp only [e_zar] at h
  split at h
  ·exact hx ⟨_, rfl, rfl⟩
  ·exact h
noncomputable def e_zai : Entry := ⟨[none], false, fun args H K => match args, H with
 | [.str a0], [] => zai a0 (fun y0 => K (EV.bool y0) [])
 | _, _ => False⟩
noncomputable def E_zai : Env := ⟨look tys, look [], look [], gl, yas [], false⟩
theorem X_zai.eq (a0 : List UInt8) (K : EV → yad → Prop) : yaJ E_zai Tryz.f85 false [.str a0] [] K = zai a0 (fun y0 => K (EV.bool y0) []) := by
 rw [zai.is]; exact (yac _ _ _ _ _ _).symm.trans (by kernel_rfl)
theorem X_zai.ok : SoundE Tryz.prog gl 85 e_zai := by
 refine yaM (E := E_zai) (fn := Tryz.f85) rfl tys_ok rfl (show yaK _ [] from trivial) mixed (by kernel_rfl) (by kernel_rfl) (by kernel_rfl) 0 (by kernel_rfl) false trivial ?_
 intro args H
 by_cases hx : ∃ (a0 : List UInt8), args = [.str a0] ∧ H = []
 ·obtain ⟨a0, rfl, rfl⟩ := hx
  right; intro K
  exact iff_of_eq (X_zai.eq a0 K).symm
 ·left; intro K h
  simp only [e_zai] at h
  split at h
  ·exact hx ⟨_, rfl, rfl⟩
  ·exact h
noncomputable def e_zak : Entry := ⟨[none], false, fun args H K => match args, H with
 | [.int .i64 a0], [] => zak a0 (fun y0 => K (EV.bool y0) [])
 | _, _ => False⟩
noncomputable def E_zak : Env := ⟨look tys, look [], look [], gl, yas [], false⟩
theorem X_zak.eq (a0 : Int) (K : EV → yad → Prop) : yaJ E_zak Tryz.f86 false [.int .i64 a0] [] K = zak a0 (fun y0 => K (EV.bool y0) []) := by
 rw [zak.is]; exact (yac _ _ _ _ _ _).symm.trans (by kernel_rfl)
theorem X_zak.ok : SoundE Tryz.prog gl 86 e_zak := by
 refine yaM (E := E_zak) (fn := Tryz.f86) rfl tys_ok rfl (show yaK _ [] from trivial) mixed (by kernel_rfl) (by kernel_rfl) (by kernel_rfl) 0 (by kernel_rfl) false trivial ?_
 intro args H
 by_cases hx : ∃ (a0 : Int), args = [.int .i64 a0] ∧ H = []
 ·obtain ⟨a0, rfl, rfl⟩ := hx
  right; intro K
  exact iff_of_eq (X_zak.eq a0 K).symm
 ·left; intro K h
  simp only [e_zak] at h
  split at h
  ·exact hx ⟨_, rfl, rfl⟩
  ·exact h
noncomputable def e_zbk : Entry := ⟨[none, none], false, fun args H K => match args, H with
 | [.str a0, .str a1], [] => zbk a0 a1 (fun y0 => K (EV.bool y0) [])
 | _, _ => False⟩
noncomputable def l_zbk : List (Nat × Entry) := [(84, e_zar)]
noncomputable def E_zbk : Env := ⟨look tys, look l_zbk, look [], gl, yas [], false⟩
theorem X_zbk.eq (a0 : List UInt8) (a1 : List UInt8) (K : EV → yad → Prop) : yaJ E_zbk Tryz.f94 false [.str a0, .str a1] [] K = zbk a0 a1 (fun y0 => K (EV.bool y0) []) := by
 rw [zbk.is]; exact (yac _ _ _ _ _ _).symm.trans (by kernel_rfl)
theorem X_zbk.ok : SoundE Tryz.prog gl 94 e_zbk := by
 refine yaM (E := E_zbk) (fn := Tryz.f94) rfl tys_ok rfl (show yaK _ l_zbk from ⟨X_zar.ok, trivial⟩) mixed (by kernel_rfl) (by kernel_rfl) (by kernel_rfl) 0 (by kernel_rfl) false trivial ?_
 intro args H
 by_cases hx : ∃ (a0 : List UInt8) (a1 : List UInt8), args = [.str a0, .str a1] ∧ H = []
 ·obtain ⟨a0, a1, rfl, rfl⟩ := hx
  right; intro K
  exact iff_of_eq (X_zbk.eq a0 a1 K).symm
 ·left; intro K h
  simp only [e_zbk] at h
  split at h
  ·exact hx ⟨_, _, rfl, rfl⟩
  ·exact h
noncomputable def e_zbq : Entry := ⟨[none], false, fun args H K => match args, H with
 | [.str a0], [] => zbq a0 (fun y0 y1 => K (EV.rsI .u32 y0 y1) [])
 | _, _ => False⟩
noncomputable def E_zbq : Env := ⟨look tys, look [], look [(3, zbq.l3.entry)], gl, yas [], false⟩
theorem zbq.l3X.stepEq (R : List EV → yad → Prop) (K : Ex → List EV → yad → Prop) (x0 : List UInt8) (x1 : Nat) (x2 : Nat) (x3 : Int) (x4 : Int) (x5 : Nat) (x6 : Nat → Int) : yah (yat E_zbq (yaa Tryz.f96 0) { (LV.mk 8 [(0, 8)] 4 0 false) with nx := live (.loop (yaa Tryz.f96 0)) (LV.mk 8 [(0, 8)] 4 0 false) }) (live (.loop (yaa Tryz.f96 0)) (LV.mk 8 [(0, 8)] 4 0 false)) (LV.mk 8 [(0, 8)] 4 0 false) 0 37 R [EV.str x0, EV.slice 0 0 x1 (some x2) 1, EV.int .i64 x3, EV.int .i64 x4] [some (EV.arr .u32 x5 x6)] K = zbq.l3.step (fun x0 x1 x2 x3 x4 x5 x6 => R [EV.str x0, EV.slice 0 0 x1 (some x2) 1, EV.int .i64 x3, EV.int .i64 x4] [some (EV.arr .u32 x5 x6)]) (fun y0 y1 y2 y3 => K (.exit 0) [EV.slice 0 0 y0 (some y1) 1] [some (EV.arr .u32 y2 y3)]) x0 x1 x2 x3 x4 x5 x6 := (yaw _ _ _ _ _ _ _ _ _ _ _).symm.trans (by kernel_rfl)
theorem zbq.l3X.eq (K : Ex → List EV → yad → Prop) : ∀ (n : Nat) (x0 : List UInt8) (x1 : Nat) (x2 : Nat) (x3 : Int) (x4 : Int) (x5 : Nat) (x6 : Nat → Int), yar E_zbq (yaa Tryz.f96 0) (LV.mk 8 [(0, 8)] 4 0 false) 0 37 K n [EV.str x0, EV.slice 0 0 x1 (some x2) 1, EV.int .i64 x3, EV.int .i64 x4] [some (EV.arr .u32 x5 x6)] = zbq.l3 (fun y0 y1 y2 y3 => K (.exit 0) [EV.slice 0 0 y0 (some y1) 1] [some (EV.arr .u32 y2 y3)]) n x0 x1 x2 x3 x4 x5 x6
 | 0, _, _, _, _, _, _, _ => rfl
 | n + 1, x0, x1, x2, x3, x4, x5, x6 => by
  have ih : (fun (x0 : List UInt8) (x1 : Nat) (x2 : Nat) (x3 : Int) (x4 : Int) (x5 : Nat) (x6 : Nat → Int) => yar E_zbq (yaa Tryz.f96 0) (LV.mk 8 [(0, 8)] 4 0 false) 0 37 K n [EV.str x0, EV.slice 0 0 x1 (some x2) 1, EV.int .i64 x3, EV.int .i64 x4] [some (EV.arr .u32 x5 x6)]) = zbq.l3 (fun y0 y1 y2 y3 => K (.exit 0) [EV.slice 0 0 y0 (some y1) 1] [some (EV.arr .u32 y2 y3)]) n := by funext x0 x1 x2 x3 x4 x5 x6; exact zbq.l3X.eq K n x0 x1 x2 x3 x4 x5 x6
  show yah _ _ _ _ _ (yar E_zbq (yaa Tryz.f96 0) (LV.mk 8 [(0, 8)] 4 0 false) 0 37 K n) [EV.str x0, EV.slice 0 0 x1 (some x2) 1, EV.int .i64 x3, EV.int .i64 x4] [some (EV.arr .u32 x5 x6)] K = zbq.l3.step (zbq.l3 (fun y0 y1 y2 y3 => K (.exit 0) [EV.slice 0 0 y0 (some y1) 1] [some (EV.arr .u32 y2 y3)]) n) (fun y0 y1 y2 y3 => K (.exit 0) [EV.slice 0 0 y0 (some y1) 1] [some (EV.arr .u32 y2 y3)]) x0 x1 x2 x3 x4 x5 x6
  rw [← ih]
  exact zbq.l3X.stepEq _ K x0 x1 x2 x3 x4 x5 x6
theorem zbq.l3X.ok : LoopEq E_zbq (yaa Tryz.f96 0) := by
 intro L hL vs H
 have h1 : E_zbq.lp (yag (yaa Tryz.f96 0)) = some zbq.l3.entry := by kernel_rfl
 have h2 : L = zbq.l3.entry := Option.some.inj (hL.symm.trans h1)
 subst h2
 by_cases hx : ∃ (x0 : List UInt8) (x1 : Nat) (x2 : Nat) (x3 : Int) (x4 : Int) (x5 : Nat) (x6 : Nat → Int), vs = [EV.str x0, EV.slice 0 0 x1 (some x2) 1, EV.int .i64 x3, EV.int .i64 x4] ∧ H = [some (EV.arr .u32 x5 x6)]
 ·obtain ⟨x0, x1, x2, x3, x4, x5, x6, rfl, rfl⟩ := hx
  right; intro K
  exact exists_congr fun n => iff_of_eq (zbq.l3X.eq K n x0 x1 x2 x3 x4 x5 x6).symm
 ·left; intro K h
  simp only [zbq.l3.entry] at h
  split at h
  ·exact hx ⟨_, _, _, _, _, _, _, rfl, rfl⟩
  ·exact h
theorem X_zbq.eq (a0 : List UInt8) (K : EV → yad → Prop) : yaJ E_zbq Tryz.f96 false [.str a0] [] K = zbq a0 (fun y0 y1 => K (EV.rsI .u32 y0 y1) []) := by
 rw [zbq.is]; exact (yac _ _ _ _ _ _).symm.trans (by kernel_rfl)
theorem X_zbq.ok : SoundE Tryz.prog gl 96 e_zbq := by
 refine yaM (E := E_zbq) (fn := Tryz.f96) rfl tys_ok rfl (show yaK _ [] from trivial) mixed (by kernel_rfl) (by kernel_rfl) (by kernel_rfl) 1 (by kernel_rfl) false ⟨zbq.l3X.ok, trivial⟩ ?_
 intro args H
 by_cases hx : ∃ (a0 : List UInt8), args = [.str a0] ∧ H = []
 ·obtain ⟨a0, rfl, rfl⟩ := hx
  right; intro K
  exact iff_of_eq (X_zbq.eq a0 K).symm
 ·left; intro K h
  simp only [e_zbq] at h
  split at h
  ·exact hx ⟨_, rfl, rfl⟩
  ·exact h
noncomputable def e_zbe : Entry := ⟨[none], true, fun args H K => match args, H with
 | [.rsI .u32 a0n a0], [] => zbe a0n a0 (fun y0 y1 => K (EV.rsI .u32 y0 y1) [])
 | _, _ => False⟩
noncomputable def e_zbd : Entry := ⟨[none], true, fun args H K => match args, H with
 | [.slice 0 0 a0l (some a0c) 1], [some (.arr .u32 a0n a0)] => zbd a0l a0c a0n a0 (fun y0 y1 y2 y3 => K (EV.slice 0 0 y0 (some y1) 1) [some (EV.arr .u32 y2 y3)])
 | _, _ => False⟩
noncomputable def e_zbc : Entry := ⟨[none], true, fun args H K => match args, H with
 | [.slice 0 0 a0l none 1], [some (.arr .u32 a0n a0)] => zbc a0l a0n a0 (fun y0 y1 y2 => K (EV.slice 0 0 y0 none 1) [some (EV.arr .u32 y1 y2)])
 | _, _ => False⟩
noncomputable def e_nat_cut : Entry := Entry.pick (fun args H => match args, H with | [.rsI .u32 a0n a0], [] => true | _, _ => false) e_zbe (Entry.pick (fun args H => match args, H with | [.slice 0 0 a0l (some a0c) 1], [some (.arr .u32 a0n a0)] => true | _, _ => false) e_zbd (e_zbc))
noncomputable def E_zbe : Env := ⟨look tys, look [], look [(1, zbe.l1.entry)], gl, yas [], false⟩
theorem zbe.l1X.stepEq (R : List EV → yad → Prop) (K : Ex → List EV → yad → Prop) (x0 : Nat) (x1 : Nat → Int) : yah (yat E_zbe (yaa Tryz.f172 0) { (LV.mk 1 [(0, 1)] 4 0 false) with nx := live (.loop (yaa Tryz.f172 0)) (LV.mk 1 [(0, 1)] 4 0 false) }) (live (.loop (yaa Tryz.f172 0)) (LV.mk 1 [(0, 1)] 4 0 false)) (LV.mk 1 [(0, 1)] 4 0 false) 0 21 R [EV.rsI .u32 x0 x1] [] K = zbe.l1.step (fun x0 x1 => R [EV.rsI .u32 x0 x1] []) (fun y0 y1 => K (.exit 0) [EV.rsI .u32 y0 y1] []) x0 x1 := (yaw _ _ _ _ _ _ _ _ _ _ _).symm.trans (by kernel_rfl)
theorem zbe.l1X.eq (K : Ex → List EV → yad → Prop) : ∀ (n : Nat) (x0 : Nat) (x1 : Nat → Int), yar E_zbe (yaa Tryz.f172 0) (LV.mk 1 [(0, 1)] 4 0 false) 0 21 K n [EV.rsI .u32 x0 x1] [] = zbe.l1 (fun y0 y1 => K (.exit 0) [EV.rsI .u32 y0 y1] []) n x0 x1
 | 0, _, _ => rfl
 | n + 1, x0, x1 => by
  have ih : (fun (x0 : Nat) (x1 : Nat → Int) => yar E_zbe (yaa Tryz.f172 0) (LV.mk 1 [(0, 1)] 4 0 false) 0 21 K n [EV.rsI .u32 x0 x1] []) = zbe.l1 (fun y0 y1 => K (.exit 0) [EV.rsI .u32 y0 y1] []) n := by funext x0 x1; exact zbe.l1X.eq K n x0 x1
  show yah _ _ _ _ _ (yar E_zbe (yaa Tryz.f172 0) (LV.mk 1 [(0, 1)] 4 0 false) 0 21 K n) [EV.rsI .u32 x0 x1] [] K = zbe.l1.step (zbe.l1 (fun y0 y1 => K (.exit 0) [EV.rsI .u32 y0 y1] []) n) (fun y0 y1 => K (.exit 0) [EV.rsI .u32 y0 y1] []) x0 x1
  rw [← ih]
  exact zbe.l1X.stepEq _ K x0 x1
theorem zbe.l1X.ok : LoopEq E_zbe (yaa Tryz.f172 0) := by
 intro L hL vs H
 have h1 : E_zbe.lp (yag (yaa Tryz.f172 0)) = some zbe.l1.entry := by kernel_rfl
 have h2 : L = zbe.l1.entry := Option.some.inj (hL.symm.trans h1)
 subst h2
 by_cases hx : ∃ (x0 : Nat) (x1 : Nat → Int), vs = [EV.rsI .u32 x0 x1] ∧ H = []
 ·obtain ⟨x0, x1, rfl, rfl⟩ := hx
  right; intro K
  exact exists_congr fun n => iff_of_eq (zbe.l1X.eq K n x0 x1).symm
 ·left; intro K h
  simp only [zbe.l1.entry] at h
  split at h
  ·exact hx ⟨_, _, rfl, rfl⟩
  ·exact h
theorem X_zbe.eq (a0n : Nat) (a0 : Nat → Int) (K : EV → yad → Prop) : yaJ E_zbe Tryz.f172 true [.rsI .u32 a0n a0] [] K = zbe a0n a0 (fun y0 y1 => K (EV.rsI .u32 y0 y1) []) := by
 rw [zbe.is]; exact (yac _ _ _ _ _ _).symm.trans (by kernel_rfl)
theorem X_zbe.ok : SoundE Tryz.prog gl 172 e_zbe := by
 refine yaM (E := E_zbe) (fn := Tryz.f172) rfl tys_ok rfl (show yaK _ [] from trivial) mixed (by kernel_rfl) (by kernel_rfl) (by kernel_rfl) 1 (by kernel_rfl) true ⟨zbe.l1X.ok, trivial⟩ ?_
 intro args H
 by_cases hx : ∃ (a0n : Nat) (a0 : Nat → Int), args = [.rsI .u32 a0n a0] ∧ H = []
 ·obtain ⟨a0n, a0, rfl, rfl⟩ := hx
  right; intro K
  exact iff_of_eq (X_zbe.eq a0n a0 K).symm
 ·left; intro K h
  simp only [e_zbe] at h
  split at h
  ·exact hx ⟨_, _, rfl, rfl⟩
  ·exact h
noncomputable def E_zbd : Env := ⟨look tys, look [], look [(1, zbd.l1.entry)], gl, yas [], false⟩
theorem zbd.l1X.stepEq (R : List EV → yad → Prop) (K : Ex → List EV → yad → Prop) (x0 : Nat) (x1 : Nat) (x2 : Nat) (x3 : Nat → Int) : yah (yat E_zbd (yaa Tryz.f172 0) { (LV.mk 1 [(0, 1)] 4 1 false) with nx := live (.loop (yaa Tryz.f172 0)) (LV.mk 1 [(0, 1)] 4 1 false) }) (live (.loop (yaa Tryz.f172 0)) (LV.mk 1 [(0, 1)] 4 1 false)) (LV.mk 1 [(0, 1)] 4 1 false) 1 21 R [EV.slice 0 0 x0 (some x1) 1] [some (EV.arr .u32 x2 x3)] K = zbd.l1.step (fun x0 x1 x2 x3 => R [EV.slice 0 0 x0 (some x1) 1] [some (EV.arr .u32 x2 x3)]) (fun y0 y1 y2 y3 => K (.exit 0) [EV.slice 0 0 y0 (some y1) 1] [some (EV.arr .u32 y2 y3)]) x0 x1 x2 x3 := (yaw _ _ _ _ _ _ _ _ _ _ _).symm.trans (by kernel_rfl)
theorem zbd.l1X.eq (K : Ex → List EV → yad → Prop) : ∀ (n : Nat) (x0 : Nat) (x1 : Nat) (x2 : Nat) (x3 : Nat → Int), yar E_zbd (yaa Tryz.f172 0) (LV.mk 1 [(0, 1)] 4 1 false) 1 21 K n [EV.slice 0 0 x0 (some x1) 1] [some (EV.arr .u32 x2 x3)] = zbd.l1 (fun y0 y1 y2 y3 => K (.exit 0) [EV.slice 0 0 y0 (some y1) 1] [some (EV.arr .u32 y2 y3)]) n x0 x1 x2 x3
 | 0, _, _, _, _ => rfl
 | n + 1, x0, x1, x2, x3 => by
  have ih : (fun (x0 : Nat) (x1 : Nat) (x2 : Nat) (x3 : Nat → Int) => yar E_zbd (yaa Tryz.f172 0) (LV.mk 1 [(0, 1)] 4 1 false) 1 21 K n [EV.slice 0 0 x0 (some x1) 1] [some (EV.arr .u32 x2 x3)]) = zbd.l1 (fun y0 y1 y2 y3 => K (.exit 0) [EV.slice 0 0 y0 (some y1) 1] [some (EV.arr .u32 y2 y3)]) n := by funext x0 x1 x2 x3; exact zbd.l1X.eq K n x0 x1 x2 x3
  show yah _ _ _ _ _ (yar E_zbd (yaa Tryz.f172 0) (LV.mk 1 [(0, 1)] 4 1 false) 1 21 K n) [EV.slice 0 0 x0 (some x1) 1] [some (EV.arr .u32 x2 x3)] K = zbd.l1.step (zbd.l1 (fun y0 y1 y2 y3 => K (.exit 0) [EV.slice 0 0 y0 (some y1) 1] [some (EV.arr .u32 y2 y3)]) n) (fun y0 y1 y2 y3 => K (.exit 0) [EV.slice 0 0 y0 (some y1) 1] [some (EV.arr .u32 y2 y3)]) x0 x1 x2 x3
  rw [← ih]
  exact zbd.l1X.stepEq _ K x0 x1 x2 x3
theorem zbd.l1X.ok : LoopEq E_zbd (yaa Tryz.f172 0) := by
 intro L hL vs H
 have h1 : E_zbd.lp (yag (yaa Tryz.f172 0)) = some zbd.l1.entry := by kernel_rfl
 have h2 : L = zbd.l1.entry := Option.some.inj (hL.symm.trans h1)
 subst h2
 by_cases hx : ∃ (x0 : Nat) (x1 : Nat) (x2 : Nat) (x3 : Nat → Int), vs = [EV.slice 0 0 x0 (some x1) 1] ∧ H = [some (EV.arr .u32 x2 x3)]
 ·obtain ⟨x0, x1, x2, x3, rfl, rfl⟩ := hx
  right; intro K
  exact exists_congr fun n => iff_of_eq (zbd.l1X.eq K n x0 x1 x2 x3).symm
 ·left; intro K h
  simp only [zbd.l1.entry] at h
  split at h
  ·exact hx ⟨_, _, _, _, rfl, rfl⟩
  ·exact h
theorem X_zbd.eq (a0l : Nat) (a0c : Nat) (a0n : Nat) (a0 : Nat → Int) (K : EV → yad → Prop) : yaJ E_zbd Tryz.f172 true [.slice 0 0 a0l (some a0c) 1] [some (.arr .u32 a0n a0)] K = zbd a0l a0c a0n a0 (fun y0 y1 y2 y3 => K (EV.slice 0 0 y0 (some y1) 1) [some (EV.arr .u32 y2 y3)]) := by
 rw [zbd.is]; exact (yac _ _ _ _ _ _).symm.trans (by kernel_rfl)
theorem X_zbd.ok : SoundE Tryz.prog gl 172 e_zbd := by
 refine yaM (E := E_zbd) (fn := Tryz.f172) rfl tys_ok rfl (show yaK _ [] from trivial) mixed (by kernel_rfl) (by kernel_rfl) (by kernel_rfl) 1 (by kernel_rfl) true ⟨zbd.l1X.ok, trivial⟩ ?_
 intro args H
 by_cases hx : ∃ (a0l : Nat) (a0c : Nat) (a0n : Nat) (a0 : Nat → Int), args = [.slice 0 0 a0l (some a0c) 1] ∧ H = [some (.arr .u32 a0n a0)]
 ·obtain ⟨a0l, a0c, a0n, a0, rfl, rfl⟩ := hx
  right; intro K
  exact iff_of_eq (X_zbd.eq a0l a0c a0n a0 K).symm
 ·left; intro K h
  simp only [e_zbd] at h
  split at h
  ·exact hx ⟨_, _, _, _, rfl, rfl⟩
  ·exact h
noncomputable def E_zbc : Env := ⟨look tys, look [], look [(1, zbc.l1.entry)], gl, yas [], false⟩
theorem zbc.l1X.stepEq (R : List EV → yad → Prop) (K : Ex → List EV → yad → Prop) (x0 : Nat) (x1 : Nat) (x2 : Nat → Int) : yah (yat E_zbc (yaa Tryz.f172 0) { (LV.mk 1 [(0, 1)] 4 1 false) with nx := live (.loop (yaa Tryz.f172 0)) (LV.mk 1 [(0, 1)] 4 1 false) }) (live (.loop (yaa Tryz.f172 0)) (LV.mk 1 [(0, 1)] 4 1 false)) (LV.mk 1 [(0, 1)] 4 1 false) 1 21 R [EV.slice 0 0 x0 none 1] [some (EV.arr .u32 x1 x2)] K = zbc.l1.step (fun x0 x1 x2 => R [EV.slice 0 0 x0 none 1] [some (EV.arr .u32 x1 x2)]) (fun y0 y1 y2 => K (.exit 0) [EV.slice 0 0 y0 none 1] [some (EV.arr .u32 y1 y2)]) x0 x1 x2 := (yaw _ _ _ _ _ _ _ _ _ _ _).symm.trans (by kernel_rfl)
theorem zbc.l1X.eq (K : Ex → List EV → yad → Prop) : ∀ (n : Nat) (x0 : Nat) (x1 : Nat) (x2 : Nat → Int), yar E_zbc (yaa Tryz.f172 0) (LV.mk 1 [(0, 1)] 4 1 false) 1 21 K n [EV.slice 0 0 x0 none 1] [some (EV.arr .u32 x1 x2)] = zbc.l1 (fun y0 y1 y2 => K (.exit 0) [EV.slice 0 0 y0 none 1] [some (EV.arr .u32 y1 y2)]) n x0 x1 x2
 | 0, _, _, _ => rfl
 | n + 1, x0, x1, x2 => by
  have ih : (fun (x0 : Nat) (x1 : Nat) (x2 : Nat → Int) => yar E_zbc (yaa Tryz.f172 0) (LV.mk 1 [(0, 1)] 4 1 false) 1 21 K n [EV.slice 0 0 x0 none 1] [some (EV.arr .u32 x1 x2)]) = zbc.l1 (fun y0 y1 y2 => K (.exit 0) [EV.slice 0 0 y0 none 1] [some (EV.arr .u32 y1 y2)]) n := by funext x0 x1 x2; exact zbc.l1X.eq K n x0 x1 x2
  show yah _ _ _ _ _ (yar E_zbc (yaa Tryz.f172 0) (LV.mk 1 [(0, 1)] 4 1 false) 1 21 K n) [EV.slice 0 0 x0 none 1] [some (EV.arr .u32 x1 x2)] K = zbc.l1.step (zbc.l1 (fun y0 y1 y2 => K (.exit 0) [EV.slice 0 0 y0 none 1] [some (EV.arr .u32 y1 y2)]) n) (fun y0 y1 y2 => K (.exit 0) [EV.slice 0 0 y0 none 1] [some (EV.arr .u32 y1 y2)]) x0 x1 x2
  rw [← ih]
  exact zbc.l1X.stepEq _ K x0 x1 x2
theorem zbc.l1X.ok : LoopEq E_zbc (yaa Tryz.f172 0) := by
 intro L hL vs H
 have h1 : E_zbc.lp (yag (yaa Tryz.f172 0)) = some zbc.l1.entry := by kernel_rfl
 have h2 : L = zbc.l1.entry := Option.some.inj (hL.symm.trans h1)
 subst h2
 by_cases hx : ∃ (x0 : Nat) (x1 : Nat) (x2 : Nat → Int), vs = [EV.slice 0 0 x0 none 1] ∧ H = [some (EV.arr .u32 x1 x2)]
 ·obtain ⟨x0, x1, x2, rfl, rfl⟩ := hx
  right; intro K
  exact exists_congr fun n => iff_of_eq (zbc.l1X.eq K n x0 x1 x2).symm
 ·left; intro K h
  simp only [zbc.l1.entry] at h
  split at h
  ·exact hx ⟨_, _, _, rfl, rfl⟩
  ·exact h
theorem X_zbc.eq (a0l : Nat) (a0n : Nat) (a0 : Nat → Int) (K : EV → yad → Prop) : yaJ E_zbc Tryz.f172 true [.slice 0 0 a0l none 1] [some (.arr .u32 a0n a0)] K = zbc a0l a0n a0 (fun y0 y1 y2 => K (EV.slice 0 0 y0 none 1) [some (EV.arr .u32 y1 y2)]) := by
 rw [zbc.is]; exact (yac _ _ _ _ _ _).symm.trans (by kernel_rfl)
theorem X_zbc.ok : SoundE Tryz.prog gl 172 e_zbc := by
 refine yaM (E := E_zbc) (fn := Tryz.f172) rfl tys_ok rfl (show yaK _ [] from trivial) mixed (by kernel_rfl) (by kernel_rfl) (by kernel_rfl) 1 (by kernel_rfl) true ⟨zbc.l1X.ok, trivial⟩ ?_
 intro args H
 by_cases hx : ∃ (a0l : Nat) (a0n : Nat) (a0 : Nat → Int), args = [.slice 0 0 a0l none 1] ∧ H = [some (.arr .u32 a0n a0)]
 ·obtain ⟨a0l, a0n, a0, rfl, rfl⟩ := hx
  right; intro K
  exact iff_of_eq (X_zbc.eq a0l a0n a0 K).symm
 ·left; intro K h
  simp only [e_zbc] at h
  split at h
  ·exact hx ⟨_, _, _, rfl, rfl⟩
  ·exact h
theorem X_nat_cut.ok : SoundE Tryz.prog gl 172 e_nat_cut := SoundE.pick X_zbe.ok (SoundE.pick X_zbd.ok (X_zbc.ok))
noncomputable def e_zbi : Entry := ⟨[some .u32], false, fun args H K => match args, H with
 | [.rsI .u32 a0n a0], [] => zbi a0n a0 (fun y0 => K (EV.str y0) [])
 | _, _ => False⟩
noncomputable def l_zbi : List (Nat × Entry) := [(172, e_nat_cut)]
noncomputable def E_zbi : Env := ⟨look tys, look l_zbi, look [(4, zbi.l4.entry), (8, zbi.l8.entry)], gl, yas [], false⟩
theorem zbi.l4X.stepEq (R : List EV → yad → Prop) (K : Ex → List EV → yad → Prop) (x0 : Nat) (x1 : Nat → Int) (x2 : Nat) (x3 : Nat) (x4 : Int) (x5 : Int) (x6 : Nat) (x7 : Nat → Int) : yah (yat E_zbi (yaa Tryz.f133 0) { (LV.mk 8 [(0, 8)] 4 0 false) with nx := live (.loop (yaa Tryz.f133 0)) (LV.mk 8 [(0, 8)] 4 0 false) }) (live (.loop (yaa Tryz.f133 0)) (LV.mk 8 [(0, 8)] 4 0 false)) (LV.mk 8 [(0, 8)] 4 0 false) 0 48 R [EV.rsI .u32 x0 x1, EV.slice 0 0 x2 (some x3) 1, EV.int .i64 x4, EV.int .i64 x5] [some (EV.arr .u8 x6 x7)] K = zbi.l4.step (fun x0 x1 x2 x3 x4 x5 x6 x7 => R [EV.rsI .u32 x0 x1, EV.slice 0 0 x2 (some x3) 1, EV.int .i64 x4, EV.int .i64 x5] [some (EV.arr .u8 x6 x7)]) (fun y0 y1 y2 y3 => K (.exit 0) [EV.slice 0 0 y0 (some y1) 1] [some (EV.arr .u8 y2 y3)]) x0 x1 x2 x3 x4 x5 x6 x7 := (yaw _ _ _ _ _ _ _ _ _ _ _).symm.trans (by kernel_rfl)
theorem zbi.l4X.eq (K : Ex → List EV → yad → Prop) : ∀ (n : Nat) (x0 : Nat) (x1 : Nat → Int) (x2 : Nat) (x3 : Nat) (x4 : Int) (x5 : Int) (x6 : Nat) (x7 : Nat → Int), yar E_zbi (yaa Tryz.f133 0) (LV.mk 8 [(0, 8)] 4 0 false) 0 48 K n [EV.rsI .u32 x0 x1, EV.slice 0 0 x2 (some x3) 1, EV.int .i64 x4, EV.int .i64 x5] [some (EV.arr .u8 x6 x7)] = zbi.l4 (fun y0 y1 y2 y3 => K (.exit 0) [EV.slice 0 0 y0 (some y1) 1] [some (EV.arr .u8 y2 y3)]) n x0 x1 x2 x3 x4 x5 x6 x7
 | 0, _, _, _, _, _, _, _, _ => rfl
 | n + 1, x0, x1, x2, x3, x4, x5, x6, x7 => by
  have ih : (fun (x0 : Nat) (x1 : Nat → Int) (x2 : Nat) (x3 : Nat) (x4 : Int) (x5 : Int) (x6 : Nat) (x7 : Nat → Int) => yar E_zbi (yaa Tryz.f133 0) (LV.mk 8 [(0, 8)] 4 0 false) 0 48 K n [EV.rsI .u32 x0 x1, EV.slice 0 0 x2 (some x3) 1, EV.int .i64 x4, EV.int .i64 x5] [some (EV.arr .u8 x6 x7)]) = zbi.l4 (fun y0 y1 y2 y3 => K (.exit 0) [EV.slice 0 0 y0 (some y1) 1] [some (EV.arr .u8 y2 y3)]) n := by funext x0 x1 x2 x3 x4 x5 x6 x7; exact zbi.l4X.eq K n x0 x1 x2 x3 x4 x5 x6 x7
  show yah _ _ _ _ _ (yar E_zbi (yaa Tryz.f133 0) (LV.mk 8 [(0, 8)] 4 0 false) 0 48 K n) [EV.rsI .u32 x0 x1, EV.slice 0 0 x2 (some x3) 1, EV.int .i64 x4, EV.int .i64 x5] [some (EV.arr .u8 x6 x7)] K = zbi.l4.step (zbi.l4 (fun y0 y1 y2 y3 => K (.exit 0) [EV.slice 0 0 y0 (some y1) 1] [some (EV.arr .u8 y2 y3)]) n) (fun y0 y1 y2 y3 => K (.exit 0) [EV.slice 0 0 y0 (some y1) 1] [some (EV.arr .u8 y2 y3)]) x0 x1 x2 x3 x4 x5 x6 x7
  rw [← ih]
  exact zbi.l4X.stepEq _ K x0 x1 x2 x3 x4 x5 x6 x7
theorem zbi.l4X.ok : LoopEq E_zbi (yaa Tryz.f133 0) := by
 intro L hL vs H
 have h1 : E_zbi.lp (yag (yaa Tryz.f133 0)) = some zbi.l4.entry := by kernel_rfl
 have h2 : L = zbi.l4.entry := Option.some.inj (hL.symm.trans h1)
 subst h2
 by_cases hx : ∃ (x0 : Nat) (x1 : Nat → Int) (x2 : Nat) (x3 : Nat) (x4 : Int) (x5 : Int) (x6 : Nat) (x7 : Nat → Int), vs = [EV.rsI .u32 x0 x1, EV.slice 0 0 x2 (some x3) 1, EV.int .i64 x4, EV.int .i64 x5] ∧ H = [some (EV.arr .u8 x6 x7)]
 ·obtain ⟨x0, x1, x2, x3, x4, x5, x6, x7, rfl, rfl⟩ := hx
  right; intro K
  exact exists_congr fun n => iff_of_eq (zbi.l4X.eq K n x0 x1 x2 x3 x4 x5 x6 x7).symm
 ·left; intro K h
  simp only [zbi.l4.entry] at h
  split at h
  ·exact hx ⟨_, _, _, _, _, _, _, _, rfl, rfl⟩
  ·exact h
theorem zbi.l8X.stepEq (R : List EV → yad → Prop) (K : Ex → List EV → yad → Prop) (x0 : Nat) (x1 : Nat) (x2 : Nat) (x3 : Nat) (x4 : Nat → Int) : yah (yat E_zbi (yaa Tryz.f133 1) { (LV.mk 8 [(2, 8)] 4 0 false) with nx := live (.loop (yaa Tryz.f133 1)) (LV.mk 8 [(2, 8)] 4 0 false) }) (live (.loop (yaa Tryz.f133 1)) (LV.mk 8 [(2, 8)] 4 0 false)) (LV.mk 8 [(2, 8)] 4 0 false) 0 48 R [EV.slice 0 x0 x1 (some x2) 1] [some (EV.arr .u8 x3 x4)] K = zbi.l8.step (fun x0 x1 x2 x3 x4 => R [EV.slice 0 x0 x1 (some x2) 1] [some (EV.arr .u8 x3 x4)]) (fun y0 y1 y2 y3 y4 => K (.exit 2) [EV.slice 0 y0 y1 (some y2) 1] [some (EV.arr .u8 y3 y4)]) x0 x1 x2 x3 x4 := (yaw _ _ _ _ _ _ _ _ _ _ _).symm.trans (by kernel_rfl)
theorem zbi.l8X.eq (K : Ex → List EV → yad → Prop) : ∀ (n : Nat) (x0 : Nat) (x1 : Nat) (x2 : Nat) (x3 : Nat) (x4 : Nat → Int), yar E_zbi (yaa Tryz.f133 1) (LV.mk 8 [(2, 8)] 4 0 false) 0 48 K n [EV.slice 0 x0 x1 (some x2) 1] [some (EV.arr .u8 x3 x4)] = zbi.l8 (fun y0 y1 y2 y3 y4 => K (.exit 2) [EV.slice 0 y0 y1 (some y2) 1] [some (EV.arr .u8 y3 y4)]) n x0 x1 x2 x3 x4
 | 0, _, _, _, _, _ => rfl
 | n + 1, x0, x1, x2, x3, x4 => by
  have ih : (fun (x0 : Nat) (x1 : Nat) (x2 : Nat) (x3 : Nat) (x4 : Nat → Int) => yar E_zbi (yaa Tryz.f133 1) (LV.mk 8 [(2, 8)] 4 0 false) 0 48 K n [EV.slice 0 x0 x1 (some x2) 1] [some (EV.arr .u8 x3 x4)]) = zbi.l8 (fun y0 y1 y2 y3 y4 => K (.exit 2) [EV.slice 0 y0 y1 (some y2) 1] [some (EV.arr .u8 y3 y4)]) n := by funext x0 x1 x2 x3 x4; exact zbi.l8X.eq K n x0 x1 x2 x3 x4
  show yah _ _ _ _ _ (yar E_zbi (yaa Tryz.f133 1) (LV.mk 8 [(2, 8)] 4 0 false) 0 48 K n) [EV.slice 0 x0 x1 (some x2) 1] [some (EV.arr .u8 x3 x4)] K = zbi.l8.step (zbi.l8 (fun y0 y1 y2 y3 y4 => K (.exit 2) [EV.slice 0 y0 y1 (some y2) 1] [some (EV.arr .u8 y3 y4)]) n) (fun y0 y1 y2 y3 y4 => K (.exit 2) [EV.slice 0 y0 y1 (some y2) 1] [some (EV.arr .u8 y3 y4)]) x0 x1 x2 x3 x4
  rw [← ih]
  exact zbi.l8X.stepEq _ K x0 x1 x2 x3 x4
theorem zbi.l8X.ok : LoopEq E_zbi (yaa Tryz.f133 1) := by
 intro L hL vs H
 have h1 : E_zbi.lp (yag (yaa Tryz.f133 1)) = some zbi.l8.entry := by kernel_rfl
 have h2 : L = zbi.l8.entry := Option.some.inj (hL.symm.trans h1)
 subst h2
 by_cases hx : ∃ (x0 : Nat) (x1 : Nat) (x2 : Nat) (x3 : Nat) (x4 : Nat → Int), vs = [EV.slice 0 x0 x1 (some x2) 1] ∧ H = [some (EV.arr .u8 x3 x4)]
 ·obtain ⟨x0, x1, x2, x3, x4, rfl, rfl⟩ := hx
  right; intro K
  exact exists_congr fun n => iff_of_eq (zbi.l8X.eq K n x0 x1 x2 x3 x4).symm
 ·left; intro K h
  simp only [zbi.l8.entry] at h
  split at h
  ·exact hx ⟨_, _, _, _, _, rfl, rfl⟩
  ·exact h
theorem X_zbi.eq (a0n : Nat) (a0 : Nat → Int) (K : EV → yad → Prop) : yaJ E_zbi Tryz.f133 false [.rsI .u32 a0n a0] [] K = zbi a0n a0 (fun y0 => K (EV.str y0) []) := by
 rw [zbi.is]; exact (yac _ _ _ _ _ _).symm.trans (by kernel_rfl)
theorem X_zbi.ok : SoundE Tryz.prog gl 133 e_zbi := by
 refine yaM (E := E_zbi) (fn := Tryz.f133) rfl tys_ok rfl (show yaK _ l_zbi from ⟨X_nat_cut.ok, trivial⟩) mixed (by kernel_rfl) (by kernel_rfl) (by kernel_rfl) 2 (by kernel_rfl) false ⟨zbi.l4X.ok, zbi.l8X.ok, trivial⟩ ?_
 intro args H
 by_cases hx : ∃ (a0n : Nat) (a0 : Nat → Int), args = [.rsI .u32 a0n a0] ∧ H = []
 ·obtain ⟨a0n, a0, rfl, rfl⟩ := hx
  right; intro K
  exact iff_of_eq (X_zbi.eq a0n a0 K).symm
 ·left; intro K h
  simp only [e_zbi] at h
  split at h
  ·exact hx ⟨_, _, rfl, rfl⟩
  ·exact h
noncomputable def e_zbb : Entry := ⟨[some .u32, some .u32], false, fun args H K => match args, H with
 | [.rsI .u32 a0n a0, .rsI .u32 a1n a1], [] => zbb a0n a0 a1n a1 (fun y0 => K (EV.int .i64 y0) [])
 | _, _ => False⟩
noncomputable def E_zbb : Env := ⟨look tys, look [], look [(6, zbb.l6.entry)], gl, yas [], false⟩
theorem zbb.l6X.stepEq (R : List EV → yad → Prop) (K : Ex → List EV → yad → Prop) (x0 : Nat) (x1 : Nat → Int) (x2 : Nat) (x3 : Nat → Int) (x4 : Int) : yah (yat E_zbb (yaa Tryz.f95 0) { (LV.mk 0 [(1, 0)] 16 0 false) with nx := live (.loop (yaa Tryz.f95 0)) (LV.mk 0 [(1, 0)] 16 0 false) }) (live (.loop (yaa Tryz.f95 0)) (LV.mk 0 [(1, 0)] 16 0 false)) (LV.mk 0 [(1, 0)] 16 0 false) 0 45 R [EV.rsI .u32 x0 x1, EV.rsI .u32 x2 x3, EV.int .i64 x4] [] K = zbb.l6.step (fun x0 x1 x2 x3 x4 => R [EV.rsI .u32 x0 x1, EV.rsI .u32 x2 x3, EV.int .i64 x4] []) (fun y0 => K .ret [EV.int .i64 y0] []) (K (.exit 1) [] []) x0 x1 x2 x3 x4 := (yaw _ _ _ _ _ _ _ _ _ _ _).symm.trans (by kernel_rfl)
theorem zbb.l6X.eq (K : Ex → List EV → yad → Prop) : ∀ (n : Nat) (x0 : Nat) (x1 : Nat → Int) (x2 : Nat) (x3 : Nat → Int) (x4 : Int), yar E_zbb (yaa Tryz.f95 0) (LV.mk 0 [(1, 0)] 16 0 false) 0 45 K n [EV.rsI .u32 x0 x1, EV.rsI .u32 x2 x3, EV.int .i64 x4] [] = zbb.l6 (fun y0 => K .ret [EV.int .i64 y0] []) (K (.exit 1) [] []) n x0 x1 x2 x3 x4
 | 0, _, _, _, _, _ => rfl
 | n + 1, x0, x1, x2, x3, x4 => by
  have ih : (fun (x0 : Nat) (x1 : Nat → Int) (x2 : Nat) (x3 : Nat → Int) (x4 : Int) => yar E_zbb (yaa Tryz.f95 0) (LV.mk 0 [(1, 0)] 16 0 false) 0 45 K n [EV.rsI .u32 x0 x1, EV.rsI .u32 x2 x3, EV.int .i64 x4] []) = zbb.l6 (fun y0 => K .ret [EV.int .i64 y0] []) (K (.exit 1) [] []) n := by funext x0 x1 x2 x3 x4; exact zbb.l6X.eq K n x0 x1 x2 x3 x4
  show yah _ _ _ _ _ (yar E_zbb (yaa Tryz.f95 0) (LV.mk 0 [(1, 0)] 16 0 false) 0 45 K n) [EV.rsI .u32 x0 x1, EV.rsI .u32 x2 x3, EV.int .i64 x4] [] K = zbb.l6.step (zbb.l6 (fun y0 => K .ret [EV.int .i64 y0] []) (K (.exit 1) [] []) n) (fun y0 => K .ret [EV.int .i64 y0] []) (K (.exit 1) [] []) x0 x1 x2 x3 x4
  rw [← ih]
  exact zbb.l6X.stepEq _ K x0 x1 x2 x3 x4
theorem zbb.l6X.ok : LoopEq E_zbb (yaa Tryz.f95 0) := by
 intro L hL vs H
 have h1 : E_zbb.lp (yag (yaa Tryz.f95 0)) = some zbb.l6.entry := by kernel_rfl
 have h2 : L = zbb.l6.entry := Option.some.inj (hL.symm.trans h1)
 subst h2
 by_cases hx : ∃ (x0 : Nat) (x1 : Nat → Int) (x2 : Nat) (x3 : Nat → Int) (x4 : Int), vs = [EV.rsI .u32 x0 x1, EV.rsI .u32 x2 x3, EV.int .i64 x4] ∧ H = []
 ·obtain ⟨x0, x1, x2, x3, x4, rfl, rfl⟩ := hx
  right; intro K
  exact exists_congr fun n => iff_of_eq (zbb.l6X.eq K n x0 x1 x2 x3 x4).symm
 ·left; intro K h
  simp only [zbb.l6.entry] at h
  split at h
  ·exact hx ⟨_, _, _, _, _, rfl, rfl⟩
  ·exact h
theorem X_zbb.eq (a0n : Nat) (a0 : Nat → Int) (a1n : Nat) (a1 : Nat → Int) (K : EV → yad → Prop) : yaJ E_zbb Tryz.f95 false [.rsI .u32 a0n a0, .rsI .u32 a1n a1] [] K = zbb a0n a0 a1n a1 (fun y0 => K (EV.int .i64 y0) []) := by
 rw [zbb.is]; exact (yac _ _ _ _ _ _).symm.trans (by kernel_rfl)
theorem X_zbb.ok : SoundE Tryz.prog gl 95 e_zbb := by
 refine yaM (E := E_zbb) (fn := Tryz.f95) rfl tys_ok rfl (show yaK _ [] from trivial) mixed (by kernel_rfl) (by kernel_rfl) (by kernel_rfl) 1 (by kernel_rfl) false ⟨zbb.l6X.ok, trivial⟩ ?_
 intro args H
 by_cases hx : ∃ (a0n : Nat) (a0 : Nat → Int) (a1n : Nat) (a1 : Nat → Int), args = [.rsI .u32 a0n a0, .rsI .u32 a1n a1] ∧ H = []
 ·obtain ⟨a0n, a0, a1n, a1, rfl, rfl⟩ := hx
  right; intro K
  exact iff_of_eq (X_zbb.eq a0n a0 a1n a1 K).symm
 ·left; intro K h
  simp only [e_zbb] at h
  split at h
  ·exact hx ⟨_, _, _, _, rfl, rfl⟩
  ·exact h
noncomputable def e_zaa : Entry := ⟨[none], false, fun args H K => match args, H with
 | [.int .u64 a0], [] => zaa a0 (fun y0 => K (EV.int .i64 y0) [])
 | _, _ => False⟩
noncomputable def E_zaa : Env := ⟨look tys, look [], look [], gl, yas [], false⟩
theorem X_zaa.eq (a0 : Int) (K : EV → yad → Prop) : yaJ E_zaa Tryz.f145 false [.int .u64 a0] [] K = zaa a0 (fun y0 => K (EV.int .i64 y0) []) := by
 rw [zaa.is]; exact (yac _ _ _ _ _ _).symm.trans (by kernel_rfl)
theorem X_zaa.ok : SoundE Tryz.prog gl 145 e_zaa := by
 refine yaM (E := E_zaa) (fn := Tryz.f145) rfl tys_ok rfl (show yaK _ [] from trivial) mixed (by kernel_rfl) (by kernel_rfl) (by kernel_rfl) 0 (by kernel_rfl) false trivial ?_
 intro args H
 by_cases hx : ∃ (a0 : Int), args = [.int .u64 a0] ∧ H = []
 ·obtain ⟨a0, rfl, rfl⟩ := hx
  right; intro K
  exact iff_of_eq (X_zaa.eq a0 K).symm
 ·left; intro K h
  simp only [e_zaa] at h
  split at h
  ·exact hx ⟨_, rfl, rfl⟩
  ·exact h
noncomputable def e_zff : Entry := ⟨[none], false, fun args H K => match args, H with
 | [.int .u64 a0], [] => zff a0 (fun y0 => K (EV.int .i64 y0) [])
 | _, _ => False⟩
noncomputable def l_zff : List (Nat × Entry) := [(145, e_zaa)]
noncomputable def E_zff : Env := ⟨look tys, look l_zff, look [], gl, yas [], false⟩
theorem X_zff.eq (a0 : Int) (K : EV → yad → Prop) : yaJ E_zff Tryz.f102 false [.int .u64 a0] [] K = zff a0 (fun y0 => K (EV.int .i64 y0) []) := by
 rw [zff.is]; exact (yac _ _ _ _ _ _).symm.trans (by kernel_rfl)
theorem X_zff.ok : SoundE Tryz.prog gl 102 e_zff := by
 refine yaM (E := E_zff) (fn := Tryz.f102) rfl tys_ok rfl (show yaK _ l_zff from ⟨X_zaa.ok, trivial⟩) mixed (by kernel_rfl) (by kernel_rfl) (by kernel_rfl) 0 (by kernel_rfl) false trivial ?_
 intro args H
 by_cases hx : ∃ (a0 : Int), args = [.int .u64 a0] ∧ H = []
 ·obtain ⟨a0, rfl, rfl⟩ := hx
  right; intro K
  exact iff_of_eq (X_zff.eq a0 K).symm
 ·left; intro K h
  simp only [e_zff] at h
  split at h
  ·exact hx ⟨_, rfl, rfl⟩
  ·exact h
noncomputable def e_zbo : Entry := ⟨[some .u32, none], true, fun args H K => match args, H with
 | [.rsI .u32 a0n a0, .int .i64 a1], [] => zbo a0n a0 a1 (K (EV.nilSlice) []) (fun y0 y1 y2 y3 => K (EV.slice 0 0 y0 (some y1) 1) [some (EV.arr .u32 y2 y3)])
 | _, _ => False⟩
noncomputable def l_zbo : List (Nat × Entry) := [(172, e_nat_cut)]
noncomputable def E_zbo : Env := ⟨look tys, look l_zbo, look [(5, zbo.l5.entry)], gl, yas [], false⟩
theorem zbo.l5X.stepEq (R : List EV → yad → Prop) (K : Ex → List EV → yad → Prop) (x0 : Int) (x1 : Nat) (x2 : Nat) (x3 : Nat) (x4 : Nat → Int) (x5 : Int) (x6 : Int) (x7 : Nat) (x8 : Nat → Int) : yah (yat E_zbo (yaa Tryz.f140 0) { (LV.mk 32 [(0, 32)] 16 0 false) with nx := live (.loop (yaa Tryz.f140 0)) (LV.mk 32 [(0, 32)] 16 0 false) }) (live (.loop (yaa Tryz.f140 0)) (LV.mk 32 [(0, 32)] 16 0 false)) (LV.mk 32 [(0, 32)] 16 0 false) 0 59 R [EV.int .i64 x0, EV.slice 0 0 x1 (some x2) 1, EV.rsI .u32 x3 x4, EV.int .i64 x5, EV.int .i64 x6] [some (EV.arr .u32 x7 x8)] K = zbo.l5.step (fun x0 x1 x2 x3 x4 x5 x6 x7 x8 => R [EV.int .i64 x0, EV.slice 0 0 x1 (some x2) 1, EV.rsI .u32 x3 x4, EV.int .i64 x5, EV.int .i64 x6] [some (EV.arr .u32 x7 x8)]) (fun y0 y1 y2 y3 => K (.exit 0) [EV.slice 0 0 y0 (some y1) 1] [some (EV.arr .u32 y2 y3)]) x0 x1 x2 x3 x4 x5 x6 x7 x8 := (yaw _ _ _ _ _ _ _ _ _ _ _).symm.trans (by kernel_rfl)
theorem zbo.l5X.eq (K : Ex → List EV → yad → Prop) : ∀ (n : Nat) (x0 : Int) (x1 : Nat) (x2 : Nat) (x3 : Nat) (x4 : Nat → Int) (x5 : Int) (x6 : Int) (x7 : Nat) (x8 : Nat → Int), yar E_zbo (yaa Tryz.f140 0) (LV.mk 32 [(0, 32)] 16 0 false) 0 59 K n [EV.int .i64 x0, EV.slice 0 0 x1 (some x2) 1, EV.rsI .u32 x3 x4, EV.int .i64 x5, EV.int .i64 x6] [some (EV.arr .u32 x7 x8)] = zbo.l5 (fun y0 y1 y2 y3 => K (.exit 0) [EV.slice 0 0 y0 (some y1) 1] [some (EV.arr .u32 y2 y3)]) n x0 x1 x2 x3 x4 x5 x6 x7 x8
 | 0, _, _, _, _, _, _, _, _, _ => rfl
 | n + 1, x0, x1, x2, x3, x4, x5, x6, x7, x8 => by
  have ih : (fun (x0 : Int) (x1 : Nat) (x2 : Nat) (x3 : Nat) (x4 : Nat → Int) (x5 : Int) (x6 : Int) (x7 : Nat) (x8 : Nat → Int) => yar E_zbo (yaa Tryz.f140 0) (LV.mk 32 [(0, 32)] 16 0 false) 0 59 K n [EV.int .i64 x0, EV.slice 0 0 x1 (some x2) 1, EV.rsI .u32 x3 x4, EV.int .i64 x5, EV.int .i64 x6] [some (EV.arr .u32 x7 x8)]) = zbo.l5 (fun y0 y1 y2 y3 => K (.exit 0) [EV.slice 0 0 y0 (some y1) 1] [some (EV.arr .u32 y2 y3)]) n := by funext x0 x1 x2 x3 x4 x5 x6 x7 x8; exact zbo.l5X.eq K n x0 x1 x2 x3 x4 x5 x6 x7 x8
  show yah _ _ _ _ _ (yar E_zbo (yaa Tryz.f140 0) (LV.mk 32 [(0, 32)] 16 0 false) 0 59 K n) [EV.int .i64 x0, EV.slice 0 0 x1 (some x2) 1, EV.rsI .u32 x3 x4, EV.int .i64 x5, EV.int .i64 x6] [some (EV.arr .u32 x7 x8)] K = zbo.l5.step (zbo.l5 (fun y0 y1 y2 y3 => K (.exit 0) [EV.slice 0 0 y0 (some y1) 1] [some (EV.arr .u32 y2 y3)]) n) (fun y0 y1 y2 y3 => K (.exit 0) [EV.slice 0 0 y0 (some y1) 1] [some (EV.arr .u32 y2 y3)]) x0 x1 x2 x3 x4 x5 x6 x7 x8
  rw [← ih]
  exact zbo.l5X.stepEq _ K x0 x1 x2 x3 x4 x5 x6 x7 x8
theorem zbo.l5X.ok : LoopEq E_zbo (yaa Tryz.f140 0) := by
 intro L hL vs H
 have h1 : E_zbo.lp (yag (yaa Tryz.f140 0)) = some zbo.l5.entry := by kernel_rfl
 have h2 : L = zbo.l5.entry := Option.some.inj (hL.symm.trans h1)
 subst h2
 by_cases hx : ∃ (x0 : Int) (x1 : Nat) (x2 : Nat) (x3 : Nat) (x4 : Nat → Int) (x5 : Int) (x6 : Int) (x7 : Nat) (x8 : Nat → Int), vs = [EV.int .i64 x0, EV.slice 0 0 x1 (some x2) 1, EV.rsI .u32 x3 x4, EV.int .i64 x5, EV.int .i64 x6] ∧ H = [some (EV.arr .u32 x7 x8)]
 ·obtain ⟨x0, x1, x2, x3, x4, x5, x6, x7, x8, rfl, rfl⟩ := hx
  right; intro K
  exact exists_congr fun n => iff_of_eq (zbo.l5X.eq K n x0 x1 x2 x3 x4 x5 x6 x7 x8).symm
 ·left; intro K h
  simp only [zbo.l5.entry] at h
  split at h
  ·exact hx ⟨_, _, _, _, _, _, _, _, _, rfl, rfl⟩
  ·exact h
theorem X_zbo.eq (a0n : Nat) (a0 : Nat → Int) (a1 : Int) (K : EV → yad → Prop) : yaJ E_zbo Tryz.f140 true [.rsI .u32 a0n a0, .int .i64 a1] [] K = zbo a0n a0 a1 (K (EV.nilSlice) []) (fun y0 y1 y2 y3 => K (EV.slice 0 0 y0 (some y1) 1) [some (EV.arr .u32 y2 y3)]) := by
 rw [zbo.is]; exact (yac _ _ _ _ _ _).symm.trans (by kernel_rfl)
theorem X_zbo.ok : SoundE Tryz.prog gl 140 e_zbo := by
 refine yaM (E := E_zbo) (fn := Tryz.f140) rfl tys_ok rfl (show yaK _ l_zbo from ⟨X_nat_cut.ok, trivial⟩) mixed (by kernel_rfl) (by kernel_rfl) (by kernel_rfl) 1 (by kernel_rfl) true ⟨zbo.l5X.ok, trivial⟩ ?_
 intro args H
 by_cases hx : ∃ (a0n : Nat) (a0 : Nat → Int) (a1 : Int), args = [.rsI .u32 a0n a0, .int .i64 a1] ∧ H = []
 ·obtain ⟨a0n, a0, a1, rfl, rfl⟩ := hx
  right; intro K
  exact iff_of_eq (X_zbo.eq a0n a0 a1 K).symm
 ·left; intro K h
  simp only [e_zbo] at h
  split at h
  ·exact hx ⟨_, _, _, rfl, rfl⟩
  ·exact h
noncomputable def e_nat_upN : Entry := Entry.nonil e_zbo
theorem X_nat_upN.ok : SoundE Tryz.prog gl 140 e_nat_upN := SoundE.nonil X_zbo.ok
noncomputable def e_zbf : Entry := ⟨[some .u32, none], false, fun args H K => match args, H with
 | [.rsI .u32 a0n a0, .int .i64 a1], [] => zbf a0n a0 a1 (fun y0 y1 => K (EV.rsI .u32 y0 y1) [])
 | _, _ => False⟩
noncomputable def l_zbf : List (Nat × Entry) := [(172, e_nat_cut)]
noncomputable def E_zbf : Env := ⟨look tys, look l_zbf, look [(5, zbf.l5.entry)], gl, yas [], false⟩
theorem zbf.l5X.stepEq (R : List EV → yad → Prop) (K : Ex → List EV → yad → Prop) (x0 : Nat) (x1 : Nat → Int) (x2 : Int) (x3 : Nat) (x4 : Nat) (x5 : Int) (x6 : Int) (x7 : Nat) (x8 : Nat → Int) : yah (yat E_zbf (yaa Tryz.f146 0) { (LV.mk 32 [(0, 32)] 16 0 false) with nx := live (.loop (yaa Tryz.f146 0)) (LV.mk 32 [(0, 32)] 16 0 false) }) (live (.loop (yaa Tryz.f146 0)) (LV.mk 32 [(0, 32)] 16 0 false)) (LV.mk 32 [(0, 32)] 16 0 false) 0 64 R [EV.rsI .u32 x0 x1, EV.int .i64 x2, EV.slice 0 0 x3 (some x4) 1, EV.int .i64 x5, EV.int .i64 x6] [some (EV.arr .u32 x7 x8)] K = zbf.l5.step (fun x0 x1 x2 x3 x4 x5 x6 x7 x8 => R [EV.rsI .u32 x0 x1, EV.int .i64 x2, EV.slice 0 0 x3 (some x4) 1, EV.int .i64 x5, EV.int .i64 x6] [some (EV.arr .u32 x7 x8)]) (fun y0 y1 y2 y3 => K (.exit 0) [EV.slice 0 0 y0 (some y1) 1] [some (EV.arr .u32 y2 y3)]) x0 x1 x2 x3 x4 x5 x6 x7 x8 := (yaw _ _ _ _ _ _ _ _ _ _ _).symm.trans (by kernel_rfl)
theorem zbf.l5X.eq (K : Ex → List EV → yad → Prop) : ∀ (n : Nat) (x0 : Nat) (x1 : Nat → Int) (x2 : Int) (x3 : Nat) (x4 : Nat) (x5 : Int) (x6 : Int) (x7 : Nat) (x8 : Nat → Int), yar E_zbf (yaa Tryz.f146 0) (LV.mk 32 [(0, 32)] 16 0 false) 0 64 K n [EV.rsI .u32 x0 x1, EV.int .i64 x2, EV.slice 0 0 x3 (some x4) 1, EV.int .i64 x5, EV.int .i64 x6] [some (EV.arr .u32 x7 x8)] = zbf.l5 (fun y0 y1 y2 y3 => K (.exit 0) [EV.slice 0 0 y0 (some y1) 1] [some (EV.arr .u32 y2 y3)]) n x0 x1 x2 x3 x4 x5 x6 x7 x8
 | 0, _, _, _, _, _, _, _, _, _ => rfl
 | n + 1, x0, x1, x2, x3, x4, x5, x6, x7, x8 => by
  have ih : (fun (x0 : Nat) (x1 : Nat → Int) (x2 : Int) (x3 : Nat) (x4 : Nat) (x5 : Int) (x6 : Int) (x7 : Nat) (x8 : Nat → Int) => yar E_zbf (yaa Tryz.f146 0) (LV.mk 32 [(0, 32)] 16 0 false) 0 64 K n [EV.rsI .u32 x0 x1, EV.int .i64 x2, EV.slice 0 0 x3 (some x4) 1, EV.int .i64 x5, EV.int .i64 x6] [some (EV.arr .u32 x7 x8)]) = zbf.l5 (fun y0 y1 y2 y3 => K (.exit 0) [EV.slice 0 0 y0 (some y1) 1] [some (EV.arr .u32 y2 y3)]) n := by funext x0 x1 x2 x3 x4 x5 x6 x7 x8; exact zbf.l5X.eq K n x0 x1 x2 x3 x4 x5 x6 x7 x8
  show yah _ _ _ _ _ (yar E_zbf (yaa Tryz.f146 0) (LV.mk 32 [(0, 32)] 16 0 false) 0 64 K n) [EV.rsI .u32 x0 x1, EV.int .i64 x2, EV.slice 0 0 x3 (some x4) 1, EV.int .i64 x5, EV.int .i64 x6] [some (EV.arr .u32 x7 x8)] K = zbf.l5.step (zbf.l5 (fun y0 y1 y2 y3 => K (.exit 0) [EV.slice 0 0 y0 (some y1) 1] [some (EV.arr .u32 y2 y3)]) n) (fun y0 y1 y2 y3 => K (.exit 0) [EV.slice 0 0 y0 (some y1) 1] [some (EV.arr .u32 y2 y3)]) x0 x1 x2 x3 x4 x5 x6 x7 x8
  rw [← ih]
  exact zbf.l5X.stepEq _ K x0 x1 x2 x3 x4 x5 x6 x7 x8
theorem zbf.l5X.ok : LoopEq E_zbf (yaa Tryz.f146 0) := by
 intro L hL vs H
 have h1 : E_zbf.lp (yag (yaa Tryz.f146 0)) = some zbf.l5.entry := by kernel_rfl
 have h2 : L = zbf.l5.entry := Option.some.inj (hL.symm.trans h1)
 subst h2
 by_cases hx : ∃ (x0 : Nat) (x1 : Nat → Int) (x2 : Int) (x3 : Nat) (x4 : Nat) (x5 : Int) (x6 : Int) (x7 : Nat) (x8 : Nat → Int), vs = [EV.rsI .u32 x0 x1, EV.int .i64 x2, EV.slice 0 0 x3 (some x4) 1, EV.int .i64 x5, EV.int .i64 x6] ∧ H = [some (EV.arr .u32 x7 x8)]
 ·obtain ⟨x0, x1, x2, x3, x4, x5, x6, x7, x8, rfl, rfl⟩ := hx
  right; intro K
  exact exists_congr fun n => iff_of_eq (zbf.l5X.eq K n x0 x1 x2 x3 x4 x5 x6 x7 x8).symm
 ·left; intro K h
  simp only [zbf.l5.entry] at h
  split at h
  ·exact hx ⟨_, _, _, _, _, _, _, _, _, rfl, rfl⟩
  ·exact h
theorem X_zbf.eq (a0n : Nat) (a0 : Nat → Int) (a1 : Int) (K : EV → yad → Prop) : yaJ E_zbf Tryz.f146 false [.rsI .u32 a0n a0, .int .i64 a1] [] K = zbf a0n a0 a1 (fun y0 y1 => K (EV.rsI .u32 y0 y1) []) := by
 rw [zbf.is]; exact (yac _ _ _ _ _ _).symm.trans (by kernel_rfl)
theorem X_zbf.ok : SoundE Tryz.prog gl 146 e_zbf := by
 refine yaM (E := E_zbf) (fn := Tryz.f146) rfl tys_ok rfl (show yaK _ l_zbf from ⟨X_nat_cut.ok, trivial⟩) mixed (by kernel_rfl) (by kernel_rfl) (by kernel_rfl) 1 (by kernel_rfl) false ⟨zbf.l5X.ok, trivial⟩ ?_
 intro args H
 by_cases hx : ∃ (a0n : Nat) (a0 : Nat → Int) (a1 : Int), args = [.rsI .u32 a0n a0, .int .i64 a1] ∧ H = []
 ·obtain ⟨a0n, a0, a1, rfl, rfl⟩ := hx
  right; intro K
  exact iff_of_eq (X_zbf.eq a0n a0 a1 K).symm
 ·left; intro K h
  simp only [e_zbf] at h
  split at h
  ·exact hx ⟨_, _, _, rfl, rfl⟩
  ·exact h
noncomputable def e_zbj : Entry := ⟨[some .u32, some .u32], false, fun args H K => match args, H with
 | [.rsI .u32 a0n a0, .rsI .u32 a1n a1], [] => zbj a0n a0 a1n a1 (fun y0 y1 y2 y3 => K (EV.tuple [EV.rsI .u32 y0 y1, EV.rsI .u32 y2 y3]) [])
 | _, _ => False⟩
noncomputable def l_zbj : List (Nat × Entry) := [(95, e_zbb), (102, e_zff), (140, e_nat_upN), (146, e_zbf), (172, e_nat_cut)]
noncomputable def E_zbj : Env := ⟨look tys, look l_zbj, look [(7, zbj.l7.entry), (16, zbj.l16.entry), (20, zbj.l20.entry), (24, zbj.l24.entry), (31, zbj.l31.entry), (45, zbj.l45.entry)], gl, yas [], true⟩
theorem zbj.l7X.stepEq (R : List EV → yad → Prop) (K : Ex → List EV → yad → Prop) (x0 : Nat) (x1 : Nat → Int) (x2 : Nat) (x3 : Nat → Int) (x4 : Nat) (x5 : Int) (x6 : Int) (x7 : Nat) (x8 : Nat → Int) : yah (yat E_zbj (yaa Tryz.f134 0) { (LV.mk 80 [(0, 80)] 48 0 true) with nx := live (.loop (yaa Tryz.f134 0)) (LV.mk 80 [(0, 80)] 48 0 true) }) (live (.loop (yaa Tryz.f134 0)) (LV.mk 80 [(0, 80)] 48 0 true)) (LV.mk 80 [(0, 80)] 48 0 true) 0 285 R [EV.rsI .u32 x0 x1, EV.rsI .u32 x2 x3, EV.slice 0 0 x4 none 1, EV.int .u64 x5, EV.int .i64 x6] [some (EV.arr .u32 x7 x8)] K = zbj.l7.step (fun x0 x1 x2 x3 x4 x5 x6 x7 x8 => R [EV.rsI .u32 x0 x1, EV.rsI .u32 x2 x3, EV.slice 0 0 x4 none 1, EV.int .u64 x5, EV.int .i64 x6] [some (EV.arr .u32 x7 x8)]) (fun y0 y1 y2 y3 => K (.exit 0) [EV.slice 0 0 y0 none 1, EV.int .u64 y1] [some (EV.arr .u32 y2 y3)]) x0 x1 x2 x3 x4 x5 x6 x7 x8 := (yaw _ _ _ _ _ _ _ _ _ _ _).symm.trans (by kernel_rfl)
theorem zbj.l7X.eq (K : Ex → List EV → yad → Prop) : ∀ (n : Nat) (x0 : Nat) (x1 : Nat → Int) (x2 : Nat) (x3 : Nat → Int) (x4 : Nat) (x5 : Int) (x6 : Int) (x7 : Nat) (x8 : Nat → Int), yar E_zbj (yaa Tryz.f134 0) (LV.mk 80 [(0, 80)] 48 0 true) 0 285 K n [EV.rsI .u32 x0 x1, EV.rsI .u32 x2 x3, EV.slice 0 0 x4 none 1, EV.int .u64 x5, EV.int .i64 x6] [some (EV.arr .u32 x7 x8)] = zbj.l7 (fun y0 y1 y2 y3 => K (.exit 0) [EV.slice 0 0 y0 none 1, EV.int .u64 y1] [some (EV.arr .u32 y2 y3)]) n x0 x1 x2 x3 x4 x5 x6 x7 x8
 | 0, _, _, _, _, _, _, _, _, _ => rfl
 | n + 1, x0, x1, x2, x3, x4, x5, x6, x7, x8 => by
  have ih : (fun (x0 : Nat) (x1 : Nat → Int) (x2 : Nat) (x3 : Nat → Int) (x4 : Nat) (x5 : Int) (x6 : Int) (x7 : Nat) (x8 : Nat → Int) => yar E_zbj (yaa Tryz.f134 0) (LV.mk 80 [(0, 80)] 48 0 true) 0 285 K n [EV.rsI .u32 x0 x1, EV.rsI .u32 x2 x3, EV.slice 0 0 x4 none 1, EV.int .u64 x5, EV.int .i64 x6] [some (EV.arr .u32 x7 x8)]) = zbj.l7 (fun y0 y1 y2 y3 => K (.exit 0) [EV.slice 0 0 y0 none 1, EV.int .u64 y1] [some (EV.arr .u32 y2 y3)]) n := by funext x0 x1 x2 x3 x4 x5 x6 x7 x8; exact zbj.l7X.eq K n x0 x1 x2 x3 x4 x5 x6 x7 x8
  show yah _ _ _ _ _ (yar E_zbj (yaa Tryz.f134 0) (LV.mk 80 [(0, 80)] 48 0 true) 0 285 K n) [EV.rsI .u32 x0 x1, EV.rsI .u32 x2 x3, EV.slice 0 0 x4 none 1, EV.int .u64 x5, EV.int .i64 x6] [some (EV.arr .u32 x7 x8)] K = zbj.l7.step (zbj.l7 (fun y0 y1 y2 y3 => K (.exit 0) [EV.slice 0 0 y0 none 1, EV.int .u64 y1] [some (EV.arr .u32 y2 y3)]) n) (fun y0 y1 y2 y3 => K (.exit 0) [EV.slice 0 0 y0 none 1, EV.int .u64 y1] [some (EV.arr .u32 y2 y3)]) x0 x1 x2 x3 x4 x5 x6 x7 x8
  rw [← ih]
  exact zbj.l7X.stepEq _ K x0 x1 x2 x3 x4 x5 x6 x7 x8
theorem zbj.l7X.ok : LoopEq E_zbj (yaa Tryz.f134 0) := by
 intro L hL vs H
 have h1 : E_zbj.lp (yag (yaa Tryz.f134 0)) = some zbj.l7.entry := by kernel_rfl
 have h2 : L = zbj.l7.entry := Option.some.inj (hL.symm.trans h1)
 subst h2
 by_cases hx : ∃ (x0 : Nat) (x1 : Nat → Int) (x2 : Nat) (x3 : Nat → Int) (x4 : Nat) (x5 : Int) (x6 : Int) (x7 : Nat) (x8 : Nat → Int), vs = [EV.rsI .u32 x0 x1, EV.rsI .u32 x2 x3, EV.slice 0 0 x4 none 1, EV.int .u64 x5, EV.int .i64 x6] ∧ H = [some (EV.arr .u32 x7 x8)]
 ·obtain ⟨x0, x1, x2, x3, x4, x5, x6, x7, x8, rfl, rfl⟩ := hx
  right; intro K
  exact exists_congr fun n => iff_of_eq (zbj.l7X.eq K n x0 x1 x2 x3 x4 x5 x6 x7 x8).symm
 ·left; intro K h
  simp only [zbj.l7.entry] at h
  split at h
  ·exact hx ⟨_, _, _, _, _, _, _, _, _, rfl, rfl⟩
  ·exact h
theorem zbj.l16X.stepEq (R : List EV → yad → Prop) (K : Ex → List EV → yad → Prop) (x0 : Nat) (x1 : Nat → Int) (x2 : Nat) (x3 : Int) (x4 : Nat) (x5 : Nat) (x6 : Nat) (x7 : Nat → Int) (x8 : Nat) (x9 : Nat → Int) (x10 : Nat) (x11 : Nat → Int) : yah (yat E_zbj (yaa Tryz.f134 1) { (LV.mk 1808 [(2, 1808)] 48 0 true) with nx := live (.loop (yaa Tryz.f134 1)) (LV.mk 1808 [(2, 1808)] 48 0 true) }) (live (.loop (yaa Tryz.f134 1)) (LV.mk 1808 [(2, 1808)] 48 0 true)) (LV.mk 1808 [(2, 1808)] 48 0 true) 0 285 R [EV.rsI .u32 x0 x1, EV.slice 0 0 x2 none 1, EV.int .i64 x3, EV.slice 1 0 x4 none 1, EV.slice 2 0 x5 none 1] [some (EV.arr .u32 x6 x7), some (EV.arr .u32 x8 x9), some (EV.arr .u32 x10 x11)] K = zbj.l16.step (fun x0 x1 x2 x3 x4 x5 x6 x7 x8 x9 x10 x11 => R [EV.rsI .u32 x0 x1, EV.slice 0 0 x2 none 1, EV.int .i64 x3, EV.slice 1 0 x4 none 1, EV.slice 2 0 x5 none 1] [some (EV.arr .u32 x6 x7), some (EV.arr .u32 x8 x9), some (EV.arr .u32 x10 x11)]) (fun y0 y1 y2 y3 y4 y5 y6 y7 y8 y9 => K (.exit 2) [EV.slice 0 0 y0 none 1, EV.int .i64 y1, EV.slice 1 0 y2 none 1, EV.slice 2 0 y3 none 1] [some (EV.arr .u32 y4 y5), some (EV.arr .u32 y6 y7), some (EV.arr .u32 y8 y9)]) x0 x1 x2 x3 x4 x5 x6 x7 x8 x9 x10 x11 := (yaw _ _ _ _ _ _ _ _ _ _ _).symm.trans (by kernel_rfl)
theorem zbj.l16X.eq (K : Ex → List EV → yad → Prop) : ∀ (n : Nat) (x0 : Nat) (x1 : Nat → Int) (x2 : Nat) (x3 : Int) (x4 : Nat) (x5 : Nat) (x6 : Nat) (x7 : Nat → Int) (x8 : Nat) (x9 : Nat → Int) (x10 : Nat) (x11 : Nat → Int), yar E_zbj (yaa Tryz.f134 1) (LV.mk 1808 [(2, 1808)] 48 0 true) 0 285 K n [EV.rsI .u32 x0 x1, EV.slice 0 0 x2 none 1, EV.int .i64 x3, EV.slice 1 0 x4 none 1, EV.slice 2 0 x5 none 1] [some (EV.arr .u32 x6 x7), some (EV.arr .u32 x8 x9), some (EV.arr .u32 x10 x11)] = zbj.l16 (fun y0 y1 y2 y3 y4 y5 y6 y7 y8 y9 => K (.exit 2) [EV.slice 0 0 y0 none 1, EV.int .i64 y1, EV.slice 1 0 y2 none 1, EV.slice 2 0 y3 none 1] [some (EV.arr .u32 y4 y5), some (EV.arr .u32 y6 y7), some (EV.arr .u32 y8 y9)]) n x0 x1 x2 x3 x4 x5 x6 x7 x8 x9 x10 x11
 | 0, _, _, _, _, _, _, _, _, _, _, _, _ => rfl
 | n + 1, x0, x1, x2, x3, x4, x5, x6, x7, x8, x9, x10, x11 => by
  have ih : (fun (x0 : Nat) (x1 : Nat → Int) (x2 : Nat) (x3 : Int) (x4 : Nat) (x5 : Nat) (x6 : Nat) (x7 : Nat → Int) (x8 : Nat) (x9 : Nat → Int) (x10 : Nat) (x11 : Nat → Int) => yar E_zbj (yaa Tryz.f134 1) (LV.mk 1808 [(2, 1808)] 48 0 true) 0 285 K n [EV.rsI .u32 x0 x1, EV.slice 0 0 x2 none 1, EV.int .i64 x3, EV.slice 1 0 x4 none 1, EV.slice 2 0 x5 none 1] [some (EV.arr .u32 x6 x7), some (EV.arr .u32 x8 x9), some (EV.arr .u32 x10 x11)]) = zbj.l16 (fun y0 y1 y2 y3 y4 y5 y6 y7 y8 y9 => K (.exit 2) [EV.slice 0 0 y0 none 1, EV.int .i64 y1, EV.slice 1 0 y2 none 1, EV.slice 2 0 y3 none 1] [some (EV.arr .u32 y4 y5), some (EV.arr .u32 y6 y7), some (EV.arr .u32 y8 y9)]) n := by funext x0 x1 x2 x3 x4 x5 x6 x7 x8 x9 x10 x11; exact zbj.l16X.eq K n x0 x1 x2 x3 x4 x5 x6 x7 x8 x9 x10 x11
  show yah _ _ _ _ _ (yar E_zbj (yaa Tryz.f134 1) (LV.mk 1808 [(2, 1808)] 48 0 true) 0 285 K n) [EV.rsI .u32 x0 x1, EV.slice 0 0 x2 none 1, EV.int .i64 x3, EV.slice 1 0 x4 none 1, EV.slice 2 0 x5 none 1] [some (EV.arr .u32 x6 x7), some (EV.arr .u32 x8 x9), some (EV.arr .u32 x10 x11)] K = zbj.l16.step (zbj.l16 (fun y0 y1 y2 y3 y4 y5 y6 y7 y8 y9 => K (.exit 2) [EV.slice 0 0 y0 none 1, EV.int .i64 y1, EV.slice 1 0 y2 none 1, EV.slice 2 0 y3 none 1] [some (EV.arr .u32 y4 y5), some (EV.arr .u32 y6 y7), some (EV.arr .u32 y8 y9)]) n) (fun y0 y1 y2 y3 y4 y5 y6 y7 y8 y9 => K (.exit 2) [EV.slice 0 0 y0 none 1, EV.int .i64 y1, EV.slice 1 0 y2 none 1, EV.slice 2 0 y3 none 1] [some (EV.arr .u32 y4 y5), some (EV.arr .u32 y6 y7), some (EV.arr .u32 y8 y9)]) x0 x1 x2 x3 x4 x5 x6 x7 x8 x9 x10 x11
  rw [← ih]
  exact zbj.l16X.stepEq _ K x0 x1 x2 x3 x4 x5 x6 x7 x8 x9 x10 x11
theorem zbj.l16X.ok : LoopEq E_zbj (yaa Tryz.f134 1) := by
 intro L hL vs H
 have h1 : E_zbj.lp (yag (yaa Tryz.f134 1)) = some zbj.l16.entry := by kernel_rfl
 have h2 : L = zbj.l16.entry := Option.some.inj (hL.symm.trans h1)
 subst h2
 by_cases hx : ∃ (x0 : Nat) (x1 : Nat → Int) (x2 : Nat) (x3 : Int) (x4 : Nat) (x5 : Nat) (x6 : Nat) (x7 : Nat → Int) (x8 : Nat) (x9 : Nat → Int) (x10 : Nat) (x11 : Nat → Int), vs = [EV.rsI .u32 x0 x1, EV.slice 0 0 x2 none 1, EV.int .i64 x3, EV.slice 1 0 x4 none 1, EV.slice 2 0 x5 none 1] ∧ H = [some (EV.arr .u32 x6 x7), some (EV.arr .u32 x8 x9), some (EV.arr .u32 x10 x11)]
 ·obtain ⟨x0, x1, x2, x3, x4, x5, x6, x7, x8, x9, x10, x11, rfl, rfl⟩ := hx
  right; intro K
  exact exists_congr fun n => iff_of_eq (zbj.l16X.eq K n x0 x1 x2 x3 x4 x5 x6 x7 x8 x9 x10 x11).symm
 ·left; intro K h
  simp only [zbj.l16.entry] at h
  split at h
  ·exact hx ⟨_, _, _, _, _, _, _, _, _, _, _, _, rfl, rfl⟩
  ·exact h
theorem zbj.l20X.stepEq (R : List EV → yad → Prop) (K : Ex → List EV → yad → Prop) (x0 : Nat) (x1 : Int) (x2 : Nat) (x3 : Nat) (x4 : Int) (x5 : Int) (x6 : Nat) (x7 : Nat → Int) (x8 : Nat) (x9 : Nat → Int) (x10 : Nat) (x11 : Nat → Int) : yah (yat E_zbj (yaa Tryz.f134 2) { (LV.mk 1296 [(4, 1296)] 48 0 true) with nx := live (.loop (yaa Tryz.f134 2)) (LV.mk 1296 [(4, 1296)] 48 0 true) }) (live (.loop (yaa Tryz.f134 2)) (LV.mk 1296 [(4, 1296)] 48 0 true)) (LV.mk 1296 [(4, 1296)] 48 0 true) 0 285 R [EV.slice 0 0 x0 none 1, EV.int .i64 x1, EV.slice 1 0 x2 none 1, EV.slice 2 0 x3 none 1, EV.int .i64 x4, EV.int .i64 x5] [some (EV.arr .u32 x6 x7), some (EV.arr .u32 x8 x9), some (EV.arr .u32 x10 x11)] K = zbj.l20.step (fun x0 x1 x2 x3 x4 x5 x6 x7 x8 x9 x10 x11 => R [EV.slice 0 0 x0 none 1, EV.int .i64 x1, EV.slice 1 0 x2 none 1, EV.slice 2 0 x3 none 1, EV.int .i64 x4, EV.int .i64 x5] [some (EV.arr .u32 x6 x7), some (EV.arr .u32 x8 x9), some (EV.arr .u32 x10 x11)]) (fun y0 y1 y2 y3 y4 y5 y6 => K (.exit 4) [EV.slice 0 0 y0 none 1, EV.int .i64 y1, EV.slice 1 0 y2 none 1] [some (EV.arr .u32 y3 y4), some (EV.arr .u32 y5 y6)]) x0 x1 x2 x3 x4 x5 x6 x7 x8 x9 x10 x11 := (yaw _ _ _ _ _ _ _ _ _ _ _).symm.trans (by kernel_rfl)
theorem zbj.l20X.eq (K : Ex → List EV → yad → Prop) : ∀ (n : Nat) (x0 : Nat) (x1 : Int) (x2 : Nat) (x3 : Nat) (x4 : Int) (x5 : Int) (x6 : Nat) (x7 : Nat → Int) (x8 : Nat) (x9 : Nat → Int) (x10 : Nat) (x11 : Nat → Int), yar E_zbj (yaa Tryz.f134 2) (LV.mk 1296 [(4, 1296)] 48 0 true) 0 285 K n [EV.slice 0 0 x0 none 1, EV.int .i64 x1, EV.slice 1 0 x2 none 1, EV.slice 2 0 x3 none 1, EV.int .i64 x4, EV.int .i64 x5] [some (EV.arr .u32 x6 x7), some (EV.arr .u32 x8 x9), some (EV.arr .u32 x10 x11)] = zbj.l20 (fun y0 y1 y2 y3 y4 y5 y6 => K (.exit 4) [EV.slice 0 0 y0 none 1, EV.int .i64 y1, EV.slice 1 0 y2 none 1] [some (EV.arr .u32 y3 y4), some (EV.arr .u32 y5 y6)]) n x0 x1 x2 x3 x4 x5 x6 x7 x8 x9 x10 x11
 | 0, _, _, _, _, _, _, _, _, _, _, _, _ => rfl
 | n + 1, x0, x1, x2, x3, x4, x5, x6, x7, x8, x9, x10, x11 => by
  have ih : (fun (x0 : Nat) (x1 : Int) (x2 : Nat) (x3 : Nat) (x4 : Int) (x5 : Int) (x6 : Nat) (x7 : Nat → Int) (x8 : Nat) (x9 : Nat → Int) (x10 : Nat) (x11 : Nat → Int) => yar E_zbj (yaa Tryz.f134 2) (LV.mk 1296 [(4, 1296)] 48 0 true) 0 285 K n [EV.slice 0 0 x0 none 1, EV.int .i64 x1, EV.slice 1 0 x2 none 1, EV.slice 2 0 x3 none 1, EV.int .i64 x4, EV.int .i64 x5] [some (EV.arr .u32 x6 x7), some (EV.arr .u32 x8 x9), some (EV.arr .u32 x10 x11)]) = zbj.l20 (fun y0 y1 y2 y3 y4 y5 y6 => K (.exit 4) [EV.slice 0 0 y0 none 1, EV.int .i64 y1, EV.slice 1 0 y2 none 1] [some (EV.arr .u32 y3 y4), some (EV.arr .u32 y5 y6)]) n := by funext x0 x1 x2 x3 x4 x5 x6 x7 x8 x9 x10 x11; exact zbj.l20X.eq K n x0 x1 x2 x3 x4 x5 x6 x7 x8 x9 x10 x11
  show yah _ _ _ _ _ (yar E_zbj (yaa Tryz.f134 2) (LV.mk 1296 [(4, 1296)] 48 0 true) 0 285 K n) [EV.slice 0 0 x0 none 1, EV.int .i64 x1, EV.slice 1 0 x2 none 1, EV.slice 2 0 x3 none 1, EV.int .i64 x4, EV.int .i64 x5] [some (EV.arr .u32 x6 x7), some (EV.arr .u32 x8 x9), some (EV.arr .u32 x10 x11)] K = zbj.l20.step (zbj.l20 (fun y0 y1 y2 y3 y4 y5 y6 => K (.exit 4) [EV.slice 0 0 y0 none 1, EV.int .i64 y1, EV.slice 1 0 y2 none 1] [some (EV.arr .u32 y3 y4), some (EV.arr .u32 y5 y6)]) n) (fun y0 y1 y2 y3 y4 y5 y6 => K (.exit 4) [EV.slice 0 0 y0 none 1, EV.int .i64 y1, EV.slice 1 0 y2 none 1] [some (EV.arr .u32 y3 y4), some (EV.arr .u32 y5 y6)]) x0 x1 x2 x3 x4 x5 x6 x7 x8 x9 x10 x11
  rw [← ih]
  exact zbj.l20X.stepEq _ K x0 x1 x2 x3 x4 x5 x6 x7 x8 x9 x10 x11
theorem zbj.l20X.ok : LoopEq E_zbj (yaa Tryz.f134 2) := by
 intro L hL vs H
 have h1 : E_zbj.lp (yag (yaa Tryz.f134 2)) = some zbj.l20.entry := by kernel_rfl
 have h2 : L = zbj.l20.entry := Option.some.inj (hL.symm.trans h1)
 subst h2
 by_cases hx : ∃ (x0 : Nat) (x1 : Int) (x2 : Nat) (x3 : Nat) (x4 : Int) (x5 : Int) (x6 : Nat) (x7 : Nat → Int) (x8 : Nat) (x9 : Nat → Int) (x10 : Nat) (x11 : Nat → Int), vs = [EV.slice 0 0 x0 none 1, EV.int .i64 x1, EV.slice 1 0 x2 none 1, EV.slice 2 0 x3 none 1, EV.int .i64 x4, EV.int .i64 x5] ∧ H = [some (EV.arr .u32 x6 x7), some (EV.arr .u32 x8 x9), some (EV.arr .u32 x10 x11)]
 ·obtain ⟨x0, x1, x2, x3, x4, x5, x6, x7, x8, x9, x10, x11, rfl, rfl⟩ := hx
  right; intro K
  exact exists_congr fun n => iff_of_eq (zbj.l20X.eq K n x0 x1 x2 x3 x4 x5 x6 x7 x8 x9 x10 x11).symm
 ·left; intro K h
  simp only [zbj.l20.entry] at h
  split at h
  ·exact hx ⟨_, _, _, _, _, _, _, _, _, _, _, _, rfl, rfl⟩
  ·exact h
theorem zbj.l24X.stepEq (R : List EV → yad → Prop) (K : Ex → List EV → yad → Prop) (x0 : Nat) (x1 : Int) (x2 : Nat) (x3 : Nat) (x4 : Int) (x5 : Int) (x6 : Int) (x7 : Int) (x8 : Nat) (x9 : Nat → Int) (x10 : Nat) (x11 : Nat → Int) (x12 : Nat) (x13 : Nat → Int) : yah (yat E_zbj (yaa Tryz.f134 3) { (LV.mk 24336 [(6, 24336), (5, 7952), (4, 1296)] 48 0 true) with nx := live (.loop (yaa Tryz.f134 3)) (LV.mk 24336 [(6, 24336), (5, 7952), (4, 1296)] 48 0 true) }) (live (.loop (yaa Tryz.f134 3)) (LV.mk 24336 [(6, 24336), (5, 7952), (4, 1296)] 48 0 true)) (LV.mk 24336 [(6, 24336), (5, 7952), (4, 1296)] 48 0 true) 0 285 R [EV.slice 0 0 x0 none 1, EV.int .i64 x1, EV.slice 1 0 x2 none 1, EV.slice 2 0 x3 none 1, EV.int .i64 x4, EV.int .i64 x5, EV.int .u64 x6, EV.int .u64 x7] [some (EV.arr .u32 x8 x9), some (EV.arr .u32 x10 x11), some (EV.arr .u32 x12 x13)] K = zbj.l24.step (fun x0 x1 x2 x3 x4 x5 x6 x7 x8 x9 x10 x11 x12 x13 => R [EV.slice 0 0 x0 none 1, EV.int .i64 x1, EV.slice 1 0 x2 none 1, EV.slice 2 0 x3 none 1, EV.int .i64 x4, EV.int .i64 x5, EV.int .u64 x6, EV.int .u64 x7] [some (EV.arr .u32 x8 x9), some (EV.arr .u32 x10 x11), some (EV.arr .u32 x12 x13)]) (fun y0 y1 y2 y3 y4 y5 y6 y7 y8 y9 y10 y11 y12 => K (.exit 6) [EV.slice 0 0 y0 none 1, EV.int .i64 y1, EV.slice 1 0 y2 none 1, EV.slice 2 0 y3 none 1, EV.int .i64 y4, EV.int .i64 y5, EV.int .u64 y6] [some (EV.arr .u32 y7 y8), some (EV.arr .u32 y9 y10), some (EV.arr .u32 y11 y12)]) x0 x1 x2 x3 x4 x5 x6 x7 x8 x9 x10 x11 x12 x13 := (yaw _ _ _ _ _ _ _ _ _ _ _).symm.trans (by kernel_rfl)
theorem zbj.l24X.eq (K : Ex → List EV → yad → Prop) : ∀ (n : Nat) (x0 : Nat) (x1 : Int) (x2 : Nat) (x3 : Nat) (x4 : Int) (x5 : Int) (x6 : Int) (x7 : Int) (x8 : Nat) (x9 : Nat → Int) (x10 : Nat) (x11 : Nat → Int) (x12 : Nat) (x13 : Nat → Int), yar E_zbj (yaa Tryz.f134 3) (LV.mk 24336 [(6, 24336), (5, 7952), (4, 1296)] 48 0 true) 0 285 K n [EV.slice 0 0 x0 none 1, EV.int .i64 x1, EV.slice 1 0 x2 none 1, EV.slice 2 0 x3 none 1, EV.int .i64 x4, EV.int .i64 x5, EV.int .u64 x6, EV.int .u64 x7] [some (EV.arr .u32 x8 x9), some (EV.arr .u32 x10 x11), some (EV.arr .u32 x12 x13)] = zbj.l24 (fun y0 y1 y2 y3 y4 y5 y6 y7 y8 y9 y10 y11 y12 => K (.exit 6) [EV.slice 0 0 y0 none 1, EV.int .i64 y1, EV.slice 1 0 y2 none 1, EV.slice 2 0 y3 none 1, EV.int .i64 y4, EV.int .i64 y5, EV.int .u64 y6] [some (EV.arr .u32 y7 y8), some (EV.arr .u32 y9 y10), some (EV.arr .u32 y11 y12)]) n x0 x1 x2 x3 x4 x5 x6 x7 x8 x9 x10 x11 x12 x13
 | 0, _, _, _, _, _, _, _, _, _, _, _, _, _, _ => rfl
 | n + 1, x0, x1, x2, x3, x4, x5, x6, x7, x8, x9, x10, x11, x12, x13 => by
  have ih : (fun (x0 : Nat) (x1 : Int) (x2 : Nat) (x3 : Nat) (x4 : Int) (x5 : Int) (x6 : Int) (x7 : Int) (x8 : Nat) (x9 : Nat → Int) (x10 : Nat) (x11 : Nat → Int) (x12 : Nat) (x13 : Nat → Int) => yar E_zbj (yaa Tryz.f134 3) (LV.mk 24336 [(6, 24336), (5, 7952), (4, 1296)] 48 0 true) 0 285 K n [EV.slice 0 0 x0 none 1, EV.int .i64 x1, EV.slice 1 0 x2 none 1, EV.slice 2 0 x3 none 1, EV.int .i64 x4, EV.int .i64 x5, EV.int .u64 x6, EV.int .u64 x7] [some (EV.arr .u32 x8 x9), some (EV.arr .u32 x10 x11), some (EV.arr .u32 x12 x13)]) = zbj.l24 (fun y0 y1 y2 y3 y4 y5 y6 y7 y8 y9 y10 y11 y12 => K (.exit 6) [EV.slice 0 0 y0 none 1, EV.int .i64 y1, EV.slice 1 0 y2 none 1, EV.slice 2 0 y3 none 1, EV.int .i64 y4, EV.int .i64 y5, EV.int .u64 y6] [some (EV.arr .u32 y7 y8), some (EV.arr .u32 y9 y10), some (EV.arr .u32 y11 y12)]) n := by funext x0 x1 x2 x3 x4 x5 x6 x7 x8 x9 x10 x11 x12 x13; exact zbj.l24X.eq K n x0 x1 x2 x3 x4 x5 x6 x7 x8 x9 x10 x11 x12 x13
  show yah _ _ _ _ _ (yar E_zbj (yaa Tryz.f134 3) (LV.mk 24336 [(6, 24336), (5, 7952), (4, 1296)] 48 0 true) 0 285 K n) [EV.slice 0 0 x0 none 1, EV.int .i64 x1, EV.slice 1 0 x2 none 1, EV.slice 2 0 x3 none 1, EV.int .i64 x4, EV.int .i64 x5, EV.int .u64 x6, EV.int .u64 x7] [some (EV.arr .u32 x8 x9), some (EV.arr .u32 x10 x11), some (EV.arr .u32 x12 x13)] K = zbj.l24.step (zbj.l24 (fun y0 y1 y2 y3 y4 y5 y6 y7 y8 y9 y10 y11 y12 => K (.exit 6) [EV.slice 0 0 y0 none 1, EV.int .i64 y1, EV.slice 1 0 y2 none 1, EV.slice 2 0 y3 none 1, EV.int .i64 y4, EV.int .i64 y5, EV.int .u64 y6] [some (EV.arr .u32 y7 y8), some (EV.arr .u32 y9 y10), some (EV.arr .u32 y11 y12)]) n) (fun y0 y1 y2 y3 y4 y5 y6 y7 y8 y9 y10 y11 y12 => K (.exit 6) [EV.slice 0 0 y0 none 1, EV.int .i64 y1, EV.slice 1 0 y2 none 1, EV.slice 2 0 y3 none 1, EV.int .i64 y4, EV.int .i64 y5, EV.int .u64 y6] [some (EV.arr .u32 y7 y8), some (EV.arr .u32 y9 y10), some (EV.arr .u32 y11 y12)]) x0 x1 x2 x3 x4 x5 x6 x7 x8 x9 x10 x11 x12 x13
  rw [← ih]
  exact zbj.l24X.stepEq _ K x0 x1 x2 x3 x4 x5 x6 x7 x8 x9 x10 x11 x12 x13
theorem zbj.l24X.ok : LoopEq E_zbj (yaa Tryz.f134 3) := by
 intro L hL vs H
 have h1 : E_zbj.lp (yag (yaa Tryz.f134 3)) = some zbj.l24.entry := by kernel_rfl
 have h2 : L = zbj.l24.entry := Option.some.inj (hL.symm.trans h1)
 subst h2
 by_cases hx : ∃ (x0 : Nat) (x1 : Int) (x2 : Nat) (x3 : Nat) (x4 : Int) (x5 : Int) (x6 : Int) (x7 : Int) (x8 : Nat) (x9 : Nat → Int) (x10 : Nat) (x11 : Nat → Int) (x12 : Nat) (x13 : Nat → Int), vs = [EV.slice 0 0 x0 none 1, EV.int .i64 x1, EV.slice 1 0 x2 none 1, EV.slice 2 0 x3 none 1, EV.int .i64 x4, EV.int .i64 x5, EV.int .u64 x6, EV.int .u64 x7] ∧ H = [some (EV.arr .u32 x8 x9), some (EV.arr .u32 x10 x11), some (EV.arr .u32 x12 x13)]
 ·obtain ⟨x0, x1, x2, x3, x4, x5, x6, x7, x8, x9, x10, x11, x12, x13, rfl, rfl⟩ := hx
  right; intro K
  exact exists_congr fun n => iff_of_eq (zbj.l24X.eq K n x0 x1 x2 x3 x4 x5 x6 x7 x8 x9 x10 x11 x12 x13).symm
 ·left; intro K h
  simp only [zbj.l24.entry] at h
  split at h
  ·exact hx ⟨_, _, _, _, _, _, _, _, _, _, _, _, _, _, rfl, rfl⟩
  ·exact h
theorem zbj.l31X.stepEq (R : List EV → yad → Prop) (K : Ex → List EV → yad → Prop) (x0 : Nat) (x1 : Int) (x2 : Nat) (x3 : Nat) (x4 : Int) (x5 : Int) (x6 : Int) (x7 : Int) (x8 : Int) (x9 : Int) (x10 : Int) (x11 : Nat) (x12 : Nat → Int) (x13 : Nat) (x14 : Nat → Int) (x15 : Nat) (x16 : Nat → Int) : yah (yat E_zbj (yaa Tryz.f134 4) { (LV.mk 220944 [(8, 220944), (5, 7952), (4, 1296)] 48 0 true) with nx := live (.loop (yaa Tryz.f134 4)) (LV.mk 220944 [(8, 220944), (5, 7952), (4, 1296)] 48 0 true) }) (live (.loop (yaa Tryz.f134 4)) (LV.mk 220944 [(8, 220944), (5, 7952), (4, 1296)] 48 0 true)) (LV.mk 220944 [(8, 220944), (5, 7952), (4, 1296)] 48 0 true) 0 285 R [EV.slice 0 0 x0 none 1, EV.int .i64 x1, EV.slice 1 0 x2 none 1, EV.slice 2 0 x3 none 1, EV.int .i64 x4, EV.int .i64 x5, EV.int .u64 x6, EV.int .u64 x7, EV.int .i64 x8, EV.int .i64 x9, EV.int .i64 x10] [some (EV.arr .u32 x11 x12), some (EV.arr .u32 x13 x14), some (EV.arr .u32 x15 x16)] K = zbj.l31.step (fun x0 x1 x2 x3 x4 x5 x6 x7 x8 x9 x10 x11 x12 x13 x14 x15 x16 => R [EV.slice 0 0 x0 none 1, EV.int .i64 x1, EV.slice 1 0 x2 none 1, EV.slice 2 0 x3 none 1, EV.int .i64 x4, EV.int .i64 x5, EV.int .u64 x6, EV.int .u64 x7, EV.int .i64 x8, EV.int .i64 x9, EV.int .i64 x10] [some (EV.arr .u32 x11 x12), some (EV.arr .u32 x13 x14), some (EV.arr .u32 x15 x16)]) (fun y0 y1 y2 y3 y4 y5 y6 y7 y8 y9 y10 y11 y12 y13 y14 => K (.exit 8) [EV.slice 0 0 y0 none 1, EV.int .i64 y1, EV.slice 1 0 y2 none 1, EV.slice 2 0 y3 none 1, EV.int .i64 y4, EV.int .i64 y5, EV.int .u64 y6, EV.int .u64 y7, EV.int .i64 y8] [some (EV.arr .u32 y9 y10), some (EV.arr .u32 y11 y12), some (EV.arr .u32 y13 y14)]) x0 x1 x2 x3 x4 x5 x6 x7 x8 x9 x10 x11 x12 x13 x14 x15 x16 := (yaw _ _ _ _ _ _ _ _ _ _ _).symm.trans (by kernel_rfl)
theorem zbj.l31X.eq (K : Ex → List EV → yad → Prop) : ∀ (n : Nat) (x0 : Nat) (x1 : Int) (x2 : Nat) (x3 : Nat) (x4 : Int) (x5 : Int) (x6 : Int) (x7 : Int) (x8 : Int) (x9 : Int) (x10 : Int) (x11 : Nat) (x12 : Nat → Int) (x13 : Nat) (x14 : Nat → Int) (x15 : Nat) (x16 : Nat → Int), yar E_zbj (yaa Tryz.f134 4) (LV.mk 220944 [(8, 220944), (5, 7952), (4, 1296)] 48 0 true) 0 285 K n [EV.slice 0 0 x0 none 1, EV.int .i64 x1, EV.slice 1 0 x2 none 1, EV.slice 2 0 x3 none 1, EV.int .i64 x4, EV.int .i64 x5, EV.int .u64 x6, EV.int .u64 x7, EV.int .i64 x8, EV.int .i64 x9, EV.int .i64 x10] [some (EV.arr .u32 x11 x12), some (EV.arr .u32 x13 x14), some (EV.arr .u32 x15 x16)] = zbj.l31 (fun y0 y1 y2 y3 y4 y5 y6 y7 y8 y9 y10 y11 y12 y13 y14 => K (.exit 8) [EV.slice 0 0 y0 none 1, EV.int .i64 y1, EV.slice 1 0 y2 none 1, EV.slice 2 0 y3 none 1, EV.int .i64 y4, EV.int .i64 y5, EV.int .u64 y6, EV.int .u64 y7, EV.int .i64 y8] [some (EV.arr .u32 y9 y10), some (EV.arr .u32 y11 y12), some (EV.arr .u32 y13 y14)]) n x0 x1 x2 x3 x4 x5 x6 x7 x8 x9 x10 x11 x12 x13 x14 x15 x16
 | 0, _, _, _, _, _, _, _, _, _, _, _, _, _, _, _, _, _ => rfl
 | n + 1, x0, x1, x2, x3, x4, x5, x6, x7, x8, x9, x10, x11, x12, x13, x14, x15, x16 => by
  have ih : (fun (x0 : Nat) (x1 : Int) (x2 : Nat) (x3 : Nat) (x4 : Int) (x5 : Int) (x6 : Int) (x7 : Int) (x8 : Int) (x9 : Int) (x10 : Int) (x11 : Nat) (x12 : Nat → Int) (x13 : Nat) (x14 : Nat → Int) (x15 : Nat) (x16 : Nat → Int) => yar E_zbj (yaa Tryz.f134 4) (LV.mk 220944 [(8, 220944), (5, 7952), (4, 1296)] 48 0 true) 0 285 K n [EV.slice 0 0 x0 none 1, EV.int .i64 x1, EV.slice 1 0 x2 none 1, EV.slice 2 0 x3 none 1, EV.int .i64 x4, EV.int .i64 x5, EV.int .u64 x6, EV.int .u64 x7, EV.int .i64 x8, EV.int .i64 x9, EV.int .i64 x10] [some (EV.arr .u32 x11 x12), some (EV.arr .u32 x13 x14), some (EV.arr .u32 x15 x16)]) = zbj.l31 (fun y0 y1 y2 y3 y4 y5 y6 y7 y8 y9 y10 y11 y12 y13 y14 => K (.exit 8) [EV.slice 0 0 y0 none 1, EV.int .i64 y1, EV.slice 1 0 y2 none 1, EV.slice 2 0 y3 none 1, EV.int .i64 y4, EV.int .i64 y5, EV.int .u64 y6, EV.int .u64 y7, EV.int .i64 y8] [some (EV.arr .u32 y9 y10), some (EV.arr .u32 y11 y12), some (EV.arr .u32 y13 y14)]) n := by funext x0 x1 x2 x3 x4 x5 x6 x7 x8 x9 x10 x11 x12 x13 x14 x15 x16; exact zbj.l31X.eq K n x0 x1 x2 x3 x4 x5 x6 x7 x8 x9 x10 x11 x12 x13 x14 x15 x16
  show yah _ _ _ _ _ (yar E_zbj (yaa Tryz.f134 4) (LV.mk 220944 [(8, 220944), (5, 7952), (4, 1296)] 48 0 true) 0 285 K n) [EV.slice 0 0 x0 none 1, EV.int .i64 x1, EV.slice 1 0 x2 none 1, EV.slice 2 0 x3 none 1, EV.int .i64 x4, EV.int .i64 x5, EV.int .u64 x6, EV.int .u64 x7, EV.int .i64 x8, EV.int .i64 x9, EV.int .i64 x10] [some (EV.arr .u32 x11 x12), some (EV.arr .u32 x13 x14), some (EV.arr .u32 x15 x16)] K = zbj.l31.step (zbj.l31 (fun y0 y1 y2 y3 y4 y5 y6 y7 y8 y9 y10 y11 y12 y13 y14 => K (.exit 8) [EV.slice 0 0 y0 none 1, EV.int .i64 y1, EV.slice 1 0 y2 none 1, EV.slice 2 0 y3 none 1, EV.int .i64 y4, EV.int .i64 y5, EV.int .u64 y6, EV.int .u64 y7, EV.int .i64 y8] [some (EV.arr .u32 y9 y10), some (EV.arr .u32 y11 y12), some (EV.arr .u32 y13 y14)]) n) (fun y0 y1 y2 y3 y4 y5 y6 y7 y8 y9 y10 y11 y12 y13 y14 => K (.exit 8) [EV.slice 0 0 y0 none 1, EV.int .i64 y1, EV.slice 1 0 y2 none 1, EV.slice 2 0 y3 none 1, EV.int .i64 y4, EV.int .i64 y5, EV.int .u64 y6, EV.int .u64 y7, EV.int .i64 y8] [some (EV.arr .u32 y9 y10), some (EV.arr .u32 y11 y12), some (EV.arr .u32 y13 y14)]) x0 x1 x2 x3 x4 x5 x6 x7 x8 x9 x10 x11 x12 x13 x14 x15 x16
  rw [← ih]
  exact zbj.l31X.stepEq _ K x0 x1 x2 x3 x4 x5 x6 x7 x8 x9 x10 x11 x12 x13 x14 x15 x16
theorem zbj.l31X.ok : LoopEq E_zbj (yaa Tryz.f134 4) := by
 intro L hL vs H
 have h1 : E_zbj.lp (yag (yaa Tryz.f134 4)) = some zbj.l31.entry := by kernel_rfl
 have h2 : L = zbj.l31.entry := Option.some.inj (hL.symm.trans h1)
 subst h2
 by_cases hx : ∃ (x0 : Nat) (x1 : Int) (x2 : Nat) (x3 : Nat) (x4 : Int) (x5 : Int) (x6 : Int) (x7 : Int) (x8 : Int) (x9 : Int) (x10 : Int) (x11 : Nat) (x12 : Nat → Int) (x13 : Nat) (x14 : Nat → Int) (x15 : Nat) (x16 : Nat → Int), vs = [EV.slice 0 0 x0 none 1, EV.int .i64 x1, EV.slice 1 0 x2 none 1, EV.slice 2 0 x3 none 1, EV.int .i64 x4, EV.int .i64 x5, EV.int .u64 x6, EV.int .u64 x7, EV.int .i64 x8, EV.int .i64 x9, EV.int .i64 x10] ∧ H = [some (EV.arr .u32 x11 x12), some (EV.arr .u32 x13 x14), some (EV.arr .u32 x15 x16)]
 ·obtain ⟨x0, x1, x2, x3, x4, x5, x6, x7, x8, x9, x10, x11, x12, x13, x14, x15, x16, rfl, rfl⟩ := hx
  right; intro K
  exact exists_congr fun n => iff_of_eq (zbj.l31X.eq K n x0 x1 x2 x3 x4 x5 x6 x7 x8 x9 x10 x11 x12 x13 x14 x15 x16).symm
 ·left; intro K h
  simp only [zbj.l31.entry] at h
  split at h
  ·exact hx ⟨_, _, _, _, _, _, _, _, _, _, _, _, _, _, _, _, _, rfl, rfl⟩
  ·exact h
theorem zbj.l45X.stepEq (R : List EV → yad → Prop) (K : Ex → List EV → yad → Prop) (x0 : Nat) (x1 : Int) (x2 : Nat) (x3 : Nat) (x4 : Int) (x5 : Int) (x6 : Int) (x7 : Int) (x8 : Int) (x9 : Int) (x10 : Nat) (x11 : Nat → Int) (x12 : Nat) (x13 : Nat → Int) (x14 : Nat) (x15 : Nat → Int) : yah (yat E_zbj (yaa Tryz.f134 5) { (LV.mk 89872 [(10, 89872), (5, 7952), (4, 1296)] 48 0 true) with nx := live (.loop (yaa Tryz.f134 5)) (LV.mk 89872 [(10, 89872), (5, 7952), (4, 1296)] 48 0 true) }) (live (.loop (yaa Tryz.f134 5)) (LV.mk 89872 [(10, 89872), (5, 7952), (4, 1296)] 48 0 true)) (LV.mk 89872 [(10, 89872), (5, 7952), (4, 1296)] 48 0 true) 0 285 R [EV.slice 0 0 x0 none 1, EV.int .i64 x1, EV.slice 1 0 x2 none 1, EV.slice 2 0 x3 none 1, EV.int .i64 x4, EV.int .i64 x5, EV.int .u64 x6, EV.int .u64 x7, EV.int .i64 x8, EV.int .i64 x9] [some (EV.arr .u32 x10 x11), some (EV.arr .u32 x12 x13), some (EV.arr .u32 x14 x15)] K = zbj.l45.step (fun x0 x1 x2 x3 x4 x5 x6 x7 x8 x9 x10 x11 x12 x13 x14 x15 => R [EV.slice 0 0 x0 none 1, EV.int .i64 x1, EV.slice 1 0 x2 none 1, EV.slice 2 0 x3 none 1, EV.int .i64 x4, EV.int .i64 x5, EV.int .u64 x6, EV.int .u64 x7, EV.int .i64 x8, EV.int .i64 x9] [some (EV.arr .u32 x10 x11), some (EV.arr .u32 x12 x13), some (EV.arr .u32 x14 x15)]) (fun y0 y1 y2 y3 y4 y5 y6 y7 y8 y9 y10 y11 y12 y13 => K (.exit 10) [EV.slice 0 0 y0 none 1, EV.int .i64 y1, EV.slice 1 0 y2 none 1, EV.slice 2 0 y3 none 1, EV.int .i64 y4, EV.int .i64 y5, EV.int .u64 y6, EV.int .u64 y7] [some (EV.arr .u32 y8 y9), some (EV.arr .u32 y10 y11), some (EV.arr .u32 y12 y13)]) x0 x1 x2 x3 x4 x5 x6 x7 x8 x9 x10 x11 x12 x13 x14 x15 := (yaw _ _ _ _ _ _ _ _ _ _ _).symm.trans (by kernel_rfl)
theorem zbj.l45X.eq (K : Ex → List EV → yad → Prop) : ∀ (n : Nat) (x0 : Nat) (x1 : Int) (x2 : Nat) (x3 : Nat) (x4 : Int) (x5 : Int) (x6 : Int) (x7 : Int) (x8 : Int) (x9 : Int) (x10 : Nat) (x11 : Nat → Int) (x12 : Nat) (x13 : Nat → Int) (x14 : Nat) (x15 : Nat → Int), yar E_zbj (yaa Tryz.f134 5) (LV.mk 89872 [(10, 89872), (5, 7952), (4, 1296)] 48 0 true) 0 285 K n [EV.slice 0 0 x0 none 1, EV.int .i64 x1, EV.slice 1 0 x2 none 1, EV.slice 2 0 x3 none 1, EV.int .i64 x4, EV.int .i64 x5, EV.int .u64 x6, EV.int .u64 x7, EV.int .i64 x8, EV.int .i64 x9] [some (EV.arr .u32 x10 x11), some (EV.arr .u32 x12 x13), some (EV.arr .u32 x14 x15)] = zbj.l45 (fun y0 y1 y2 y3 y4 y5 y6 y7 y8 y9 y10 y11 y12 y13 => K (.exit 10) [EV.slice 0 0 y0 none 1, EV.int .i64 y1, EV.slice 1 0 y2 none 1, EV.slice 2 0 y3 none 1, EV.int .i64 y4, EV.int .i64 y5, EV.int .u64 y6, EV.int .u64 y7] [some (EV.arr .u32 y8 y9), some (EV.arr .u32 y10 y11), some (EV.arr .u32 y12 y13)]) n x0 x1 x2 x3 x4 x5 x6 x7 x8 x9 x10 x11 x12 x13 x14 x15
 | 0, _, _, _, _, _, _, _, _, _, _, _, _, _, _, _, _ => rfl
 | n + 1, x0, x1, x2, x3, x4, x5, x6, x7, x8, x9, x10, x11, x12, x13, x14, x15 => by
  have ih : (fun (x0 : Nat) (x1 : Int) (x2 : Nat) (x3 : Nat) (x4 : Int) (x5 : Int) (x6 : Int) (x7 : Int) (x8 : Int) (x9 : Int) (x10 : Nat) (x11 : Nat → Int) (x12 : Nat) (x13 : Nat → Int) (x14 : Nat) (x15 : Nat → Int) => yar E_zbj (yaa Tryz.f134 5) (LV.mk 89872 [(10, 89872), (5, 7952), (4, 1296)] 48 0 true) 0 285 K n [EV.slice 0 0 x0 none 1, EV.int .i64 x1, EV.slice 1 0 x2 none 1, EV.slice 2 0 x3 none 1, EV.int .i64 x4, EV.int .i64 x5, EV.int .u64 x6, EV.int .u64 x7, EV.int .i64 x8, EV.int .i64 x9] [some (EV.arr .u32 x10 x11), some (EV.arr .u32 x12 x13), some (EV.arr .u32 x14 x15)]) = zbj.l45 (fun y0 y1 y2 y3 y4 y5 y6 y7 y8 y9 y10 y11 y12 y13 => K (.exit 10) [EV.slice 0 0 y0 none 1, EV.int .i64 y1, EV.slice 1 0 y2 none 1, EV.slice 2 0 y3 none 1, EV.int .i64 y4, EV.int .i64 y5, EV.int .u64 y6, EV.int .u64 y7] [some (EV.arr .u32 y8 y9), some (EV.arr .u32 y10 y11), some (EV.arr .u32 y12 y13)]) n := by funext x0 x1 x2 x3 x4 x5 x6 x7 x8 x9 x10 x11 x12 x13 x14 x15; exact zbj.l45X.eq K n x0 x1 x2 x3 x4 x5 x6 x7 x8 x9 x10 x11 x12 x13 x14 x15
  show yah _ _ _ _ _ (yar E_zbj (yaa Tryz.f134 5) (LV.mk 89872 [(10, 89872), (5, 7952), (4, 1296)] 48 0 true) 0 285 K n) [EV.slice 0 0 x0 none 1, EV.int .i64 x1, EV.slice 1 0 x2 none 1, EV.slice 2 0 x3 none 1, EV.int .i64 x4, EV.int .i64 x5, EV.int .u64 x6, EV.int .u64 x7, EV.int .i64 x8, EV.int .i64 x9] [some (EV.arr .u32 x10 x11), some (EV.arr .u32 x12 x13), some (EV.arr .u32 x14 x15)] K = zbj.l45.step (zbj.l45 (fun y0 y1 y2 y3 y4 y5 y6 y7 y8 y9 y10 y11 y12 y13 => K (.exit 10) [EV.slice 0 0 y0 none 1, EV.int .i64 y1, EV.slice 1 0 y2 none 1, EV.slice 2 0 y3 none 1, EV.int .i64 y4, EV.int .i64 y5, EV.int .u64 y6, EV.int .u64 y7] [some (EV.arr .u32 y8 y9), some (EV.arr .u32 y10 y11), some (EV.arr .u32 y12 y13)]) n) (fun y0 y1 y2 y3 y4 y5 y6 y7 y8 y9 y10 y11 y12 y13 => K (.exit 10) [EV.slice 0 0 y0 none 1, EV.int .i64 y1, EV.slice 1 0 y2 none 1, EV.slice 2 0 y3 none 1, EV.int .i64 y4, EV.int .i64 y5, EV.int .u64 y6, EV.int .u64 y7] [some (EV.arr .u32 y8 y9), some (EV.arr .u32 y10 y11), some (EV.arr .u32 y12 y13)]) x0 x1 x2 x3 x4 x5 x6 x7 x8 x9 x10 x11 x12 x13 x14 x15
  rw [← ih]
  exact zbj.l45X.stepEq _ K x0 x1 x2 x3 x4 x5 x6 x7 x8 x9 x10 x11 x12 x13 x14 x15
theorem zbj.l45X.ok : LoopEq E_zbj (yaa Tryz.f134 5) := by
 intro L hL vs H
 have h1 : E_zbj.lp (yag (yaa Tryz.f134 5)) = some zbj.l45.entry := by kernel_rfl
 have h2 : L = zbj.l45.entry := Option.some.inj (hL.symm.trans h1)
 subst h2
 by_cases hx : ∃ (x0 : Nat) (x1 : Int) (x2 : Nat) (x3 : Nat) (x4 : Int) (x5 : Int) (x6 : Int) (x7 : Int) (x8 : Int) (x9 : Int) (x10 : Nat) (x11 : Nat → Int) (x12 : Nat) (x13 : Nat → Int) (x14 : Nat) (x15 : Nat → Int), vs = [EV.slice 0 0 x0 none 1, EV.int .i64 x1, EV.slice 1 0 x2 none 1, EV.slice 2 0 x3 none 1, EV.int .i64 x4, EV.int .i64 x5, EV.int .u64 x6, EV.int .u64 x7, EV.int .i64 x8, EV.int .i64 x9] ∧ H = [some (EV.arr .u32 x10 x11), some (EV.arr .u32 x12 x13), some (EV.arr .u32 x14 x15)]
 ·obtain ⟨x0, x1, x2, x3, x4, x5, x6, x7, x8, x9, x10, x11, x12, x13, x14, x15, rfl, rfl⟩ := hx
  right; intro K
  exact exists_congr fun n => iff_of_eq (zbj.l45X.eq K n x0 x1 x2 x3 x4 x5 x6 x7 x8 x9 x10 x11 x12 x13 x14 x15).symm
 ·left; intro K h
  simp only [zbj.l45.entry] at h
  split at h
  ·exact hx ⟨_, _, _, _, _, _, _, _, _, _, _, _, _, _, _, _, rfl, rfl⟩
  ·exact h
theorem X_zbj.eq (a0n : Nat) (a0 : Nat → Int) (a1n : Nat) (a1 : Nat → Int) (K : EV → yad → Prop) : yaJ E_zbj Tryz.f134 false [.rsI .u32 a0n a0, .rsI .u32 a1n a1] [] K = zbj a0n a0 a1n a1 (fun y0 y1 y2 y3 => K (EV.tuple [EV.rsI .u32 y0 y1, EV.rsI .u32 y2 y3]) []) := by
 rw [zbj.is]; exact (yac _ _ _ _ _ _).symm.trans (by kernel_rfl)
theorem X_zbj.ok : SoundE Tryz.prog gl 134 e_zbj := by
 refine yaM (E := E_zbj) (fn := Tryz.f134) rfl tys_ok rfl (show yaK _ l_zbj from ⟨X_zbb.ok, X_zff.ok, X_nat_upN.ok, X_zbf.ok, X_nat_cut.ok, trivial⟩) mixed (by kernel_rfl) (by kernel_rfl) (by kernel_rfl) 6 (by kernel_rfl) false ⟨zbj.l7X.ok, zbj.l16X.ok, zbj.l20X.ok, zbj.l24X.ok, zbj.l31X.ok, zbj.l45X.ok, trivial⟩ ?_
 intro args H
 by_cases hx : ∃ (a0n : Nat) (a0 : Nat → Int) (a1n : Nat) (a1 : Nat → Int), args = [.rsI .u32 a0n a0, .rsI .u32 a1n a1] ∧ H = []
 ·obtain ⟨a0n, a0, a1n, a1, rfl, rfl⟩ := hx
  right; intro K
  exact iff_of_eq (X_zbj.eq a0n a0 a1n a1 K).symm
 ·left; intro K h
  simp only [e_zbj] at h
  split at h
  ·exact hx ⟨_, _, _, _, rfl, rfl⟩
  ·exact h
noncomputable def e_zau : Entry := ⟨[none, none], false, fun args H K => match args, H with
 | [.str a0, .str a1], [] => zau a0 a1 (fun y0 y1 => K (EV.tuple [EV.str y0, EV.int .i64 y1]) [])
 | _, _ => False⟩
noncomputable def l_zau : List (Nat × Entry) := [(94, e_zbk), (96, e_zbq), (133, e_zbi), (134, e_zbj)]
noncomputable def E_zau : Env := ⟨look tys, look l_zau, look [(4, zau.l4.entry)], gl, yas [], false⟩
theorem zau.l4X.stepEq (R : List EV → yad → Prop) (K : Ex → List EV → yad → Prop) (x0 : Nat) (x1 : Nat → Int) (x2 : Nat) (x3 : Nat → Int) : yah (yat E_zau (yaa Tryz.f87 0) { (LV.mk 64 [(0, 64)] 48 0 false) with nx := live (.loop (yaa Tryz.f87 0)) (LV.mk 64 [(0, 64)] 48 0 false) }) (live (.loop (yaa Tryz.f87 0)) (LV.mk 64 [(0, 64)] 48 0 false)) (LV.mk 64 [(0, 64)] 48 0 false) 0 31 R [EV.rsI .u32 x0 x1, EV.rsI .u32 x2 x3] [] K = zau.l4.step (fun x0 x1 x2 x3 => R [EV.rsI .u32 x0 x1, EV.rsI .u32 x2 x3] []) (fun y0 y1 => K (.exit 0) [EV.rsI .u32 y0 y1] []) x0 x1 x2 x3 := (yaw _ _ _ _ _ _ _ _ _ _ _).symm.trans (by kernel_rfl)
theorem zau.l4X.eq (K : Ex → List EV → yad → Prop) : ∀ (n : Nat) (x0 : Nat) (x1 : Nat → Int) (x2 : Nat) (x3 : Nat → Int), yar E_zau (yaa Tryz.f87 0) (LV.mk 64 [(0, 64)] 48 0 false) 0 31 K n [EV.rsI .u32 x0 x1, EV.rsI .u32 x2 x3] [] = zau.l4 (fun y0 y1 => K (.exit 0) [EV.rsI .u32 y0 y1] []) n x0 x1 x2 x3
 | 0, _, _, _, _ => rfl
 | n + 1, x0, x1, x2, x3 => by
  have ih : (fun (x0 : Nat) (x1 : Nat → Int) (x2 : Nat) (x3 : Nat → Int) => yar E_zau (yaa Tryz.f87 0) (LV.mk 64 [(0, 64)] 48 0 false) 0 31 K n [EV.rsI .u32 x0 x1, EV.rsI .u32 x2 x3] []) = zau.l4 (fun y0 y1 => K (.exit 0) [EV.rsI .u32 y0 y1] []) n := by funext x0 x1 x2 x3; exact zau.l4X.eq K n x0 x1 x2 x3
  show yah _ _ _ _ _ (yar E_zau (yaa Tryz.f87 0) (LV.mk 64 [(0, 64)] 48 0 false) 0 31 K n) [EV.rsI .u32 x0 x1, EV.rsI .u32 x2 x3] [] K = zau.l4.step (zau.l4 (fun y0 y1 => K (.exit 0) [EV.rsI .u32 y0 y1] []) n) (fun y0 y1 => K (.exit 0) [EV.rsI .u32 y0 y1] []) x0 x1 x2 x3
  rw [← ih]
  exact zau.l4X.stepEq _ K x0 x1 x2 x3
theorem zau.l4X.ok : LoopEq E_zau (yaa Tryz.f87 0) := by
 intro L hL vs H
 have h1 : E_zau.lp (yag (yaa Tryz.f87 0)) = some zau.l4.entry := by kernel_rfl
 have h2 : L = zau.l4.entry := Option.some.inj (hL.symm.trans h1)
 subst h2
 by_cases hx : ∃ (x0 : Nat) (x1 : Nat → Int) (x2 : Nat) (x3 : Nat → Int), vs = [EV.rsI .u32 x0 x1, EV.rsI .u32 x2 x3] ∧ H = []
 ·obtain ⟨x0, x1, x2, x3, rfl, rfl⟩ := hx
  right; intro K
  exact exists_congr fun n => iff_of_eq (zau.l4X.eq K n x0 x1 x2 x3).symm
 ·left; intro K h
  simp only [zau.l4.entry] at h
  split at h
  ·exact hx ⟨_, _, _, _, rfl, rfl⟩
  ·exact h
theorem X_zau.eq (a0 : List UInt8) (a1 : List UInt8) (K : EV → yad → Prop) : yaJ E_zau Tryz.f87 false [.str a0, .str a1] [] K = zau a0 a1 (fun y0 y1 => K (EV.tuple [EV.str y0, EV.int .i64 y1]) []) := by
 rw [zau.is]; exact (yac _ _ _ _ _ _).symm.trans (by kernel_rfl)
theorem X_zau.ok : SoundE Tryz.prog gl 87 e_zau := by
 refine yaM (E := E_zau) (fn := Tryz.f87) rfl tys_ok rfl (show yaK _ l_zau from ⟨X_zbk.ok, X_zbq.ok, X_zbi.ok, X_zbj.ok, trivial⟩) mixed (by kernel_rfl) (by kernel_rfl) (by kernel_rfl) 1 (by kernel_rfl) false ⟨zau.l4X.ok, trivial⟩ ?_
 intro args H
 by_cases hx : ∃ (a0 : List UInt8) (a1 : List UInt8), args = [.str a0, .str a1] ∧ H = []
 ·obtain ⟨a0, a1, rfl, rfl⟩ := hx
  right; intro K
  exact iff_of_eq (X_zau.eq a0 a1 K).symm
 ·left; intro K h
  simp only [e_zau] at h
  split at h
  ·exact hx ⟨_, _, rfl, rfl⟩
  ·exact h
noncomputable def e_zad : Entry := ⟨[none], false, fun args H K => match args, H with
 | [.agg [.bool a0_0, .str a0_1, .str a0_2, .int .i64 a0_3]], [] => zad a0_0 a0_1 a0_2 a0_3 (fun y0 => K (EV.int .i64 y0) [])
 | _, _ => False⟩
noncomputable def l_zad : List (Nat × Entry) := [(47, e_zah), (84, e_zar), (85, e_zai), (86, e_zak), (87, e_zau)]
noncomputable def E_zad : Env := ⟨look tys, look l_zad, look [], gl, yas [], false⟩
theorem X_zad.eq (a0_0 : Bool) (a0_1 : List UInt8) (a0_2 : List UInt8) (a0_3 : Int) (K : EV → yad → Prop) : yaJ E_zad Tryz.f45 false [.agg [.bool a0_0, .str a0_1, .str a0_2, .int .i64 a0_3]] [] K = zad a0_0 a0_1 a0_2 a0_3 (fun y0 => K (EV.int .i64 y0) []) := by
 rw [zad.is]; exact (yac _ _ _ _ _ _).symm.trans (by kernel_rfl)
theorem X_zad.ok : SoundE Tryz.prog gl 45 e_zad := by
 refine yaM (E := E_zad) (fn := Tryz.f45) rfl tys_ok rfl (show yaK _ l_zad from ⟨X_zah.ok, X_zar.ok, X_zai.ok, X_zak.ok, X_zau.ok, trivial⟩) mixed (by kernel_rfl) (by kernel_rfl) (by kernel_rfl) 0 (by kernel_rfl) false trivial ?_
 intro args H
 by_cases hx : ∃ (a0_0 : Bool) (a0_1 : List UInt8) (a0_2 : List UInt8) (a0_3 : Int), args = [.agg [.bool a0_0, .str a0_1, .str a0_2, .int .i64 a0_3]] ∧ H = []
 ·obtain ⟨a0_0, a0_1, a0_2, a0_3, rfl, rfl⟩ := hx
  right; intro K
  exact iff_of_eq (X_zad.eq a0_0 a0_1 a0_2 a0_3 K).symm
 ·left; intro K h
  simp only [e_zad] at h
  split at h
  ·exact hx ⟨_, _, _, _, rfl, rfl⟩
  ·exact h
noncomputable def e_zac : Entry := ⟨[none], false, fun args H K => match args, H with
 | [.agg [.bool a0_0, .str a0_1, .str a0_2, .int .i64 a0_3]], [] => zac a0_0 a0_1 a0_2 a0_3 (fun y0 y1 y2 y3 => K (EV.agg [EV.bool y0, EV.str y1, EV.str y2, EV.int .i64 y3]) [])
 | _, _ => False⟩
noncomputable def l_zac : List (Nat × Entry) := [(45, e_zad)]
noncomputable def E_zac : Env := ⟨look tys, look l_zac, look [], gl, yas [], false⟩
theorem X_zac.eq (a0_0 : Bool) (a0_1 : List UInt8) (a0_2 : List UInt8) (a0_3 : Int) (K : EV → yad → Prop) : yaJ E_zac Tryz.f26 false [.agg [.bool a0_0, .str a0_1, .str a0_2, .int .i64 a0_3]] [] K = zac a0_0 a0_1 a0_2 a0_3 (fun y0 y1 y2 y3 => K (EV.agg [EV.bool y0, EV.str y1, EV.str y2, EV.int .i64 y3]) []) := by
 rw [zac.is]; exact (yac _ _ _ _ _ _).symm.trans (by kernel_rfl)
theorem X_zac.ok : SoundE Tryz.prog gl 26 e_zac := by
 refine yaM (E := E_zac) (fn := Tryz.f26) rfl tys_ok rfl (show yaK _ l_zac from ⟨X_zad.ok, trivial⟩) mixed (by kernel_rfl) (by kernel_rfl) (by kernel_rfl) 0 (by kernel_rfl) false trivial ?_
 intro args H
 by_cases hx : ∃ (a0_0 : Bool) (a0_1 : List UInt8) (a0_2 : List UInt8) (a0_3 : Int), args = [.agg [.bool a0_0, .str a0_1, .str a0_2, .int .i64 a0_3]] ∧ H = []
 ·obtain ⟨a0_0, a0_1, a0_2, a0_3, rfl, rfl⟩ := hx
  right; intro K
  exact iff_of_eq (X_zac.eq a0_0 a0_1 a0_2 a0_3 K).symm
 ·left; intro K h
  simp only [e_zac] at h
  split at h
  ·exact hx ⟨_, _, _, _, rfl, rfl⟩
  ·exact h
noncomputable def e_zej : Entry := ⟨[none], false, fun args H K => match args, H with
 | [.int .u8 a0], [] => zej a0 (fun y0 => K (EV.int .i64 y0) [])
 | _, _ => False⟩
noncomputable def E_zej : Env := ⟨look tys, look [], look [], gl, yas [], false⟩
theorem X_zej.eq (a0 : Int) (K : EV → yad → Prop) : yaJ E_zej Tryz.f56 false [.int .u8 a0] [] K = zej a0 (fun y0 => K (EV.int .i64 y0) []) := by
 rw [zej.is]; exact (yac _ _ _ _ _ _).symm.trans (by kernel_rfl)
theorem X_zej.ok : SoundE Tryz.prog gl 56 e_zej := by
 refine yaM (E := E_zej) (fn := Tryz.f56) rfl tys_ok rfl (show yaK _ [] from trivial) mixed (by kernel_rfl) (by kernel_rfl) (by kernel_rfl) 0 (by kernel_rfl) false trivial ?_
 intro args H
 by_cases hx : ∃ (a0 : Int), args = [.int .u8 a0] ∧ H = []
 ·obtain ⟨a0, rfl, rfl⟩ := hx
  right; intro K
  exact iff_of_eq (X_zej.eq a0 K).symm
 ·left; intro K h
  simp only [e_zej] at h
  split at h
  ·exact hx ⟨_, rfl, rfl⟩
  ·exact h
noncomputable def e_zek : Entry := ⟨[none], false, fun args H K => match args, H with
 | [.int .u8 a0], [] => zek a0 (fun y0 => K (EV.int .i64 y0) [])
 | _, _ => False⟩
noncomputable def E_zek : Env := ⟨look tys, look [], look [], gl, yas [], false⟩
theorem X_zek.eq (a0 : Int) (K : EV → yad → Prop) : yaJ E_zek Tryz.f57 false [.int .u8 a0] [] K = zek a0 (fun y0 => K (EV.int .i64 y0) []) := by
 rw [zek.is]; exact (yac _ _ _ _ _ _).symm.trans (by kernel_rfl)
theorem X_zek.ok : SoundE Tryz.prog gl 57 e_zek := by
 refine yaM (E := E_zek) (fn := Tryz.f57) rfl tys_ok rfl (show yaK _ [] from trivial) mixed (by kernel_rfl) (by kernel_rfl) (by kernel_rfl) 0 (by kernel_rfl) false trivial ?_
 intro args H
 by_cases hx : ∃ (a0 : Int), args = [.int .u8 a0] ∧ H = []
 ·obtain ⟨a0, rfl, rfl⟩ := hx
  right; intro K
  exact iff_of_eq (X_zek.eq a0 K).symm
 ·left; intro K h
  simp only [e_zek] at h
  split at h
  ·exact hx ⟨_, rfl, rfl⟩
  ·exact h
noncomputable def e_zec : Entry := ⟨[none, none, none, none], false, fun args H K => match args, H with
 | [.int .u8 a0, .int .u8 a1, .agg [.bool a2_0, .str a2_1, .str a2_2, .int .i64 a2_3], .bool a3], [] => zec a0 a1 a2_0 a2_1 a2_2 a2_3 a3 (fun y0 => K (EV.int .i64 y0) [])
 | _, _ => False⟩
noncomputable def l_zec : List (Nat × Entry) := [(45, e_zad), (56, e_zej), (57, e_zek)]
noncomputable def E_zec : Env := ⟨look tys, look l_zec, look [], gl, yas [], false⟩
theorem X_zec.eq (a0 : Int) (a1 : Int) (a2_0 : Bool) (a2_1 : List UInt8) (a2_2 : List UInt8) (a2_3 : Int) (a3 : Bool) (K : EV → yad → Prop) : yaJ E_zec Tryz.f31 false [.int .u8 a0, .int .u8 a1, .agg [.bool a2_0, .str a2_1, .str a2_2, .int .i64 a2_3], .bool a3] [] K = zec a0 a1 a2_0 a2_1 a2_2 a2_3 a3 (fun y0 => K (EV.int .i64 y0) []) := by
 rw [zec.is]; exact (yac _ _ _ _ _ _).symm.trans (by kernel_rfl)
theorem X_zec.ok : SoundE Tryz.prog gl 31 e_zec := by
 refine yaM (E := E_zec) (fn := Tryz.f31) rfl tys_ok rfl (show yaK _ l_zec from ⟨X_zad.ok, X_zej.ok, X_zek.ok, trivial⟩) mixed (by kernel_rfl) (by kernel_rfl) (by kernel_rfl) 0 (by kernel_rfl) false trivial ?_
 intro args H
 by_cases hx : ∃ (a0 : Int) (a1 : Int) (a2_0 : Bool) (a2_1 : List UInt8) (a2_2 : List UInt8) (a2_3 : Int) (a3 : Bool), args = [.int .u8 a0, .int .u8 a1, .agg [.bool a2_0, .str a2_1, .str a2_2, .int .i64 a2_3], .bool a3] ∧ H = []
 ·obtain ⟨a0, a1, a2_0, a2_1, a2_2, a2_3, a3, rfl, rfl⟩ := hx
  right; intro K
  exact iff_of_eq (X_zec.eq a0 a1 a2_0 a2_1 a2_2 a2_3 a3 K).symm
 ·left; intro K h
  simp only [e_zec] at h
  split at h
  ·exact hx ⟨_, _, _, _, _, _, _, rfl, rfl⟩
  ·exact h
noncomputable def e_zas : Entry := ⟨[none, none], false, fun args H K => match args, H with
 | [.str a0, .str a1], [] => zas a0 a1 (fun y0 y1 => K (EV.tuple [EV.int .i64 y0, EV.int .i64 y1]) [])
 | _, _ => False⟩
noncomputable def l_zas : List (Nat × Entry) := [(94, e_zbk), (95, e_zbb), (96, e_zbq)]
noncomputable def E_zas : Env := ⟨look tys, look l_zas, look [], gl, yas [], false⟩
theorem X_zas.eq (a0 : List UInt8) (a1 : List UInt8) (K : EV → yad → Prop) : yaJ E_zas Tryz.f55 false [.str a0, .str a1] [] K = zas a0 a1 (fun y0 y1 => K (EV.tuple [EV.int .i64 y0, EV.int .i64 y1]) []) := by
 rw [zas.is]; exact (yac _ _ _ _ _ _).symm.trans (by kernel_rfl)
theorem X_zas.ok : SoundE Tryz.prog gl 55 e_zas := by
 refine yaM (E := E_zas) (fn := Tryz.f55) rfl tys_ok rfl (show yaK _ l_zas from ⟨X_zbk.ok, X_zbb.ok, X_zbq.ok, trivial⟩) mixed (by kernel_rfl) (by kernel_rfl) (by kernel_rfl) 0 (by kernel_rfl) false trivial ?_
 intro args H
 by_cases hx : ∃ (a0 : List UInt8) (a1 : List UInt8), args = [.str a0, .str a1] ∧ H = []
 ·obtain ⟨a0, a1, rfl, rfl⟩ := hx
  right; intro K
  exact iff_of_eq (X_zas.eq a0 a1 K).symm
 ·left; intro K h
  simp only [e_zas] at h
  split at h
  ·exact hx ⟨_, _, rfl, rfl⟩
  ·exact h
noncomputable def e_zaw : Entry := ⟨[none], false, fun args H K => match args, H with
 | [.str a0], [] => zaw a0 (fun y0 => K (EV.int .i64 y0) [])
 | _, _ => False⟩
noncomputable def l_zaw : List (Nat × Entry) := [(84, e_zar), (102, e_zff)]
noncomputable def E_zaw : Env := ⟨look tys, look l_zaw, look [], gl, yas [], false⟩
theorem X_zaw.eq (a0 : List UInt8) (K : EV → yad → Prop) : yaJ E_zaw Tryz.f64 false [.str a0] [] K = zaw a0 (fun y0 => K (EV.int .i64 y0) []) := by
 rw [zaw.is]; exact (yac _ _ _ _ _ _).symm.trans (by kernel_rfl)
theorem X_zaw.ok : SoundE Tryz.prog gl 64 e_zaw := by
 refine yaM (E := E_zaw) (fn := Tryz.f64) rfl tys_ok rfl (show yaK _ l_zaw from ⟨X_zar.ok, X_zff.ok, trivial⟩) mixed (by kernel_rfl) (by kernel_rfl) (by kernel_rfl) 0 (by kernel_rfl) false trivial ?_
 intro args H
 by_cases hx : ∃ (a0 : List UInt8), args = [.str a0] ∧ H = []
 ·obtain ⟨a0, rfl, rfl⟩ := hx
  right; intro K
  exact iff_of_eq (X_zaw.eq a0 K).symm
 ·left; intro K h
  simp only [e_zaw] at h
  split at h
  ·exact hx ⟨_, rfl, rfl⟩
  ·exact h
noncomputable def e_zbn : Entry := ⟨[some .u32], false, fun args H K => match args, H with
 | [.rsI .u32 a0n a0], [] => zbn a0n a0 (fun y0 y1 => K (EV.tuple [EV.str y0, EV.int .i64 y1]) [])
 | _, _ => False⟩
noncomputable def l_zbn : List (Nat × Entry) := [(133, e_zbi)]
noncomputable def E_zbn : Env := ⟨look tys, look l_zbn, look [], gl, yas [], false⟩
theorem X_zbn.eq (a0n : Nat) (a0 : Nat → Int) (K : EV → yad → Prop) : yaJ E_zbn Tryz.f135 false [.rsI .u32 a0n a0] [] K = zbn a0n a0 (fun y0 y1 => K (EV.tuple [EV.str y0, EV.int .i64 y1]) []) := by
 rw [zbn.is]; exact (yac _ _ _ _ _ _).symm.trans (by kernel_rfl)
theorem X_zbn.ok : SoundE Tryz.prog gl 135 e_zbn := by
 refine yaM (E := E_zbn) (fn := Tryz.f135) rfl tys_ok rfl (show yaK _ l_zbn from ⟨X_zbi.ok, trivial⟩) mixed (by kernel_rfl) (by kernel_rfl) (by kernel_rfl) 0 (by kernel_rfl) false trivial ?_
 intro args H
 by_cases hx : ∃ (a0n : Nat) (a0 : Nat → Int), args = [.rsI .u32 a0n a0] ∧ H = []
 ·obtain ⟨a0n, a0, rfl, rfl⟩ := hx
  right; intro K
  exact iff_of_eq (X_zbn.eq a0n a0 K).symm
 ·left; intro K h
  simp only [e_zbn] at h
  split at h
  ·exact hx ⟨_, _, rfl, rfl⟩
  ·exact h
noncomputable def e_zav : Entry := ⟨[none, none], false, fun args H K => match args, H with
 | [.str a0, .int .i64 a1], [] => zav a0 a1 (fun y0 y1 => K (EV.tuple [EV.str y0, EV.int .i64 y1]) [])
 | _, _ => False⟩
noncomputable def l_zav : List (Nat × Entry) := [(64, e_zaw), (84, e_zar), (96, e_zbq), (135, e_zbn), (140, e_zbo)]
noncomputable def E_zav : Env := ⟨look tys, look l_zav, look [], gl, yas [], false⟩
theorem X_zav.eq (a0 : List UInt8) (a1 : Int) (K : EV → yad → Prop) : yaJ E_zav Tryz.f93 false [.str a0, .int .i64 a1] [] K = zav a0 a1 (fun y0 y1 => K (EV.tuple [EV.str y0, EV.int .i64 y1]) []) := by
 rw [zav.is]; exact (yac _ _ _ _ _ _).symm.trans (by kernel_rfl)
theorem X_zav.ok : SoundE Tryz.prog gl 93 e_zav := by
 refine yaM (E := E_zav) (fn := Tryz.f93) rfl tys_ok rfl (show yaK _ l_zav from ⟨X_zaw.ok, X_zar.ok, X_zbq.ok, X_zbn.ok, X_zbo.ok, trivial⟩) mixed (by kernel_rfl) (by kernel_rfl) (by kernel_rfl) 0 (by kernel_rfl) false trivial ?_
 intro args H
 by_cases hx : ∃ (a0 : List UInt8) (a1 : Int), args = [.str a0, .int .i64 a1] ∧ H = []
 ·obtain ⟨a0, a1, rfl, rfl⟩ := hx
  right; intro K
  exact iff_of_eq (X_zav.eq a0 a1 K).symm
 ·left; intro K h
  simp only [e_zav] at h
  split at h
  ·exact hx ⟨_, _, rfl, rfl⟩
  ·exact h
noncomputable def e_zaj : Entry := ⟨[none], false, fun args H K => match args, H with
 | [.agg [.bool a0_0, .str a0_1, .str a0_2, .int .i64 a0_3]], [] => zaj a0_0 a0_1 a0_2 a0_3 (fun y0 => K (EV.int .i64 y0) [])
 | _, _ => False⟩
noncomputable def l_zaj : List (Nat × Entry) := [(55, e_zas), (64, e_zaw), (93, e_zav)]
noncomputable def E_zaj : Env := ⟨look tys, look l_zaj, look [], gl, yas [], false⟩
theorem X_zaj.eq (a0_0 : Bool) (a0_1 : List UInt8) (a0_2 : List UInt8) (a0_3 : Int) (K : EV → yad → Prop) : yaJ E_zaj Tryz.f141 false [.agg [.bool a0_0, .str a0_1, .str a0_2, .int .i64 a0_3]] [] K = zaj a0_0 a0_1 a0_2 a0_3 (fun y0 => K (EV.int .i64 y0) []) := by
 rw [zaj.is]; exact (yac _ _ _ _ _ _).symm.trans (by kernel_rfl)
theorem X_zaj.ok : SoundE Tryz.prog gl 141 e_zaj := by
 refine yaM (E := E_zaj) (fn := Tryz.f141) rfl tys_ok rfl (show yaK _ l_zaj from ⟨X_zas.ok, X_zaw.ok, X_zav.ok, trivial⟩) mixed (by kernel_rfl) (by kernel_rfl) (by kernel_rfl) 0 (by kernel_rfl) false trivial ?_
 intro args H
 by_cases hx : ∃ (a0_0 : Bool) (a0_1 : List UInt8) (a0_2 : List UInt8) (a0_3 : Int), args = [.agg [.bool a0_0, .str a0_1, .str a0_2, .int .i64 a0_3]] ∧ H = []
 ·obtain ⟨a0_0, a0_1, a0_2, a0_3, rfl, rfl⟩ := hx
  right; intro K
  exact iff_of_eq (X_zaj.eq a0_0 a0_1 a0_2 a0_3 K).symm
 ·left; intro K h
  simp only [e_zaj] at h
  split at h
  ·exact hx ⟨_, _, _, _, rfl, rfl⟩
  ·exact h
noncomputable def e_zag : Entry := ⟨[none], false, fun args H K => match args, H with
 | [.agg [.bool a0_0, .str a0_1, .str a0_2, .int .i64 a0_3]], [] => zag a0_0 a0_1 a0_2 a0_3 (fun y0 y1 => K (EV.tuple [EV.int .i64 y0, EV.int .i64 y1]) [])
 | _, _ => False⟩
noncomputable def l_zag : List (Nat × Entry) := [(45, e_zad), (141, e_zaj)]
noncomputable def E_zag : Env := ⟨look tys, look l_zag, look [], gl, yas [], false⟩
theorem X_zag.eq (a0_0 : Bool) (a0_1 : List UInt8) (a0_2 : List UInt8) (a0_3 : Int) (K : EV → yad → Prop) : yaJ E_zag Tryz.f97 false [.agg [.bool a0_0, .str a0_1, .str a0_2, .int .i64 a0_3]] [] K = zag a0_0 a0_1 a0_2 a0_3 (fun y0 y1 => K (EV.tuple [EV.int .i64 y0, EV.int .i64 y1]) []) := by
 rw [zag.is]; exact (yac _ _ _ _ _ _).symm.trans (by kernel_rfl)
theorem X_zag.ok : SoundE Tryz.prog gl 97 e_zag := by
 refine yaM (E := E_zag) (fn := Tryz.f97) rfl tys_ok rfl (show yaK _ l_zag from ⟨X_zad.ok, X_zaj.ok, trivial⟩) mixed (by kernel_rfl) (by kernel_rfl) (by kernel_rfl) 0 (by kernel_rfl) false trivial ?_
 intro args H
 by_cases hx : ∃ (a0_0 : Bool) (a0_1 : List UInt8) (a0_2 : List UInt8) (a0_3 : Int), args = [.agg [.bool a0_0, .str a0_1, .str a0_2, .int .i64 a0_3]] ∧ H = []
 ·obtain ⟨a0_0, a0_1, a0_2, a0_3, rfl, rfl⟩ := hx
  right; intro K
  exact iff_of_eq (X_zag.eq a0_0 a0_1 a0_2 a0_3 K).symm
 ·left; intro K h
  simp only [e_zag] at h
  split at h
  ·exact hx ⟨_, _, _, _, rfl, rfl⟩
  ·exact h
noncomputable def e_zei : Entry := ⟨[none], false, fun args H K => match args, H with
 | [.agg [.agg [.bool a0_0_0, .str a0_0_1, .str a0_0_2, .int .i64 a0_0_3], .bool a0_1]], [] => zei a0_0_0 a0_0_1 a0_0_2 a0_0_3 a0_1 (fun y0 => K (EV.int .i64 y0) [])
 | _, _ => False⟩
noncomputable def l_zei : List (Nat × Entry) := [(97, e_zag)]
noncomputable def E_zei : Env := ⟨look tys, look l_zei, look [], gl, yas [], false⟩
theorem X_zei.eq (a0_0_0 : Bool) (a0_0_1 : List UInt8) (a0_0_2 : List UInt8) (a0_0_3 : Int) (a0_1 : Bool) (K : EV → yad → Prop) : yaJ E_zei Tryz.f58 false [.agg [.agg [.bool a0_0_0, .str a0_0_1, .str a0_0_2, .int .i64 a0_0_3], .bool a0_1]] [] K = zei a0_0_0 a0_0_1 a0_0_2 a0_0_3 a0_1 (fun y0 => K (EV.int .i64 y0) []) := by
 rw [zei.is]; exact (yac _ _ _ _ _ _).symm.trans (by kernel_rfl)
theorem X_zei.ok : SoundE Tryz.prog gl 58 e_zei := by
 refine yaM (E := E_zei) (fn := Tryz.f58) rfl tys_ok rfl (show yaK _ l_zei from ⟨X_zag.ok, trivial⟩) mixed (by kernel_rfl) (by kernel_rfl) (by kernel_rfl) 0 (by kernel_rfl) false trivial ?_
 intro args H
 by_cases hx : ∃ (a0_0_0 : Bool) (a0_0_1 : List UInt8) (a0_0_2 : List UInt8) (a0_0_3 : Int) (a0_1 : Bool), args = [.agg [.agg [.bool a0_0_0, .str a0_0_1, .str a0_0_2, .int .i64 a0_0_3], .bool a0_1]] ∧ H = []
 ·obtain ⟨a0_0_0, a0_0_1, a0_0_2, a0_0_3, a0_1, rfl, rfl⟩ := hx
  right; intro K
  exact iff_of_eq (X_zei.eq a0_0_0 a0_0_1 a0_0_2 a0_0_3 a0_1 K).symm
 ·left; intro K h
  simp only [e_zei] at h
  split at h
  ·exact hx ⟨_, _, _, _, _, rfl, rfl⟩
  ·exact h
noncomputable def e_zeu : Entry := ⟨[none], false, fun args H K => match args, H with
 | [.int .u8 a0], [] => zeu a0 (fun y0 y1 y2 y3 => K (EV.tuple [EV.int .i64 y0, EV.int .i64 y1, EV.int .i64 y2, EV.str y3]) [])
 | _, _ => False⟩
noncomputable def E_zeu : Env := ⟨look tys, look [], look [], gl, yas [], false⟩
theorem X_zeu.eq (a0 : Int) (K : EV → yad → Prop) : yaJ E_zeu Tryz.f81 false [.int .u8 a0] [] K = zeu a0 (fun y0 y1 y2 y3 => K (EV.tuple [EV.int .i64 y0, EV.int .i64 y1, EV.int .i64 y2, EV.str y3]) []) := by
 rw [zeu.is]; exact (yac _ _ _ _ _ _).symm.trans (by kernel_rfl)
theorem X_zeu.ok : SoundE Tryz.prog gl 81 e_zeu := by
 refine yaM (E := E_zeu) (fn := Tryz.f81) rfl tys_ok rfl (show yaK _ [] from trivial) mixed (by kernel_rfl) (by kernel_rfl) (by kernel_rfl) 0 (by kernel_rfl) false trivial ?_
 intro args H
 by_cases hx : ∃ (a0 : Int), args = [.int .u8 a0] ∧ H = []
 ·obtain ⟨a0, rfl, rfl⟩ := hx
  right; intro K
  exact iff_of_eq (X_zeu.eq a0 K).symm
 ·left; intro K h
  simp only [e_zeu] at h
  split at h
  ·exact hx ⟨_, rfl, rfl⟩
  ·exact h
noncomputable def e_zel : Entry := ⟨[none], false, fun args H K => match args, H with
 | [.int .u8 a0], [] => zel a0 (fun y0 => K (EV.int .i64 y0) [])
 | _, _ => False⟩
noncomputable def l_zel : List (Nat × Entry) := [(81, e_zeu)]
noncomputable def E_zel : Env := ⟨look tys, look l_zel, look [], gl, yas [], false⟩
theorem X_zel.eq (a0 : Int) (K : EV → yad → Prop) : yaJ E_zel Tryz.f59 false [.int .u8 a0] [] K = zel a0 (fun y0 => K (EV.int .i64 y0) []) := by
 rw [zel.is]; exact (yac _ _ _ _ _ _).symm.trans (by kernel_rfl)
theorem X_zel.ok : SoundE Tryz.prog gl 59 e_zel := by
 refine yaM (E := E_zel) (fn := Tryz.f59) rfl tys_ok rfl (show yaK _ l_zel from ⟨X_zeu.ok, trivial⟩) mixed (by kernel_rfl) (by kernel_rfl) (by kernel_rfl) 0 (by kernel_rfl) false trivial ?_
 intro args H
 by_cases hx : ∃ (a0 : Int), args = [.int .u8 a0] ∧ H = []
 ·obtain ⟨a0, rfl, rfl⟩ := hx
  right; intro K
  exact iff_of_eq (X_zel.eq a0 K).symm
 ·left; intro K h
  simp only [e_zel] at h
  split at h
  ·exact hx ⟨_, rfl, rfl⟩
  ·exact h
noncomputable def e_zem : Entry := ⟨[none], false, fun args H K => match args, H with
 | [.int .u8 a0], [] => zem a0 (fun y0 => K (EV.int .i64 y0) [])
 | _, _ => False⟩
noncomputable def l_zem : List (Nat × Entry) := [(56, e_zej), (59, e_zel)]
noncomputable def E_zem : Env := ⟨look tys, look l_zem, look [], gl, yas [], false⟩
theorem X_zem.eq (a0 : Int) (K : EV → yad → Prop) : yaJ E_zem Tryz.f61 false [.int .u8 a0] [] K = zem a0 (fun y0 => K (EV.int .i64 y0) []) := by
 rw [zem.is]; exact (yac _ _ _ _ _ _).symm.trans (by kernel_rfl)
theorem X_zem.ok : SoundE Tryz.prog gl 61 e_zem := by
 refine yaM (E := E_zem) (fn := Tryz.f61) rfl tys_ok rfl (show yaK _ l_zem from ⟨X_zej.ok, X_zel.ok, trivial⟩) mixed (by kernel_rfl) (by kernel_rfl) (by kernel_rfl) 0 (by kernel_rfl) false trivial ?_
 intro args H
 by_cases hx : ∃ (a0 : Int), args = [.int .u8 a0] ∧ H = []
 ·obtain ⟨a0, rfl, rfl⟩ := hx
  right; intro K
  exact iff_of_eq (X_zem.eq a0 K).symm
 ·left; intro K h
  simp only [e_zem] at h
  split at h
  ·exact hx ⟨_, rfl, rfl⟩
  ·exact h
noncomputable def e_zep : Entry := ⟨[none], false, fun args H K => match args, H with
 | [.int .u8 a0], [] => zep a0 (fun y0 => K (EV.int .i64 y0) [])
 | _, _ => False⟩
noncomputable def l_zep : List (Nat × Entry) := [(81, e_zeu)]
noncomputable def E_zep : Env := ⟨look tys, look l_zep, look [], gl, yas [], false⟩
theorem X_zep.eq (a0 : Int) (K : EV → yad → Prop) : yaJ E_zep Tryz.f62 false [.int .u8 a0] [] K = zep a0 (fun y0 => K (EV.int .i64 y0) []) := by
 rw [zep.is]; exact (yac _ _ _ _ _ _).symm.trans (by kernel_rfl)
theorem X_zep.ok : SoundE Tryz.prog gl 62 e_zep := by
 refine yaM (E := E_zep) (fn := Tryz.f62) rfl tys_ok rfl (show yaK _ l_zep from ⟨X_zeu.ok, trivial⟩) mixed (by kernel_rfl) (by kernel_rfl) (by kernel_rfl) 0 (by kernel_rfl) false trivial ?_
 intro args H
 by_cases hx : ∃ (a0 : Int), args = [.int .u8 a0] ∧ H = []
 ·obtain ⟨a0, rfl, rfl⟩ := hx
  right; intro K
  exact iff_of_eq (X_zep.eq a0 K).symm
 ·left; intro K h
  simp only [e_zep] at h
  split at h
  ·exact hx ⟨_, rfl, rfl⟩
  ·exact h
noncomputable def e_zbl : Entry := ⟨[some .u32, some .u32], false, fun args H K => match args, H with
 | [.rsI .u32 a0n a0, .rsI .u32 a1n a1], [] => zbl a0n a0 a1n a1 (fun y0 y1 => K (EV.rsI .u32 y0 y1) [])
 | _, _ => False⟩
noncomputable def l_zbl : List (Nat × Entry) := [(172, e_nat_cut)]
noncomputable def E_zbl : Env := ⟨look tys, look l_zbl, look [(7, zbl.l7.entry)], gl, yas [], false⟩
theorem zbl.l7X.stepEq (R : List EV → yad → Prop) (K : Ex → List EV → yad → Prop) (x0 : Nat) (x1 : Nat → Int) (x2 : Nat) (x3 : Nat) (x4 : Int) (x5 : Int) (x6 : Nat) (x7 : Nat → Int) : yah (yat E_zbl (yaa Tryz.f138 0) { (LV.mk 32 [(0, 32)] 16 0 false) with nx := live (.loop (yaa Tryz.f138 0)) (LV.mk 32 [(0, 32)] 16 0 false) }) (live (.loop (yaa Tryz.f138 0)) (LV.mk 32 [(0, 32)] 16 0 false)) (LV.mk 32 [(0, 32)] 16 0 false) 0 59 R [EV.rsI .u32 x0 x1, EV.slice 0 0 x2 (some x3) 1, EV.int .u64 x4, EV.int .i64 x5] [some (EV.arr .u32 x6 x7)] K = zbl.l7.step (fun x0 x1 x2 x3 x4 x5 x6 x7 => R [EV.rsI .u32 x0 x1, EV.slice 0 0 x2 (some x3) 1, EV.int .u64 x4, EV.int .i64 x5] [some (EV.arr .u32 x6 x7)]) (fun y0 y1 y2 y3 => K (.exit 0) [EV.slice 0 0 y0 (some y1) 1] [some (EV.arr .u32 y2 y3)]) x0 x1 x2 x3 x4 x5 x6 x7 := (yaw _ _ _ _ _ _ _ _ _ _ _).symm.trans (by kernel_rfl)
theorem zbl.l7X.eq (K : Ex → List EV → yad → Prop) : ∀ (n : Nat) (x0 : Nat) (x1 : Nat → Int) (x2 : Nat) (x3 : Nat) (x4 : Int) (x5 : Int) (x6 : Nat) (x7 : Nat → Int), yar E_zbl (yaa Tryz.f138 0) (LV.mk 32 [(0, 32)] 16 0 false) 0 59 K n [EV.rsI .u32 x0 x1, EV.slice 0 0 x2 (some x3) 1, EV.int .u64 x4, EV.int .i64 x5] [some (EV.arr .u32 x6 x7)] = zbl.l7 (fun y0 y1 y2 y3 => K (.exit 0) [EV.slice 0 0 y0 (some y1) 1] [some (EV.arr .u32 y2 y3)]) n x0 x1 x2 x3 x4 x5 x6 x7
 | 0, _, _, _, _, _, _, _, _ => rfl
 | n + 1, x0, x1, x2, x3, x4, x5, x6, x7 => by
  have ih : (fun (x0 : Nat) (x1 : Nat → Int) (x2 : Nat) (x3 : Nat) (x4 : Int) (x5 : Int) (x6 : Nat) (x7 : Nat → Int) => yar E_zbl (yaa Tryz.f138 0) (LV.mk 32 [(0, 32)] 16 0 false) 0 59 K n [EV.rsI .u32 x0 x1, EV.slice 0 0 x2 (some x3) 1, EV.int .u64 x4, EV.int .i64 x5] [some (EV.arr .u32 x6 x7)]) = zbl.l7 (fun y0 y1 y2 y3 => K (.exit 0) [EV.slice 0 0 y0 (some y1) 1] [some (EV.arr .u32 y2 y3)]) n := by funext x0 x1 x2 x3 x4 x5 x6 x7; exact zbl.l7X.eq K n x0 x1 x2 x3 x4 x5 x6 x7
  show yah _ _ _ _ _ (yar E_zbl (yaa Tryz.f138 0) (LV.mk 32 [(0, 32)] 16 0 false) 0 59 K n) [EV.rsI .u32 x0 x1, EV.slice 0 0 x2 (some x3) 1, EV.int .u64 x4, EV.int .i64 x5] [some (EV.arr .u32 x6 x7)] K = zbl.l7.step (zbl.l7 (fun y0 y1 y2 y3 => K (.exit 0) [EV.slice 0 0 y0 (some y1) 1] [some (EV.arr .u32 y2 y3)]) n) (fun y0 y1 y2 y3 => K (.exit 0) [EV.slice 0 0 y0 (some y1) 1] [some (EV.arr .u32 y2 y3)]) x0 x1 x2 x3 x4 x5 x6 x7
  rw [← ih]
  exact zbl.l7X.stepEq _ K x0 x1 x2 x3 x4 x5 x6 x7
theorem zbl.l7X.ok : LoopEq E_zbl (yaa Tryz.f138 0) := by
 intro L hL vs H
 have h1 : E_zbl.lp (yag (yaa Tryz.f138 0)) = some zbl.l7.entry := by kernel_rfl
 have h2 : L = zbl.l7.entry := Option.some.inj (hL.symm.trans h1)
 subst h2
 by_cases hx : ∃ (x0 : Nat) (x1 : Nat → Int) (x2 : Nat) (x3 : Nat) (x4 : Int) (x5 : Int) (x6 : Nat) (x7 : Nat → Int), vs = [EV.rsI .u32 x0 x1, EV.slice 0 0 x2 (some x3) 1, EV.int .u64 x4, EV.int .i64 x5] ∧ H = [some (EV.arr .u32 x6 x7)]
 ·obtain ⟨x0, x1, x2, x3, x4, x5, x6, x7, rfl, rfl⟩ := hx
  right; intro K
  exact exists_congr fun n => iff_of_eq (zbl.l7X.eq K n x0 x1 x2 x3 x4 x5 x6 x7).symm
 ·left; intro K h
  simp only [zbl.l7.entry] at h
  split at h
  ·exact hx ⟨_, _, _, _, _, _, _, _, rfl, rfl⟩
  ·exact h
theorem X_zbl.eq (a0n : Nat) (a0 : Nat → Int) (a1n : Nat) (a1 : Nat → Int) (K : EV → yad → Prop) : yaJ E_zbl Tryz.f138 false [.rsI .u32 a0n a0, .rsI .u32 a1n a1] [] K = zbl a0n a0 a1n a1 (fun y0 y1 => K (EV.rsI .u32 y0 y1) []) := by
 rw [zbl.is]; exact (yac _ _ _ _ _ _).symm.trans (by kernel_rfl)
theorem X_zbl.ok : SoundE Tryz.prog gl 138 e_zbl := by
 refine yaM (E := E_zbl) (fn := Tryz.f138) rfl tys_ok rfl (show yaK _ l_zbl from ⟨X_nat_cut.ok, trivial⟩) mixed (by kernel_rfl) (by kernel_rfl) (by kernel_rfl) 1 (by kernel_rfl) false ⟨zbl.l7X.ok, trivial⟩ ?_
 intro args H
 by_cases hx : ∃ (a0n : Nat) (a0 : Nat → Int) (a1n : Nat) (a1 : Nat → Int), args = [.rsI .u32 a0n a0, .rsI .u32 a1n a1] ∧ H = []
 ·obtain ⟨a0n, a0, a1n, a1, rfl, rfl⟩ := hx
  right; intro K
  exact iff_of_eq (X_zbl.eq a0n a0 a1n a1 K).symm
 ·left; intro K h
  simp only [e_zbl] at h
  split at h
  ·exact hx ⟨_, _, _, _, rfl, rfl⟩
  ·exact h
noncomputable def e_zaq : Entry := ⟨[none, none], false, fun args H K => match args, H with
 | [.str a0, .str a1], [] => zaq a0 a1 (fun y0 y1 => K (EV.tuple [EV.str y0, EV.int .i64 y1]) [])
 | _, _ => False⟩
noncomputable def l_zaq : List (Nat × Entry) := [(94, e_zbk), (96, e_zbq), (135, e_zbn), (138, e_zbl)]
noncomputable def E_zaq : Env := ⟨look tys, look l_zaq, look [], gl, yas [], false⟩
theorem X_zaq.eq (a0 : List UInt8) (a1 : List UInt8) (K : EV → yad → Prop) : yaJ E_zaq Tryz.f91 false [.str a0, .str a1] [] K = zaq a0 a1 (fun y0 y1 => K (EV.tuple [EV.str y0, EV.int .i64 y1]) []) := by
 rw [zaq.is]; exact (yac _ _ _ _ _ _).symm.trans (by kernel_rfl)
theorem X_zaq.ok : SoundE Tryz.prog gl 91 e_zaq := by
 refine yaM (E := E_zaq) (fn := Tryz.f91) rfl tys_ok rfl (show yaK _ l_zaq from ⟨X_zbk.ok, X_zbq.ok, X_zbn.ok, X_zbl.ok, trivial⟩) mixed (by kernel_rfl) (by kernel_rfl) (by kernel_rfl) 0 (by kernel_rfl) false trivial ?_
 intro args H
 by_cases hx : ∃ (a0 : List UInt8) (a1 : List UInt8), args = [.str a0, .str a1] ∧ H = []
 ·obtain ⟨a0, a1, rfl, rfl⟩ := hx
  right; intro K
  exact iff_of_eq (X_zaq.eq a0 a1 K).symm
 ·left; intro K h
  simp only [e_zaq] at h
  split at h
  ·exact hx ⟨_, _, rfl, rfl⟩
  ·exact h
noncomputable def e_zat : Entry := ⟨[none, none], false, fun args H K => match args, H with
 | [.str a0, .str a1], [] => zat a0 a1 (fun y0 y1 y2 => K (EV.tuple [EV.str y0, EV.str y1, EV.int .i64 y2]) [])
 | _, _ => False⟩
noncomputable def l_zat : List (Nat × Entry) := [(94, e_zbk), (96, e_zbq), (133, e_zbi), (134, e_zbj)]
noncomputable def E_zat : Env := ⟨look tys, look l_zat, look [], gl, yas [], false⟩
theorem X_zat.eq (a0 : List UInt8) (a1 : List UInt8) (K : EV → yad → Prop) : yaJ E_zat Tryz.f104 false [.str a0, .str a1] [] K = zat a0 a1 (fun y0 y1 y2 => K (EV.tuple [EV.str y0, EV.str y1, EV.int .i64 y2]) []) := by
 rw [zat.is]; exact (yac _ _ _ _ _ _).symm.trans (by kernel_rfl)
theorem X_zat.ok : SoundE Tryz.prog gl 104 e_zat := by
 refine yaM (E := E_zat) (fn := Tryz.f104) rfl tys_ok rfl (show yaK _ l_zat from ⟨X_zbk.ok, X_zbq.ok, X_zbi.ok, X_zbj.ok, trivial⟩) mixed (by kernel_rfl) (by kernel_rfl) (by kernel_rfl) 0 (by kernel_rfl) false trivial ?_
 intro args H
 by_cases hx : ∃ (a0 : List UInt8) (a1 : List UInt8), args = [.str a0, .str a1] ∧ H = []
 ·obtain ⟨a0, a1, rfl, rfl⟩ := hx
  right; intro K
  exact iff_of_eq (X_zat.eq a0 a1 K).symm
 ·left; intro K h
  simp only [e_zat] at h
  split at h
  ·exact hx ⟨_, _, rfl, rfl⟩
  ·exact h
noncomputable def e_zae : Entry := ⟨[none, none], false, fun args H K => match args, H with
 | [.agg [.bool a0_0, .str a0_1, .str a0_2, .int .i64 a0_3], .int .i64 a1], [] => zae a0_0 a0_1 a0_2 a0_3 a1 (fun y0 y1 y2 => K (EV.tuple [EV.str y0, EV.bool y1, EV.int .i64 y2]) [])
 | _, _ => False⟩
noncomputable def l_zae : List (Nat × Entry) := [(45, e_zad), (93, e_zav), (104, e_zat), (141, e_zaj)]
noncomputable def E_zae : Env := ⟨look tys, look l_zae, look [], gl, yas [], false⟩
theorem X_zae.eq (a0_0 : Bool) (a0_1 : List UInt8) (a0_2 : List UInt8) (a0_3 : Int) (a1 : Int) (K : EV → yad → Prop) : yaJ E_zae Tryz.f105 false [.agg [.bool a0_0, .str a0_1, .str a0_2, .int .i64 a0_3], .int .i64 a1] [] K = zae a0_0 a0_1 a0_2 a0_3 a1 (fun y0 y1 y2 => K (EV.tuple [EV.str y0, EV.bool y1, EV.int .i64 y2]) []) := by
 rw [zae.is]; exact (yac _ _ _ _ _ _).symm.trans (by kernel_rfl)
theorem X_zae.ok : SoundE Tryz.prog gl 105 e_zae := by
 refine yaM (E := E_zae) (fn := Tryz.f105) rfl tys_ok rfl (show yaK _ l_zae from ⟨X_zad.ok, X_zav.ok, X_zat.ok, X_zaj.ok, trivial⟩) mixed (by kernel_rfl) (by kernel_rfl) (by kernel_rfl) 0 (by kernel_rfl) false trivial ?_
 intro args H
 by_cases hx : ∃ (a0_0 : Bool) (a0_1 : List UInt8) (a0_2 : List UInt8) (a0_3 : Int) (a1 : Int), args = [.agg [.bool a0_0, .str a0_1, .str a0_2, .int .i64 a0_3], .int .i64 a1] ∧ H = []
 ·obtain ⟨a0_0, a0_1, a0_2, a0_3, a1, rfl, rfl⟩ := hx
  right; intro K
  exact iff_of_eq (X_zae.eq a0_0 a0_1 a0_2 a0_3 a1 K).symm
 ·left; intro K h
  simp only [e_zae] at h
  split at h
  ·exact hx ⟨_, _, _, _, _, rfl, rfl⟩
  ·exact h
noncomputable def e_zbm : Entry := ⟨[some .u32, some .u32], false, fun args H K => match args, H with
 | [.rsI .u32 a0n a0, .rsI .u32 a1n a1], [] => zbm a0n a0 a1n a1 (fun y0 y1 => K (EV.rsI .u32 y0 y1) [])
 | _, _ => False⟩
noncomputable def l_zbm : List (Nat × Entry) := [(172, e_nat_cut)]
noncomputable def E_zbm : Env := ⟨look tys, look l_zbm, look [(3, zbm.l3.entry), (7, zbm.l7.entry)], gl, yas [], false⟩
theorem zbm.l3X.stepEq (R : List EV → yad → Prop) (K : Ex → List EV → yad → Prop) (x0 : Nat) (x1 : Nat → Int) (x2 : Nat) (x3 : Nat) (x4 : Nat) (x5 : Nat → Int) (x6 : Int) (x7 : Int) (x8 : Nat) (x9 : Nat → Int) : yah (yat E_zbm (yaa Tryz.f136 0) { (LV.mk 32 [(0, 32)] 16 0 false) with nx := live (.loop (yaa Tryz.f136 0)) (LV.mk 32 [(0, 32)] 16 0 false) }) (live (.loop (yaa Tryz.f136 0)) (LV.mk 32 [(0, 32)] 16 0 false)) (LV.mk 32 [(0, 32)] 16 0 false) 0 67 R [EV.rsI .u32 x0 x1, EV.slice 0 0 x2 (some x3) 1, EV.rsI .u32 x4 x5, EV.int .i64 x6, EV.int .i64 x7] [some (EV.arr .u32 x8 x9)] K = zbm.l3.step (fun x0 x1 x2 x3 x4 x5 x6 x7 x8 x9 => R [EV.rsI .u32 x0 x1, EV.slice 0 0 x2 (some x3) 1, EV.rsI .u32 x4 x5, EV.int .i64 x6, EV.int .i64 x7] [some (EV.arr .u32 x8 x9)]) (fun y0 y1 y2 y3 => K (.exit 0) [EV.slice 0 0 y0 (some y1) 1] [some (EV.arr .u32 y2 y3)]) x0 x1 x2 x3 x4 x5 x6 x7 x8 x9 := (yaw _ _ _ _ _ _ _ _ _ _ _).symm.trans (by kernel_rfl)
theorem zbm.l3X.eq (K : Ex → List EV → yad → Prop) : ∀ (n : Nat) (x0 : Nat) (x1 : Nat → Int) (x2 : Nat) (x3 : Nat) (x4 : Nat) (x5 : Nat → Int) (x6 : Int) (x7 : Int) (x8 : Nat) (x9 : Nat → Int), yar E_zbm (yaa Tryz.f136 0) (LV.mk 32 [(0, 32)] 16 0 false) 0 67 K n [EV.rsI .u32 x0 x1, EV.slice 0 0 x2 (some x3) 1, EV.rsI .u32 x4 x5, EV.int .i64 x6, EV.int .i64 x7] [some (EV.arr .u32 x8 x9)] = zbm.l3 (fun y0 y1 y2 y3 => K (.exit 0) [EV.slice 0 0 y0 (some y1) 1] [some (EV.arr .u32 y2 y3)]) n x0 x1 x2 x3 x4 x5 x6 x7 x8 x9
 | 0, _, _, _, _, _, _, _, _, _, _ => rfl
 | n + 1, x0, x1, x2, x3, x4, x5, x6, x7, x8, x9 => by
  have ih : (fun (x0 : Nat) (x1 : Nat → Int) (x2 : Nat) (x3 : Nat) (x4 : Nat) (x5 : Nat → Int) (x6 : Int) (x7 : Int) (x8 : Nat) (x9 : Nat → Int) => yar E_zbm (yaa Tryz.f136 0) (LV.mk 32 [(0, 32)] 16 0 false) 0 67 K n [EV.rsI .u32 x0 x1, EV.slice 0 0 x2 (some x3) 1, EV.rsI .u32 x4 x5, EV.int .i64 x6, EV.int .i64 x7] [some (EV.arr .u32 x8 x9)]) = zbm.l3 (fun y0 y1 y2 y3 => K (.exit 0) [EV.slice 0 0 y0 (some y1) 1] [some (EV.arr .u32 y2 y3)]) n := by funext x0 x1 x2 x3 x4 x5 x6 x7 x8 x9; exact zbm.l3X.eq K n x0 x1 x2 x3 x4 x5 x6 x7 x8 x9
  show yah _ _ _ _ _ (yar E_zbm (yaa Tryz.f136 0) (LV.mk 32 [(0, 32)] 16 0 false) 0 67 K n) [EV.rsI .u32 x0 x1, EV.slice 0 0 x2 (some x3) 1, EV.rsI .u32 x4 x5, EV.int .i64 x6, EV.int .i64 x7] [some (EV.arr .u32 x8 x9)] K = zbm.l3.step (zbm.l3 (fun y0 y1 y2 y3 => K (.exit 0) [EV.slice 0 0 y0 (some y1) 1] [some (EV.arr .u32 y2 y3)]) n) (fun y0 y1 y2 y3 => K (.exit 0) [EV.slice 0 0 y0 (some y1) 1] [some (EV.arr .u32 y2 y3)]) x0 x1 x2 x3 x4 x5 x6 x7 x8 x9
  rw [← ih]
  exact zbm.l3X.stepEq _ K x0 x1 x2 x3 x4 x5 x6 x7 x8 x9
theorem zbm.l3X.ok : LoopEq E_zbm (yaa Tryz.f136 0) := by
 intro L hL vs H
 have h1 : E_zbm.lp (yag (yaa Tryz.f136 0)) = some zbm.l3.entry := by kernel_rfl
 have h2 : L = zbm.l3.entry := Option.some.inj (hL.symm.trans h1)
 subst h2
 by_cases hx : ∃ (x0 : Nat) (x1 : Nat → Int) (x2 : Nat) (x3 : Nat) (x4 : Nat) (x5 : Nat → Int) (x6 : Int) (x7 : Int) (x8 : Nat) (x9 : Nat → Int), vs = [EV.rsI .u32 x0 x1, EV.slice 0 0 x2 (some x3) 1, EV.rsI .u32 x4 x5, EV.int .i64 x6, EV.int .i64 x7] ∧ H = [some (EV.arr .u32 x8 x9)]
 ·obtain ⟨x0, x1, x2, x3, x4, x5, x6, x7, x8, x9, rfl, rfl⟩ := hx
  right; intro K
  exact exists_congr fun n => iff_of_eq (zbm.l3X.eq K n x0 x1 x2 x3 x4 x5 x6 x7 x8 x9).symm
 ·left; intro K h
  simp only [zbm.l3.entry] at h
  split at h
  ·exact hx ⟨_, _, _, _, _, _, _, _, _, _, rfl, rfl⟩
  ·exact h
theorem zbm.l7X.stepEq (R : List EV → yad → Prop) (K : Ex → List EV → yad → Prop) (x0 : Nat) (x1 : Nat → Int) (x2 : Nat) (x3 : Nat) (x4 : Int) (x5 : Int) (x6 : Int) (x7 : Nat) (x8 : Nat → Int) (x9 : Int) (x10 : Int) (x11 : Nat) (x12 : Nat → Int) (x13 : Int) (x14 : Int) (x15 : Nat) (x16 : Nat → Int) : yah (yat E_zbm (yaa Tryz.f136 1) { (LV.mk 917858 [(2, 917858), (1, 917538), (0, 32)] 16 0 false) with nx := live (.loop (yaa Tryz.f136 1)) (LV.mk 917858 [(2, 917858), (1, 917538), (0, 32)] 16 0 false) }) (live (.loop (yaa Tryz.f136 1)) (LV.mk 917858 [(2, 917858), (1, 917538), (0, 32)] 16 0 false)) (LV.mk 917858 [(2, 917858), (1, 917538), (0, 32)] 16 0 false) 0 67 R [EV.rsI .u32 x0 x1, EV.slice 0 0 x2 (some x3) 1, EV.int .i64 x4, EV.int .u32 x5, EV.int .u64 x6, EV.rsI .u32 x7 x8, EV.int .i64 x9, EV.int .i64 x10, EV.rsI .u32 x11 x12, EV.int .i64 x13, EV.int .i64 x14] [some (EV.arr .u32 x15 x16)] K = zbm.l7.step (fun x0 x1 x2 x3 x4 x5 x6 x7 x8 x9 x10 x11 x12 x13 x14 x15 x16 => R [EV.rsI .u32 x0 x1, EV.slice 0 0 x2 (some x3) 1, EV.int .i64 x4, EV.int .u32 x5, EV.int .u64 x6, EV.rsI .u32 x7 x8, EV.int .i64 x9, EV.int .i64 x10, EV.rsI .u32 x11 x12, EV.int .i64 x13, EV.int .i64 x14] [some (EV.arr .u32 x15 x16)]) (fun y0 y1 y2 y3 y4 y5 y6 y7 y8 y9 y10 y11 => K (.exit 2) [EV.rsI .u32 y0 y1, EV.slice 0 0 y2 (some y3) 1, EV.int .i64 y4, EV.int .u64 y5, EV.rsI .u32 y6 y7, EV.int .i64 y8, EV.int .i64 y9] [some (EV.arr .u32 y10 y11)]) x0 x1 x2 x3 x4 x5 x6 x7 x8 x9 x10 x11 x12 x13 x14 x15 x16 := (yaw _ _ _ _ _ _ _ _ _ _ _).symm.trans (by kernel_rfl)
theorem zbm.l7X.eq (K : Ex → List EV → yad → Prop) : ∀ (n : Nat) (x0 : Nat) (x1 : Nat → Int) (x2 : Nat) (x3 : Nat) (x4 : Int) (x5 : Int) (x6 : Int) (x7 : Nat) (x8 : Nat → Int) (x9 : Int) (x10 : Int) (x11 : Nat) (x12 : Nat → Int) (x13 : Int) (x14 : Int) (x15 : Nat) (x16 : Nat → Int), yar E_zbm (yaa Tryz.f136 1) (LV.mk 917858 [(2, 917858), (1, 917538), (0, 32)] 16 0 false) 0 67 K n [EV.rsI .u32 x0 x1, EV.slice 0 0 x2 (some x3) 1, EV.int .i64 x4, EV.int .u32 x5, EV.int .u64 x6, EV.rsI .u32 x7 x8, EV.int .i64 x9, EV.int .i64 x10, EV.rsI .u32 x11 x12, EV.int .i64 x13, EV.int .i64 x14] [some (EV.arr .u32 x15 x16)] = zbm.l7 (fun y0 y1 y2 y3 y4 y5 y6 y7 y8 y9 y10 y11 => K (.exit 2) [EV.rsI .u32 y0 y1, EV.slice 0 0 y2 (some y3) 1, EV.int .i64 y4, EV.int .u64 y5, EV.rsI .u32 y6 y7, EV.int .i64 y8, EV.int .i64 y9] [some (EV.arr .u32 y10 y11)]) n x0 x1 x2 x3 x4 x5 x6 x7 x8 x9 x10 x11 x12 x13 x14 x15 x16
 | 0, _, _, _, _, _, _, _, _, _, _, _, _, _, _, _, _, _ => rfl
 | n + 1, x0, x1, x2, x3, x4, x5, x6, x7, x8, x9, x10, x11, x12, x13, x14, x15, x16 => by
  have ih : (fun (x0 : Nat) (x1 : Nat → Int) (x2 : Nat) (x3 : Nat) (x4 : Int) (x5 : Int) (x6 : Int) (x7 : Nat) (x8 : Nat → Int) (x9 : Int) (x10 : Int) (x11 : Nat) (x12 : Nat → Int) (x13 : Int) (x14 : Int) (x15 : Nat) (x16 : Nat → Int) => yar E_zbm (yaa Tryz.f136 1) (LV.mk 917858 [(2, 917858), (1, 917538), (0, 32)] 16 0 false) 0 67 K n [EV.rsI .u32 x0 x1, EV.slice 0 0 x2 (some x3) 1, EV.int .i64 x4, EV.int .u32 x5, EV.int .u64 x6, EV.rsI .u32 x7 x8, EV.int .i64 x9, EV.int .i64 x10, EV.rsI .u32 x11 x12, EV.int .i64 x13, EV.int .i64 x14] [some (EV.arr .u32 x15 x16)]) = zbm.l7 (fun y0 y1 y2 y3 y4 y5 y6 y7 y8 y9 y10 y11 => K (.exit 2) [EV.rsI .u32 y0 y1, EV.slice 0 0 y2 (some y3) 1, EV.int .i64 y4, EV.int .u64 y5, EV.rsI .u32 y6 y7, EV.int .i64 y8, EV.int .i64 y9] [some (EV.arr .u32 y10 y11)]) n := by funext x0 x1 x2 x3 x4 x5 x6 x7 x8 x9 x10 x11 x12 x13 x14 x15 x16; exact zbm.l7X.eq K n x0 x1 x2 x3 x4 x5 x6 x7 x8 x9 x10 x11 x12 x13 x14 x15 x16
  show yah _ _ _ _ _ (yar E_zbm (yaa Tryz.f136 1) (LV.mk 917858 [(2, 917858), (1, 917538), (0, 32)] 16 0 false) 0 67 K n) [EV.rsI .u32 x0 x1, EV.slice 0 0 x2 (some x3) 1, EV.int .i64 x4, EV.int .u32 x5, EV.int .u64 x6, EV.rsI .u32 x7 x8, EV.int .i64 x9, EV.int .i64 x10, EV.rsI .u32 x11 x12, EV.int .i64 x13, EV.int .i64 x14] [some (EV.arr .u32 x15 x16)] K = zbm.l7.step (zbm.l7 (fun y0 y1 y2 y3 y4 y5 y6 y7 y8 y9 y10 y11 => K (.exit 2) [EV.rsI .u32 y0 y1, EV.slice 0 0 y2 (some y3) 1, EV.int .i64 y4, EV.int .u64 y5, EV.rsI .u32 y6 y7, EV.int .i64 y8, EV.int .i64 y9] [some (EV.arr .u32 y10 y11)]) n) (fun y0 y1 y2 y3 y4 y5 y6 y7 y8 y9 y10 y11 => K (.exit 2) [EV.rsI .u32 y0 y1, EV.slice 0 0 y2 (some y3) 1, EV.int .i64 y4, EV.int .u64 y5, EV.rsI .u32 y6 y7, EV.int .i64 y8, EV.int .i64 y9] [some (EV.arr .u32 y10 y11)]) x0 x1 x2 x3 x4 x5 x6 x7 x8 x9 x10 x11 x12 x13 x14 x15 x16
  rw [← ih]
  exact zbm.l7X.stepEq _ K x0 x1 x2 x3 x4 x5 x6 x7 x8 x9 x10 x11 x12 x13 x14 x15 x16
theorem zbm.l7X.ok : LoopEq E_zbm (yaa Tryz.f136 1) := by
 intro L hL vs H
 have h1 : E_zbm.lp (yag (yaa Tryz.f136 1)) = some zbm.l7.entry := by kernel_rfl
 have h2 : L = zbm.l7.entry := Option.some.inj (hL.symm.trans h1)
 subst h2
 by_cases hx : ∃ (x0 : Nat) (x1 : Nat → Int) (x2 : Nat) (x3 : Nat) (x4 : Int) (x5 : Int) (x6 : Int) (x7 : Nat) (x8 : Nat → Int) (x9 : Int) (x10 : Int) (x11 : Nat) (x12 : Nat → Int) (x13 : Int) (x14 : Int) (x15 : Nat) (x16 : Nat → Int), vs = [EV.rsI .u32 x0 x1, EV.slice 0 0 x2 (some x3) 1, EV.int .i64 x4, EV.int .u32 x5, EV.int .u64 x6, EV.rsI .u32 x7 x8, EV.int .i64 x9, EV.int .i64 x10, EV.rsI .u32 x11 x12, EV.int .i64 x13, EV.int .i64 x14] ∧ H = [some (EV.arr .u32 x15 x16)]
 ·obtain ⟨x0, x1, x2, x3, x4, x5, x6, x7, x8, x9, x10, x11, x12, x13, x14, x15, x16, rfl, rfl⟩ := hx
  right; intro K
  exact exists_congr fun n => iff_of_eq (zbm.l7X.eq K n x0 x1 x2 x3 x4 x5 x6 x7 x8 x9 x10 x11 x12 x13 x14 x15 x16).symm
 ·left; intro K h
  simp only [zbm.l7.entry] at h
  split at h
  ·exact hx ⟨_, _, _, _, _, _, _, _, _, _, _, _, _, _, _, _, _, rfl, rfl⟩
  ·exact h
theorem X_zbm.eq (a0n : Nat) (a0 : Nat → Int) (a1n : Nat) (a1 : Nat → Int) (K : EV → yad → Prop) : yaJ E_zbm Tryz.f136 false [.rsI .u32 a0n a0, .rsI .u32 a1n a1] [] K = zbm a0n a0 a1n a1 (fun y0 y1 => K (EV.rsI .u32 y0 y1) []) := by
 rw [zbm.is]; exact (yac _ _ _ _ _ _).symm.trans (by kernel_rfl)
theorem X_zbm.ok : SoundE Tryz.prog gl 136 e_zbm := by
 refine yaM (E := E_zbm) (fn := Tryz.f136) rfl tys_ok rfl (show yaK _ l_zbm from ⟨X_nat_cut.ok, trivial⟩) mixed (by kernel_rfl) (by kernel_rfl) (by kernel_rfl) 2 (by kernel_rfl) false ⟨zbm.l3X.ok, zbm.l7X.ok, trivial⟩ ?_
 intro args H
 by_cases hx : ∃ (a0n : Nat) (a0 : Nat → Int) (a1n : Nat) (a1 : Nat → Int), args = [.rsI .u32 a0n a0, .rsI .u32 a1n a1] ∧ H = []
 ·obtain ⟨a0n, a0, a1n, a1, rfl, rfl⟩ := hx
  right; intro K
  exact iff_of_eq (X_zbm.eq a0n a0 a1n a1 K).symm
 ·left; intro K h
  simp only [e_zbm] at h
  split at h
  ·exact hx ⟨_, _, _, _, rfl, rfl⟩
  ·exact h
end Go.Ev.S
