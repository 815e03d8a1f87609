/- The functions of the seat: that the evaluator has them as they are. -/
import Derived.Test.YtfglhfahphncdaaGreatDoorProg
import Derived.Test.YtfglhfahphncdaaGreatDoorEvC
import Derived.Test.YtfglhfahphncdaaGreatDoorDA
import Derived.KernelRfl
set_option maxRecDepth 100000
set_option linter.unusedVariables false
set_option linter.unusedSimpArgs false
namespace Go.Ev.S
open Go Go.Proofs Go.Ev
def tys : List (Nat × TI) := [
 (1, ⟨.func, 1, 8, .nilFunc⟩),
 (2, ⟨.int .i64, 1, 8, .int .i64 0⟩),
 (3, ⟨.int .i64, 1, 8, .int .i64 0⟩),
 (4, ⟨.bool, 1, 1, .bool false⟩),
 (5, ⟨.int .u8, 1, 1, .int .u8 0⟩),
 (6, ⟨.int .u8, 1, 1, .int .u8 0⟩),
 (7, ⟨.struct [(0, 2), (1, 3), (2, 4), (3, 6)], 4, 24, .agg [.int .i64 0, .int .i64 0, .bool false, .int .u8 0]⟩),
 (8, ⟨.struct [(0, 2), (1, 3), (2, 4), (3, 6)], 4, 24, .agg [.int .i64 0, .int .i64 0, .bool false, .int .u8 0]⟩),
 (9, ⟨.str, 1, 16, .str []⟩),
 (10, ⟨.str, 1, 16, .str []⟩),
 (11, ⟨.str, 1, 16, .str []⟩),
 (12, ⟨.int .u64, 1, 8, .int .u64 0⟩),
 (15, ⟨.ptr, 1, 8, .nilPtr⟩),
 (16, ⟨.ptr, 1, 8, .nilPtr⟩),
 (17, ⟨.ptr, 1, 8, .nilPtr⟩),
 (21, ⟨.int .i32, 1, 4, .int .i32 0⟩),
 (22, ⟨.int .u8, 1, 1, .int .u8 0⟩),
 (23, ⟨.int .u8, 1, 1, .int .u8 0⟩),
 (24, ⟨.int .u64, 1, 8, .int .u64 0⟩),
 (25, ⟨.array 6 24, 6, 48, .arr .u64 6 (fun _ => 0)⟩),
 (26, ⟨.array 6 24, 6, 48, .arr .u64 6 (fun _ => 0)⟩),
 (27, ⟨.struct [(0, 4), (1, 26), (7, 3), (8, 4)], 9, 72, .agg [.bool false, .arr .u64 6 (fun _ => 0), .int .i64 0, .bool false]⟩),
 (28, ⟨.struct [(0, 4), (1, 26), (7, 3), (8, 4)], 9, 72, .agg [.bool false, .arr .u64 6 (fun _ => 0), .int .i64 0, .bool false]⟩),
 (29, ⟨.struct [(0, 24), (1, 24)], 2, 16, .agg [.int .u64 0, .int .u64 0]⟩),
 (30, ⟨.struct [(0, 24), (1, 24)], 2, 16, .agg [.int .u64 0, .int .u64 0]⟩),
 (31, ⟨.int .u8, 1, 1, .int .u8 0⟩),
 (32, ⟨.int .i64, 1, 8, .int .i64 0⟩),
 (34, ⟨.func, 1, 8, .nilFunc⟩),
 (36, ⟨.func, 1, 8, .nilFunc⟩),
 (37, ⟨.func, 1, 8, .nilFunc⟩),
 (38, ⟨.func, 1, 8, .nilFunc⟩),
 (39, ⟨.str, 1, 16, .str []⟩),
 (40, ⟨.struct [(0, 4), (1, 39), (2, 39), (3, 3)], 4, 48, .agg [.bool false, .str [], .str [], .int .i64 0]⟩),
 (41, ⟨.struct [(0, 4), (1, 39), (2, 39), (3, 3)], 4, 48, .agg [.bool false, .str [], .str [], .int .i64 0]⟩),
 (43, ⟨.func, 1, 8, .nilFunc⟩),
 (44, ⟨.func, 1, 8, .nilFunc⟩),
 (46, ⟨.func, 1, 8, .nilFunc⟩),
 (48, ⟨.func, 1, 8, .nilFunc⟩),
 (49, ⟨.func, 1, 8, .nilFunc⟩),
 (50, ⟨.func, 1, 8, .nilFunc⟩),
 (52, ⟨.func, 1, 8, .nilFunc⟩),
 (53, ⟨.func, 1, 8, .nilFunc⟩),
 (54, ⟨.func, 1, 8, .nilFunc⟩),
 (55, ⟨.func, 1, 8, .nilFunc⟩),
 (57, ⟨.func, 1, 8, .nilFunc⟩),
 (58, ⟨.func, 1, 8, .nilFunc⟩),
 (59, ⟨.func, 1, 8, .nilFunc⟩),
 (60, ⟨.func, 1, 8, .nilFunc⟩),
 (61, ⟨.func, 1, 8, .nilFunc⟩),
 (62, ⟨.func, 1, 8, .nilFunc⟩),
 (63, ⟨.func, 1, 8, .nilFunc⟩),
 (65, ⟨.func, 1, 8, .nilFunc⟩),
 (66, ⟨.func, 1, 8, .nilFunc⟩),
 (68, ⟨.func, 1, 8, .nilFunc⟩),
 (70, ⟨.func, 1, 8, .nilFunc⟩),
 (71, ⟨.func, 1, 8, .nilFunc⟩),
 (72, ⟨.int .u8, 1, 1, .int .u8 0⟩),
 (73, ⟨.struct [(0, 72), (1, 26), (7, 3), (8, 26)], 14, 112, .agg [.int .u8 0, .arr .u64 6 (fun _ => 0), .int .i64 0, .arr .u64 6 (fun _ => 0)]⟩),
 (74, ⟨.struct [(0, 72), (1, 26), (7, 3), (8, 26)], 14, 112, .agg [.int .u8 0, .arr .u64 6 (fun _ => 0), .int .i64 0, .arr .u64 6 (fun _ => 0)]⟩),
 (76, ⟨.func, 1, 8, .nilFunc⟩),
 (77, ⟨.func, 1, 8, .nilFunc⟩),
 (78, ⟨.func, 1, 8, .nilFunc⟩),
 (79, ⟨.func, 1, 8, .nilFunc⟩),
 (80, ⟨.func, 1, 8, .nilFunc⟩),
 (81, ⟨.func, 1, 8, .nilFunc⟩),
 (82, ⟨.func, 1, 8, .nilFunc⟩),
 (83, ⟨.func, 1, 8, .nilFunc⟩),
 (85, ⟨.func, 1, 8, .nilFunc⟩),
 (86, ⟨.func, 1, 8, .nilFunc⟩),
 (87, ⟨.func, 1, 8, .nilFunc⟩),
 (88, ⟨.func, 1, 8, .nilFunc⟩),
 (89, ⟨.func, 1, 8, .nilFunc⟩),
 (90, ⟨.func, 1, 8, .nilFunc⟩),
 (92, ⟨.func, 1, 8, .nilFunc⟩),
 (93, ⟨.func, 1, 8, .nilFunc⟩),
 (94, ⟨.func, 1, 8, .nilFunc⟩),
 (95, ⟨.func, 1, 8, .nilFunc⟩),
 (96, ⟨.func, 1, 8, .nilFunc⟩),
 (98, ⟨.func, 1, 8, .nilFunc⟩),
 (99, ⟨.func, 1, 8, .nilFunc⟩),
 (100, ⟨.func, 1, 8, .nilFunc⟩),
 (102, ⟨.func, 1, 8, .nilFunc⟩),
 (104, ⟨.func, 1, 8, .nilFunc⟩),
 (105, ⟨.func, 1, 8, .nilFunc⟩),
 (106, ⟨.func, 1, 8, .nilFunc⟩),
 (107, ⟨.func, 1, 8, .nilFunc⟩),
 (108, ⟨.func, 1, 8, .nilFunc⟩),
 (109, ⟨.func, 1, 8, .nilFunc⟩),
 (110, ⟨.func, 1, 8, .nilFunc⟩),
 (111, ⟨.func, 1, 8, .nilFunc⟩),
 (112, ⟨.func, 1, 8, .nilFunc⟩),
 (114, ⟨.func, 1, 8, .nilFunc⟩),
 (116, ⟨.func, 1, 8, .nilFunc⟩),
 (117, ⟨.func, 1, 8, .nilFunc⟩),
 (118, ⟨.func, 1, 8, .nilFunc⟩),
 (119, ⟨.slice 5, 1, 24, .nilSlice⟩),
 (120, ⟨.func, 1, 8, .nilFunc⟩),
 (121, ⟨.int .u64, 1, 8, .int .u64 0⟩),
 (122, ⟨.func, 1, 8, .nilFunc⟩),
 (123, ⟨.func, 1, 8, .nilFunc⟩),
 (124, ⟨.func, 1, 8, .nilFunc⟩),
 (126, ⟨.func, 1, 8, .nilFunc⟩),
 (127, ⟨.func, 1, 8, .nilFunc⟩),
 (128, ⟨.func, 1, 8, .nilFunc⟩),
 (129, ⟨.struct [(0, 41), (4, 4)], 5, 56, .agg [.agg [.bool false, .str [], .str [], .int .i64 0], .bool false]⟩),
 (130, ⟨.struct [(0, 41), (4, 4)], 5, 56, .agg [.agg [.bool false, .str [], .str [], .int .i64 0], .bool false]⟩),
 (131, ⟨.func, 1, 8, .nilFunc⟩),
 (132, ⟨.func, 1, 8, .nilFunc⟩),
 (133, ⟨.func, 1, 8, .nilFunc⟩),
 (135, ⟨.func, 1, 8, .nilFunc⟩),
 (136, ⟨.func, 1, 8, .nilFunc⟩),
 (137, ⟨.func, 1, 8, .nilFunc⟩),
 (139, ⟨.func, 1, 8, .nilFunc⟩),
 (140, ⟨.func, 1, 8, .nilFunc⟩),
 (141, ⟨.func, 1, 8, .nilFunc⟩),
 (142, ⟨.func, 1, 8, .nilFunc⟩),
 (144, ⟨.func, 1, 8, .nilFunc⟩),
 (145, ⟨.func, 1, 8, .nilFunc⟩),
 (146, ⟨.func, 1, 8, .nilFunc⟩),
 (148, ⟨.func, 1, 8, .nilFunc⟩),
 (149, ⟨.func, 1, 8, .nilFunc⟩),
 (151, ⟨.func, 1, 8, .nilFunc⟩),
 (152, ⟨.func, 1, 8, .nilFunc⟩),
 (153, ⟨.func, 1, 8, .nilFunc⟩),
 (154, ⟨.func, 1, 8, .nilFunc⟩),
 (155, ⟨.func, 1, 8, .nilFunc⟩),
 (157, ⟨.func, 1, 8, .nilFunc⟩),
 (159, ⟨.func, 1, 8, .nilFunc⟩),
 (160, ⟨.slice 161, 1, 24, .nilSlice⟩),
 (161, ⟨.int .u32, 1, 4, .int .u32 0⟩),
 (162, ⟨.func, 1, 8, .nilFunc⟩),
 (163, ⟨.func, 1, 8, .nilFunc⟩),
 (164, ⟨.func, 1, 8, .nilFunc⟩),
 (165, ⟨.func, 1, 8, .nilFunc⟩),
 (166, ⟨.func, 1, 8, .nilFunc⟩),
 (167, ⟨.func, 1, 8, .nilFunc⟩),
 (168, ⟨.func, 1, 8, .nilFunc⟩),
 (169, ⟨.func, 1, 8, .nilFunc⟩),
 (170, ⟨.func, 1, 8, .nilFunc⟩),
 (172, ⟨.func, 1, 8, .nilFunc⟩),
 (173, ⟨.func, 1, 8, .nilFunc⟩),
 (175, ⟨.func, 1, 8, .nilFunc⟩),
 (177, ⟨.func, 1, 8, .nilFunc⟩),
 (179, ⟨.func, 1, 8, .nilFunc⟩),
 (183, ⟨.func, 1, 8, .nilFunc⟩),
 (184, ⟨.func, 1, 8, .nilFunc⟩),
 (186, ⟨.func, 1, 8, .nilFunc⟩),
 (188, ⟨.func, 1, 8, .nilFunc⟩),
 (189, ⟨.func, 1, 8, .nilFunc⟩),
 (190, ⟨.func, 1, 8, .nilFunc⟩),
 (191, ⟨.struct [(0, 3), (1, 3), (2, 3), (3, 9)], 4, 40, .agg [.int .i64 0, .int .i64 0, .int .i64 0, .str []]⟩),
 (192, ⟨.array 4 191, 16, 160, .agg [.agg [.int .i64 0, .int .i64 0, .int .i64 0, .str []], .agg [.int .i64 0, .int .i64 0, .int .i64 0, .str []], .agg [.int .i64 0, .int .i64 0, .int .i64 0, .str []], .agg [.int .i64 0, .int .i64 0, .int .i64 0, .str []]]⟩),
 (193, ⟨.func, 1, 8, .nilFunc⟩),
 (194, ⟨.func, 1, 8, .nilFunc⟩),
 (195, ⟨.func, 1, 8, .nilFunc⟩),
 (196, ⟨.func, 1, 8, .nilFunc⟩),
 (197, ⟨.struct [(0, 9), (1, 3), (2, 3), (3, 4)], 4, 40, .agg [.str [], .int .i64 0, .int .i64 0, .bool false]⟩),
 (198, ⟨.struct [(0, 9), (1, 3), (2, 3), (3, 4)], 4, 40, .agg [.str [], .int .i64 0, .int .i64 0, .bool false]⟩),
 (199, ⟨.func, 1, 8, .nilFunc⟩),
 (200, ⟨.func, 1, 8, .nilFunc⟩),
 (201, ⟨.func, 1, 8, .nilFunc⟩),
 (202, ⟨.func, 1, 8, .nilFunc⟩),
 (203, ⟨.func, 1, 8, .nilFunc⟩),
 (205, ⟨.func, 1, 8, .nilFunc⟩),
 (206, ⟨.func, 1, 8, .nilFunc⟩),
 (207, ⟨.func, 1, 8, .nilFunc⟩),
 (208, ⟨.func, 1, 8, .nilFunc⟩),
 (209, ⟨.func, 1, 8, .nilFunc⟩),
 (210, ⟨.func, 1, 8, .nilFunc⟩),
 (211, ⟨.func, 1, 8, .nilFunc⟩),
 (212, ⟨.func, 1, 8, .nilFunc⟩),
 (213, ⟨.func, 1, 8, .nilFunc⟩),
 (214, ⟨.func, 1, 8, .nilFunc⟩),
 (216, ⟨.func, 1, 8, .nilFunc⟩),
 (217, ⟨.func, 1, 8, .nilFunc⟩),
 (218, ⟨.func, 1, 8, .nilFunc⟩),
 (219, ⟨.func, 1, 8, .nilFunc⟩),
 (220, ⟨.func, 1, 8, .nilFunc⟩),
 (221, ⟨.array 24 5, 24, 24, .arr .u8 24 (fun _ => 0)⟩),
 (222, ⟨.func, 1, 8, .nilFunc⟩),
 (224, ⟨.func, 1, 8, .nilFunc⟩),
 (225, ⟨.func, 1, 8, .nilFunc⟩),
 (226, ⟨.int .i64, 1, 8, .int .i64 0⟩),
 (228, ⟨.func, 1, 8, .nilFunc⟩),
 (229, ⟨.ptr, 1, 8, .nilPtr⟩),
 (230, ⟨.func, 1, 8, .nilFunc⟩),
 (231, ⟨.func, 1, 8, .nilFunc⟩),
 (232, ⟨.array 64 5, 64, 64, .arr .u8 64 (fun _ => 0)⟩),
 (233, ⟨.func, 1, 8, .nilFunc⟩),
 (234, ⟨.func, 1, 8, .nilFunc⟩),
 (235, ⟨.array 20 24, 20, 160, .arr .u64 20 (fun _ => 0)⟩),
 (236, ⟨.array 65 5, 65, 65, .arr .u8 65 (fun _ => 0)⟩),
 (237, ⟨.func, 1, 8, .nilFunc⟩),
 (239, ⟨.func, 1, 8, .nilFunc⟩),
 (240, ⟨.func, 1, 8, .nilFunc⟩),
 (243, ⟨.func, 1, 8, .nilFunc⟩),
 (244, ⟨.func, 1, 8, .nilFunc⟩),
 (246, ⟨.func, 1, 8, .nilFunc⟩),
 (247, ⟨.func, 1, 8, .nilFunc⟩),
 (248, ⟨.ptr, 1, 8, .nilPtr⟩),
 (249, ⟨.ptr, 1, 8, .nilPtr⟩),
 (250, ⟨.struct [(0, 9)], 1, 16, .agg [.str []]⟩),
 (251, ⟨.struct [(0, 9)], 1, 16, .agg [.str []]⟩),
 (252, ⟨.array 32 5, 32, 32, .arr .u8 32 (fun _ => 0)⟩),
 (253, ⟨.func, 1, 8, .nilFunc⟩),
 (256, ⟨.array 0 16, 0, 0, .agg []⟩),
 (259, ⟨.int .u8, 1, 1, .int .u8 0⟩),
 (260, ⟨.int .u8, 1, 1, .int .u8 0⟩),
 (261, ⟨.func, 1, 8, .nilFunc⟩),
 (262, ⟨.int .i32, 1, 4, .int .i32 0⟩),
 (263, ⟨.int .i32, 1, 4, .int .i32 0⟩)]
theorem tys_ok : yaP (OkTI Tryz.prog) tys :=
 ⟨.of (by kernel_rfl) (by kernel_rfl), .of (by kernel_rfl) (by kernel_rfl), .of (by kernel_rfl) (by kernel_rfl), .of (by kernel_rfl) (by kernel_rfl), .of (by kernel_rfl) (by kernel_rfl), .of (by kernel_rfl) (by kernel_rfl), .of (by kernel_rfl) (by kernel_rfl), .of (by kernel_rfl) (by kernel_rfl), .of (by kernel_rfl) (by kernel_rfl), .of (by kernel_rfl) (by kernel_rfl), .of (by kernel_rfl) (by kernel_rfl), .of (by kernel_rfl) (by kernel_rfl), .of (by kernel_rfl) (by kernel_rfl), .of (by kernel_rfl) (by kernel_rfl), .of (by kernel_rfl) (by kernel_rfl), .of (by kernel_rfl) (by kernel_rfl), .of (by kernel_rfl) (by kernel_rfl), .of (by kernel_rfl) (by kernel_rfl), .of (by kernel_rfl) (by kernel_rfl), .of (by kernel_rfl) (by kernel_rfl), .of (by kernel_rfl) (by kernel_rfl), .of (by kernel_rfl) (by kernel_rfl), .of (by kernel_rfl) (by kernel_rfl), .of (by kernel_rfl) (by kernel_rfl), .of (by kernel_rfl) (by kernel_rfl), .of (by kernel_rfl) (by kernel_rfl), .of (by kernel_rfl) (by kernel_rfl), .of (by kernel_rfl) (by kernel_rfl), .of (by kernel_rfl) (by kernel_rfl), .of (by kernel_rfl) (by kernel_rfl), .of (by kernel_rfl) (by kernel_rfl), .of (by kernel_rfl) (by kernel_rfl), .of (by kernel_rfl) (by kernel_rfl), .of (by kernel_rfl) (by kernel_rfl), .of (by kernel_rfl) (by kernel_rfl), .of (by kernel_rfl) (by kernel_rfl), .of (by kernel_rfl) (by kernel_rfl), .of (by kernel_rfl) (by kernel_rfl), .of (by kernel_rfl) (by kernel_rfl), .of (by kernel_rfl) (by kernel_rfl), .of (by kernel_rfl) (by kernel_rfl), .of (by kernel_rfl) (by kernel_rfl), .of (by kernel_rfl) (by kernel_rfl), .of (by kernel_rfl) (by kernel_rfl), .of (by kernel_rfl) (by kernel_rfl), .of (by kernel_rfl) (by kernel_rfl), .of (by kernel_rfl) (by kernel_rfl), .of (by kernel_rfl) (by kernel_rfl), .of (by kernel_rfl) (by kernel_rfl), .of (by kernel_rfl) (by kernel_rfl), .of (by kernel_rfl) (by kernel_rfl), .of (by kernel_rfl) (by kernel_rfl), .of (by kernel_rfl) (by kernel_rfl), .of (by kernel_rfl) (by kernel_rfl), .of (by kernel_rfl) (by kernel_rfl), .of (by kernel_rfl) (by kernel_rfl), .of (by kernel_rfl) (by kernel_rfl), .of (by kernel_rfl) (by kernel_rfl), .of (by kernel_rfl) (by kernel_rfl), .of (by kernel_rfl) (by kernel_rfl), .of (by kernel_rfl) (by kernel_rfl), .of (by kernel_rfl) (by kernel_rfl), .of (by kernel_rfl) (by kernel_rfl), .of (by kernel_rfl) (by kernel_rfl), .of (by kernel_rfl) (by kernel_rfl), .of (by kernel_rfl) (by kernel_rfl), .of (by kernel_rfl) (by kernel_rfl), .of (by kernel_rfl) (by kernel_rfl), .of (by kernel_rfl) (by kernel_rfl), .of (by kernel_rfl) (by kernel_rfl), .of (by kernel_rfl) (by kernel_rfl), .of (by kernel_rfl) (by kernel_rfl), .of (by kernel_rfl) (by kernel_rfl), .of (by kernel_rfl) (by kernel_rfl), .of (by kernel_rfl) (by kernel_rfl), .of (by kernel_rfl) (by kernel_rfl), .of (by kernel_rfl) (by kernel_rfl), .of (by kernel_rfl) (by kernel_rfl), .of (by kernel_rfl) (by kernel_rfl), .of (by kernel_rfl) (by kernel_rfl), .of (by kernel_rfl) (by kernel_rfl), .of (by kernel_rfl) (by kernel_rfl), .of (by kernel_rfl) (by kernel_rfl), .of (by kernel_rfl) (by kernel_rfl), .of (by kernel_rfl) (by kernel_rfl), .of (by kernel_rfl) (by kernel_rfl), .of (by kernel_rfl) (by kernel_rfl), .of (by kernel_rfl) (by kernel_rfl), .of (by kernel_rfl) (by kernel_rfl), .of (by kernel_rfl) (by kernel_rfl), .of (by kernel_rfl) (by kernel_rfl), .of (by kernel_rfl) (by kernel_rfl), .of (by kernel_rfl) (by kernel_rfl), .of (by kernel_rfl) (by kernel_rfl), .of (by kernel_rfl) (by kernel_rfl), .of (by kernel_rfl) (by kernel_rfl), .of (by kernel_rfl) (by kernel_rfl), .of (by kernel_rfl) (by kernel_rfl), .of (by kernel_rfl) (by kernel_rfl), .of (by kernel_rfl) (by kernel_rfl), .of (by kernel_rfl) (by kernel_rfl), .of (by kernel_rfl) (by kernel_rfl), .of (by kernel_rfl) (by kernel_rfl), .of (by kernel_rfl) (by kernel_rfl), .of (by kernel_rfl) (by kernel_rfl), .of (by kernel_rfl) (by kernel_rfl), .of (by kernel_rfl) (by kernel_rfl), .of (by kernel_rfl) (by kernel_rfl), .of (by kernel_rfl) (by kernel_rfl), .of (by kernel_rfl) (by kernel_rfl), .of (by kernel_rfl) (by kernel_rfl), .of (by kernel_rfl) (by kernel_rfl), .of (by kernel_rfl) (by kernel_rfl), .of (by kernel_rfl) (by kernel_rfl), .of (by kernel_rfl) (by kernel_rfl), .of (by kernel_rfl) (by kernel_rfl), .of (by kernel_rfl) (by kernel_rfl), .of (by kernel_rfl) (by kernel_rfl), .of (by kernel_rfl) (by kernel_rfl), .of (by kernel_rfl) (by kernel_rfl), .of (by kernel_rfl) (by kernel_rfl), .of (by kernel_rfl) (by kernel_rfl), .of (by kernel_rfl) (by kernel_rfl), .of (by kernel_rfl) (by kernel_rfl), .of (by kernel_rfl) (by kernel_rfl), .of (by kernel_rfl) (by kernel_rfl), .of (by kernel_rfl) (by kernel_rfl), .of (by kernel_rfl) (by kernel_rfl), .of (by kernel_rfl) (by kernel_rfl), .of (by kernel_rfl) (by kernel_rfl), .of (by kernel_rfl) (by kernel_rfl), .of (by kernel_rfl) (by kernel_rfl), .of (by kernel_rfl) (by kernel_rfl), .of (by kernel_rfl) (by kernel_rfl), .of (by kernel_rfl) (by kernel_rfl), .of (by kernel_rfl) (by kernel_rfl), .of (by kernel_rfl) (by kernel_rfl), .of (by kernel_rfl) (by kernel_rfl), .of (by kernel_rfl) (by kernel_rfl), .of (by kernel_rfl) (by kernel_rfl), .of (by kernel_rfl) (by kernel_rfl), .of (by kernel_rfl) (by kernel_rfl), .of (by kernel_rfl) (by kernel_rfl), .of (by kernel_rfl) (by kernel_rfl), .of (by kernel_rfl) (by kernel_rfl), .of (by kernel_rfl) (by kernel_rfl), .of (by kernel_rfl) (by kernel_rfl), .of (by kernel_rfl) (by kernel_rfl), .of (by kernel_rfl) (by kernel_rfl), .of (by kernel_rfl) (by kernel_rfl), .of (by kernel_rfl) (by kernel_rfl), .of (by kernel_rfl) (by kernel_rfl), .of (by kernel_rfl) (by kernel_rfl), .of (by kernel_rfl) (by kernel_rfl), .of (by kernel_rfl) (by kernel_rfl), .of (by kernel_rfl) (by kernel_rfl), .of (by kernel_rfl) (by kernel_rfl), .of (by kernel_rfl) (by kernel_rfl), .of (by kernel_rfl) (by kernel_rfl), .of (by kernel_rfl) (by kernel_rfl), .of (by kernel_rfl) (by kernel_rfl), .of (by kernel_rfl) (by kernel_rfl), .of (by kernel_rfl) (by kernel_rfl), .of (by kernel_rfl) (by kernel_rfl), .of (by kernel_rfl) (by kernel_rfl), .of (by kernel_rfl) (by kernel_rfl), .of (by kernel_rfl) (by kernel_rfl), .of (by kernel_rfl) (by kernel_rfl), .of (by kernel_rfl) (by kernel_rfl), .of (by kernel_rfl) (by kernel_rfl), .of (by kernel_rfl) (by kernel_rfl), .of (by kernel_rfl) (by kernel_rfl), .of (by kernel_rfl) (by kernel_rfl), .of (by kernel_rfl) (by kernel_rfl), .of (by kernel_rfl) (by kernel_rfl), .of (by kernel_rfl) (by kernel_rfl), .of (by kernel_rfl) (by kernel_rfl), .of (by kernel_rfl) (by kernel_rfl), .of (by kernel_rfl) (by kernel_rfl), .of (by kernel_rfl) (by kernel_rfl), .of (by kernel_rfl) (by kernel_rfl), .of (by kernel_rfl) (by kernel_rfl), .of (by kernel_rfl) (by kernel_rfl), .of (by kernel_rfl) (by kernel_rfl), .of (by kernel_rfl) (by kernel_rfl), .of (by kernel_rfl) (by kernel_rfl), .of (by kernel_rfl) (by kernel_rfl), .of (by kernel_rfl) (by kernel_rfl), .of (by kernel_rfl) (by kernel_rfl), .of (by kernel_rfl) (by kernel_rfl), .of (by kernel_rfl) (by kernel_rfl), .of (by kernel_rfl) (by kernel_rfl), .of (by kernel_rfl) (by kernel_rfl), .of (by kernel_rfl) (by kernel_rfl), .of (by kernel_rfl) (by kernel_rfl), .of (by kernel_rfl) (by kernel_rfl), .of (by kernel_rfl) (by kernel_rfl), .of (by kernel_rfl) (by kernel_rfl), .of (by kernel_rfl) (by kernel_rfl), .of (by kernel_rfl) (by kernel_rfl), .of (by kernel_rfl) (by kernel_rfl), .of (by kernel_rfl) (by kernel_rfl), .of (by kernel_rfl) (by kernel_rfl), .of (by kernel_rfl) (by kernel_rfl), .of (by kernel_rfl) (by kernel_rfl), .of (by kernel_rfl) (by kernel_rfl), .of (by kernel_rfl) (by kernel_rfl), .of (by kernel_rfl) (by kernel_rfl), .of (by kernel_rfl) (by kernel_rfl), .of (by kernel_rfl) (by kernel_rfl), .of (by kernel_rfl) (by kernel_rfl), trivial⟩
theorem mixed : Tryz.prog.follows .mixedOrders = true := by kernel_rfl
noncomputable def gl : Nat → Option EV := look [(0, .arr .u8 64 ybi)]
noncomputable def e_zds : Entry := ⟨[none], false, fun args H K => match args, H with
 | [.int .u8 a0], [] => zds a0 (fun y0 y1 y2 y3 => K (EV.tuple [EV.int .i64 y0, EV.int .i64 y1, EV.int .i64 y2, EV.str y3]) [])
 | _, _ => False⟩
noncomputable def E_zds : Env := ⟨look tys, look [], look [], gl, yat [], false⟩
theorem X_zds.eq (a0 : Int) (K : EV → yae → Prop) : yaO E_zds Tryz.f103 false [.int .u8 a0] [] K = zds a0 (fun y0 y1 y2 y3 => K (EV.tuple [EV.int .i64 y0, EV.int .i64 y1, EV.int .i64 y2, EV.str y3]) []) := by
 rw [zds.is]; exact (yad _ _ _ _ _ _).symm.trans (by kernel_rfl)
theorem X_zds.ok : SoundE Tryz.prog gl 103 e_zds := by
 refine yaS (E := E_zds) (fn := Tryz.f103) rfl tys_ok rfl (show yaP _ [] from trivial) mixed (by kernel_rfl) (by kernel_rfl) (by kernel_rfl) 0 (by kernel_rfl) false trivial ?_
 intro args H
 by_cases hx : ∃ (a0 : Int), args = [.int .u8 a0] ∧ H = []
 ·obtain ⟨a0, rfl, rfl⟩ := hx
  right; intro K
  exact iff_of_eq (X_zds.eq a0 K).symm
 ·left; intro K h
  simp only [e_zds] at h
  split at h
  ·exact hx ⟨_, rfl, rfl⟩
  ·exact h
noncomputable def e_zdn : Entry := ⟨[none], false, fun args H K => match args, H with
 | [.int .u8 a0], [] => zdn a0 (fun y0 => K (EV.int .i64 y0) [])
 | _, _ => False⟩
noncomputable def l_zdn : List (Nat × Entry) := [(103, e_zds)]
noncomputable def E_zdn : Env := ⟨look tys, look l_zdn, look [], gl, yat [], false⟩
theorem X_zdn.eq (a0 : Int) (K : EV → yae → Prop) : yaO E_zdn Tryz.f35 false [.int .u8 a0] [] K = zdn a0 (fun y0 => K (EV.int .i64 y0) []) := by
 rw [zdn.is]; exact (yad _ _ _ _ _ _).symm.trans (by kernel_rfl)
theorem X_zdn.ok : SoundE Tryz.prog gl 35 e_zdn := by
 refine yaS (E := E_zdn) (fn := Tryz.f35) rfl tys_ok rfl (show yaP _ l_zdn from ⟨X_zds.ok, trivial⟩) mixed (by kernel_rfl) (by kernel_rfl) (by kernel_rfl) 0 (by kernel_rfl) false trivial ?_
 intro args H
 by_cases hx : ∃ (a0 : Int), args = [.int .u8 a0] ∧ H = []
 ·obtain ⟨a0, rfl, rfl⟩ := hx
  right; intro K
  exact iff_of_eq (X_zdn.eq a0 K).symm
 ·left; intro K h
  simp only [e_zdn] at h
  split at h
  ·exact hx ⟨_, rfl, rfl⟩
  ·exact h
noncomputable def e_zdh : Entry := ⟨[none], false, fun args H K => match args, H with
 | [.int .u8 a0], [] => zdh a0 (fun y0 => K (EV.int .i64 y0) [])
 | _, _ => False⟩
noncomputable def E_zdh : Env := ⟨look tys, look [], look [], gl, yat [], false⟩
theorem X_zdh.eq (a0 : Int) (K : EV → yae → Prop) : yaO E_zdh Tryz.f57 false [.int .u8 a0] [] K = zdh a0 (fun y0 => K (EV.int .i64 y0) []) := by
 rw [zdh.is]; exact (yad _ _ _ _ _ _).symm.trans (by kernel_rfl)
theorem X_zdh.ok : SoundE Tryz.prog gl 57 e_zdh := by
 refine yaS (E := E_zdh) (fn := Tryz.f57) rfl tys_ok rfl (show yaP _ [] from trivial) mixed (by kernel_rfl) (by kernel_rfl) (by kernel_rfl) 0 (by kernel_rfl) false trivial ?_
 intro args H
 by_cases hx : ∃ (a0 : Int), args = [.int .u8 a0] ∧ H = []
 ·obtain ⟨a0, rfl, rfl⟩ := hx
  right; intro K
  exact iff_of_eq (X_zdh.eq a0 K).symm
 ·left; intro K h
  simp only [e_zdh] at h
  split at h
  ·exact hx ⟨_, rfl, rfl⟩
  ·exact h
noncomputable def e_zdi : Entry := ⟨[none], false, fun args H K => match args, H with
 | [.int .u8 a0], [] => zdi a0 (fun y0 => K (EV.int .i64 y0) [])
 | _, _ => False⟩
noncomputable def E_zdi : Env := ⟨look tys, look [], look [], gl, yat [], false⟩
theorem X_zdi.eq (a0 : Int) (K : EV → yae → Prop) : yaO E_zdi Tryz.f104 false [.int .u8 a0] [] K = zdi a0 (fun y0 => K (EV.int .i64 y0) []) := by
 rw [zdi.is]; exact (yad _ _ _ _ _ _).symm.trans (by kernel_rfl)
theorem X_zdi.ok : SoundE Tryz.prog gl 104 e_zdi := by
 refine yaS (E := E_zdi) (fn := Tryz.f104) rfl tys_ok rfl (show yaP _ [] from trivial) mixed (by kernel_rfl) (by kernel_rfl) (by kernel_rfl) 0 (by kernel_rfl) false trivial ?_
 intro args H
 by_cases hx : ∃ (a0 : Int), args = [.int .u8 a0] ∧ H = []
 ·obtain ⟨a0, rfl, rfl⟩ := hx
  right; intro K
  exact iff_of_eq (X_zdi.eq a0 K).symm
 ·left; intro K h
  simp only [e_zdi] at h
  split at h
  ·exact hx ⟨_, rfl, rfl⟩
  ·exact h
noncomputable def e_zcx : Entry := ⟨[none, none], false, fun args H K => match args, H with
 | [.int .u8 a0, .int .u8 a1], [] => zcx a0 a1 (fun y0 => K (EV.bool y0) [])
 | _, _ => False⟩
noncomputable def l_zcx : List (Nat × Entry) := [(57, e_zdh), (104, e_zdi)]
noncomputable def E_zcx : Env := ⟨look tys, look l_zcx, look [], gl, yat [], false⟩
theorem X_zcx.eq (a0 : Int) (a1 : Int) (K : EV → yae → Prop) : yaO E_zcx Tryz.f36 false [.int .u8 a0, .int .u8 a1] [] K = zcx a0 a1 (fun y0 => K (EV.bool y0) []) := by
 rw [zcx.is]; exact (yad _ _ _ _ _ _).symm.trans (by kernel_rfl)
theorem X_zcx.ok : SoundE Tryz.prog gl 36 e_zcx := by
 refine yaS (E := E_zcx) (fn := Tryz.f36) rfl tys_ok rfl (show yaP _ l_zcx from ⟨X_zdh.ok, X_zdi.ok, trivial⟩) mixed (by kernel_rfl) (by kernel_rfl) (by kernel_rfl) 0 (by kernel_rfl) false trivial ?_
 intro args H
 by_cases hx : ∃ (a0 : Int) (a1 : Int), args = [.int .u8 a0, .int .u8 a1] ∧ H = []
 ·obtain ⟨a0, a1, rfl, rfl⟩ := hx
  right; intro K
  exact iff_of_eq (X_zcx.eq a0 a1 K).symm
 ·left; intro K h
  simp only [e_zcx] at h
  split at h
  ·exact hx ⟨_, _, rfl, rfl⟩
  ·exact h
noncomputable def e_zaa : Entry := ⟨[none], false, fun args H K => match args, H with
 | [.int .u64 a0], [] => zaa a0 (fun y0 => K (EV.int .i64 y0) [])
 | _, _ => False⟩
noncomputable def E_zaa : Env := ⟨look tys, look [], look [], gl, yat [], false⟩
theorem X_zaa.eq (a0 : Int) (K : EV → yae → Prop) : yaO E_zaa Tryz.f165 false [.int .u64 a0] [] K = zaa a0 (fun y0 => K (EV.int .i64 y0) []) := by
 rw [zaa.is]; exact (yad _ _ _ _ _ _).symm.trans (by kernel_rfl)
theorem X_zaa.ok : SoundE Tryz.prog gl 165 e_zaa := by
 refine yaS (E := E_zaa) (fn := Tryz.f165) rfl tys_ok rfl (show yaP _ [] from trivial) mixed (by kernel_rfl) (by kernel_rfl) (by kernel_rfl) 0 (by kernel_rfl) false trivial ?_
 intro args H
 by_cases hx : ∃ (a0 : Int), args = [.int .u64 a0] ∧ H = []
 ·obtain ⟨a0, rfl, rfl⟩ := hx
  right; intro K
  exact iff_of_eq (X_zaa.eq a0 K).symm
 ·left; intro K h
  simp only [e_zaa] at h
  split at h
  ·exact hx ⟨_, rfl, rfl⟩
  ·exact h
noncomputable def e_zeh : Entry := ⟨[none], false, fun args H K => match args, H with
 | [.int .u64 a0], [] => zeh a0 (fun y0 => K (EV.int .i64 y0) [])
 | _, _ => False⟩
noncomputable def l_zeh : List (Nat × Entry) := [(165, e_zaa)]
noncomputable def E_zeh : Env := ⟨look tys, look l_zeh, look [], gl, yat [], false⟩
theorem X_zeh.eq (a0 : Int) (K : EV → yae → Prop) : yaO E_zeh Tryz.f105 false [.int .u64 a0] [] K = zeh a0 (fun y0 => K (EV.int .i64 y0) []) := by
 rw [zeh.is]; exact (yad _ _ _ _ _ _).symm.trans (by kernel_rfl)
theorem X_zeh.ok : SoundE Tryz.prog gl 105 e_zeh := by
 refine yaS (E := E_zeh) (fn := Tryz.f105) rfl tys_ok rfl (show yaP _ l_zeh from ⟨X_zaa.ok, trivial⟩) mixed (by kernel_rfl) (by kernel_rfl) (by kernel_rfl) 0 (by kernel_rfl) false trivial ?_
 intro args H
 by_cases hx : ∃ (a0 : Int), args = [.int .u64 a0] ∧ H = []
 ·obtain ⟨a0, rfl, rfl⟩ := hx
  right; intro K
  exact iff_of_eq (X_zeh.eq a0 K).symm
 ·left; intro K h
  simp only [e_zeh] at h
  split at h
  ·exact hx ⟨_, rfl, rfl⟩
  ·exact h
noncomputable def e_zdy : Entry := ⟨[none], false, fun args H K => match args, H with
 | [.arr .u64 6 a0], [] => zdy a0 (fun y0 => K (EV.int .i64 y0) [])
 | _, _ => False⟩
noncomputable def l_zdy : List (Nat × Entry) := [(105, e_zeh)]
noncomputable def E_zdy : Env := ⟨look tys, look l_zdy, look [(2, zdy.l2.entry)], gl, yat [], false⟩
theorem zdy.l2X.stepEq (R : List EV → yae → Prop) (K : Ex → List EV → yae → Prop) (x0 : Int) (x1 : Nat → Int) : yah (yar E_zdy (yaa Tryz.f37 0) { (LV.mk 0 [(0, 0)] 4 0 false) with nx := live (.loop (yaa Tryz.f37 0)) (LV.mk 0 [(0, 0)] 4 0 false) }) (live (.loop (yaa Tryz.f37 0)) (LV.mk 0 [(0, 0)] 4 0 false)) (LV.mk 0 [(0, 0)] 4 0 false) 0 19 R [EV.ptr 0 [], EV.int .i64 x0] [some (EV.arr .u64 6 x1)] K = zdy.l2.step (fun x0 x1 => R [EV.ptr 0 [], EV.int .i64 x0] [some (EV.arr .u64 6 x1)]) (fun y0 => K .ret [EV.int .i64 y0] []) (K (.exit 0) [] []) x0 x1 := (yau _ _ _ _ _ _ _ _ _ _ _).symm.trans (by kernel_rfl)
theorem zdy.l2X.eq (K : Ex → List EV → yae → Prop) : ∀ (n : Nat) (x0 : Int) (x1 : Nat → Int), yaq E_zdy (yaa Tryz.f37 0) (LV.mk 0 [(0, 0)] 4 0 false) 0 19 K n [EV.ptr 0 [], EV.int .i64 x0] [some (EV.arr .u64 6 x1)] = zdy.l2 (fun y0 => K .ret [EV.int .i64 y0] []) (K (.exit 0) [] []) n x0 x1
 | 0, _, _ => rfl
 | n + 1, x0, x1 => by
  have ih : (fun (x0 : Int) (x1 : Nat → Int) => yaq E_zdy (yaa Tryz.f37 0) (LV.mk 0 [(0, 0)] 4 0 false) 0 19 K n [EV.ptr 0 [], EV.int .i64 x0] [some (EV.arr .u64 6 x1)]) = zdy.l2 (fun y0 => K .ret [EV.int .i64 y0] []) (K (.exit 0) [] []) n := by funext x0 x1; exact zdy.l2X.eq K n x0 x1
  show yah _ _ _ _ _ (yaq E_zdy (yaa Tryz.f37 0) (LV.mk 0 [(0, 0)] 4 0 false) 0 19 K n) [EV.ptr 0 [], EV.int .i64 x0] [some (EV.arr .u64 6 x1)] K = zdy.l2.step (zdy.l2 (fun y0 => K .ret [EV.int .i64 y0] []) (K (.exit 0) [] []) n) (fun y0 => K .ret [EV.int .i64 y0] []) (K (.exit 0) [] []) x0 x1
  rw [← ih]
  exact zdy.l2X.stepEq _ K x0 x1
theorem zdy.l2X.ok : LoopEq E_zdy (yaa Tryz.f37 0) := by
 intro L hL vs H
 have h1 : E_zdy.lp (yag (yaa Tryz.f37 0)) = some zdy.l2.entry := by kernel_rfl
 have h2 : L = zdy.l2.entry := Option.some.inj (hL.symm.trans h1)
 subst h2
 by_cases hx : ∃ (x0 : Int) (x1 : Nat → Int), vs = [EV.ptr 0 [], EV.int .i64 x0] ∧ H = [some (EV.arr .u64 6 x1)]
 ·obtain ⟨x0, x1, rfl, rfl⟩ := hx
  right; intro K
  exact exists_congr fun n => iff_of_eq (zdy.l2X.eq K n x0 x1).symm
 ·left; intro K h
  simp only [zdy.l2.entry] at h
  split at h
  ·exact hx ⟨_, _, rfl, rfl⟩
  ·exact h
theorem X_zdy.eq (a0 : Nat → Int) (K : EV → yae → Prop) : yaO E_zdy Tryz.f37 false [.arr .u64 6 a0] [] K = zdy a0 (fun y0 => K (EV.int .i64 y0) []) := by
 rw [zdy.is]; exact (yad _ _ _ _ _ _).symm.trans (by kernel_rfl)
theorem X_zdy.ok : SoundE Tryz.prog gl 37 e_zdy := by
 refine yaS (E := E_zdy) (fn := Tryz.f37) rfl tys_ok rfl (show yaP _ l_zdy from ⟨X_zeh.ok, trivial⟩) mixed (by kernel_rfl) (by kernel_rfl) (by kernel_rfl) 1 (by kernel_rfl) false ⟨zdy.l2X.ok, trivial⟩ ?_
 intro args H
 by_cases hx : ∃ (a0 : Nat → Int), args = [.arr .u64 6 a0] ∧ H = []
 ·obtain ⟨a0, rfl, rfl⟩ := hx
  right; intro K
  exact iff_of_eq (X_zdy.eq a0 K).symm
 ·left; intro K h
  simp only [e_zdy] at h
  split at h
  ·exact hx ⟨_, rfl, rfl⟩
  ·exact h
noncomputable def e_zdo : Entry := ⟨[none], false, fun args H K => match args, H with
 | [.int .u8 a0], [] => zdo a0 (fun y0 => K (EV.int .i64 y0) [])
 | _, _ => False⟩
noncomputable def l_zdo : List (Nat × Entry) := [(103, e_zds)]
noncomputable def E_zdo : Env := ⟨look tys, look l_zdo, look [], gl, yat [], false⟩
theorem X_zdo.eq (a0 : Int) (K : EV → yae → Prop) : yaO E_zdo Tryz.f102 false [.int .u8 a0] [] K = zdo a0 (fun y0 => K (EV.int .i64 y0) []) := by
 rw [zdo.is]; exact (yad _ _ _ _ _ _).symm.trans (by kernel_rfl)
theorem X_zdo.ok : SoundE Tryz.prog gl 102 e_zdo := by
 refine yaS (E := E_zdo) (fn := Tryz.f102) rfl tys_ok rfl (show yaP _ l_zdo from ⟨X_zds.ok, trivial⟩) mixed (by kernel_rfl) (by kernel_rfl) (by kernel_rfl) 0 (by kernel_rfl) false trivial ?_
 intro args H
 by_cases hx : ∃ (a0 : Int), args = [.int .u8 a0] ∧ H = []
 ·obtain ⟨a0, rfl, rfl⟩ := hx
  right; intro K
  exact iff_of_eq (X_zdo.eq a0 K).symm
 ·left; intro K h
  simp only [e_zdo] at h
  split at h
  ·exact hx ⟨_, rfl, rfl⟩
  ·exact h
noncomputable def e_zdq : Entry := ⟨[none, none], false, fun args H K => match args, H with
 | [.int .u64 a0, .int .i64 a1], [] => zdq a0 a1 (fun y0 y1 => K (EV.agg [EV.int .u64 y0, EV.int .u64 y1]) [])
 | _, _ => False⟩
noncomputable def E_zdq : Env := ⟨look tys, look [], look [], gl, yat [], false⟩
theorem X_zdq.eq (a0 : Int) (a1 : Int) (K : EV → yae → Prop) : yaO E_zdq Tryz.f166 false [.int .u64 a0, .int .i64 a1] [] K = zdq a0 a1 (fun y0 y1 => K (EV.agg [EV.int .u64 y0, EV.int .u64 y1]) []) := by
 rw [zdq.is]; exact (yad _ _ _ _ _ _).symm.trans (by kernel_rfl)
theorem X_zdq.ok : SoundE Tryz.prog gl 166 e_zdq := by
 refine yaS (E := E_zdq) (fn := Tryz.f166) rfl tys_ok rfl (show yaP _ [] from trivial) mixed (by kernel_rfl) (by kernel_rfl) (by kernel_rfl) 0 (by kernel_rfl) false trivial ?_
 intro args H
 by_cases hx : ∃ (a0 : Int) (a1 : Int), args = [.int .u64 a0, .int .i64 a1] ∧ H = []
 ·obtain ⟨a0, a1, rfl, rfl⟩ := hx
  right; intro K
  exact iff_of_eq (X_zdq.eq a0 a1 K).symm
 ·left; intro K h
  simp only [e_zdq] at h
  split at h
  ·exact hx ⟨_, _, rfl, rfl⟩
  ·exact h
noncomputable def e_zdt : Entry := ⟨[none, none, none], false, fun args H K => match args, H with
 | [.int .u8 a0, .agg [.int .u64 a1_0, .int .u64 a1_1], .bool a2], [] => zdt a0 a1_0 a1_1 a2 (fun y0 y1 => K (EV.agg [EV.int .u64 y0, EV.int .u64 y1]) [])
 | _, _ => False⟩
noncomputable def l_zdt : List (Nat × Entry) := [(57, e_zdh), (102, e_zdo), (166, e_zdq)]
noncomputable def E_zdt : Env := ⟨look tys, look l_zdt, look [], gl, yat [], false⟩
theorem X_zdt.eq (a0 : Int) (a1_0 : Int) (a1_1 : Int) (a2 : Bool) (K : EV → yae → Prop) : yaO E_zdt Tryz.f106 false [.int .u8 a0, .agg [.int .u64 a1_0, .int .u64 a1_1], .bool a2] [] K = zdt a0 a1_0 a1_1 a2 (fun y0 y1 => K (EV.agg [EV.int .u64 y0, EV.int .u64 y1]) []) := by
 rw [zdt.is]; exact (yad _ _ _ _ _ _).symm.trans (by kernel_rfl)
theorem X_zdt.ok : SoundE Tryz.prog gl 106 e_zdt := by
 refine yaS (E := E_zdt) (fn := Tryz.f106) rfl tys_ok rfl (show yaP _ l_zdt from ⟨X_zdh.ok, X_zdo.ok, X_zdq.ok, trivial⟩) mixed (by kernel_rfl) (by kernel_rfl) (by kernel_rfl) 0 (by kernel_rfl) false trivial ?_
 intro args H
 by_cases hx : ∃ (a0 : Int) (a1_0 : Int) (a1_1 : Int) (a2 : Bool), args = [.int .u8 a0, .agg [.int .u64 a1_0, .int .u64 a1_1], .bool a2] ∧ H = []
 ·obtain ⟨a0, a1_0, a1_1, a2, rfl, rfl⟩ := hx
  right; intro K
  exact iff_of_eq (X_zdt.eq a0 a1_0 a1_1 a2 K).symm
 ·left; intro K h
  simp only [e_zdt] at h
  split at h
  ·exact hx ⟨_, _, _, _, rfl, rfl⟩
  ·exact h
noncomputable def e_zdp : Entry := ⟨[none, none], false, fun args H K => match args, H with
 | [.int .u8 a0, .bool a1], [] => zdp a0 a1 (fun y0 y1 => K (EV.agg [EV.int .u64 y0, EV.int .u64 y1]) [])
 | _, _ => False⟩
noncomputable def l_zdp : List (Nat × Entry) := [(106, e_zdt)]
noncomputable def E_zdp : Env := ⟨look tys, look l_zdp, look [], gl, yat [], false⟩
theorem X_zdp.eq (a0 : Int) (a1 : Bool) (K : EV → yae → Prop) : yaO E_zdp Tryz.f38 false [.int .u8 a0, .bool a1] [] K = zdp a0 a1 (fun y0 y1 => K (EV.agg [EV.int .u64 y0, EV.int .u64 y1]) []) := by
 rw [zdp.is]; exact (yad _ _ _ _ _ _).symm.trans (by kernel_rfl)
theorem X_zdp.ok : SoundE Tryz.prog gl 38 e_zdp := by
 refine yaS (E := E_zdp) (fn := Tryz.f38) rfl tys_ok rfl (show yaP _ l_zdp from ⟨X_zdt.ok, trivial⟩) mixed (by kernel_rfl) (by kernel_rfl) (by kernel_rfl) 0 (by kernel_rfl) false trivial ?_
 intro args H
 by_cases hx : ∃ (a0 : Int) (a1 : Bool), args = [.int .u8 a0, .bool a1] ∧ H = []
 ·obtain ⟨a0, a1, rfl, rfl⟩ := hx
  right; intro K
  exact iff_of_eq (X_zdp.eq a0 a1 K).symm
 ·left; intro K h
  simp only [e_zdp] at h
  split at h
  ·exact hx ⟨_, _, rfl, rfl⟩
  ·exact h
noncomputable def e_zdj : Entry := ⟨[none], false, fun args H K => match args, H with
 | [.int .u8 a0], [] => zdj a0 (fun y0 => K (EV.int .i64 y0) [])
 | _, _ => False⟩
noncomputable def l_zdj : List (Nat × Entry) := [(103, e_zds)]
noncomputable def E_zdj : Env := ⟨look tys, look l_zdj, look [], gl, yat [], false⟩
theorem X_zdj.eq (a0 : Int) (K : EV → yae → Prop) : yaO E_zdj Tryz.f40 false [.int .u8 a0] [] K = zdj a0 (fun y0 => K (EV.int .i64 y0) []) := by
 rw [zdj.is]; exact (yad _ _ _ _ _ _).symm.trans (by kernel_rfl)
theorem X_zdj.ok : SoundE Tryz.prog gl 40 e_zdj := by
 refine yaS (E := E_zdj) (fn := Tryz.f40) rfl tys_ok rfl (show yaP _ l_zdj from ⟨X_zds.ok, trivial⟩) mixed (by kernel_rfl) (by kernel_rfl) (by kernel_rfl) 0 (by kernel_rfl) false trivial ?_
 intro args H
 by_cases hx : ∃ (a0 : Int), args = [.int .u8 a0] ∧ H = []
 ·obtain ⟨a0, rfl, rfl⟩ := hx
  right; intro K
  exact iff_of_eq (X_zdj.eq a0 K).symm
 ·left; intro K h
  simp only [e_zdj] at h
  split at h
  ·exact hx ⟨_, rfl, rfl⟩
  ·exact h
noncomputable def e_zdk : Entry := ⟨[none], false, fun args H K => match args, H with
 | [.int .u8 a0], [] => zdk a0 (fun y0 => K (EV.int .i64 y0) [])
 | _, _ => False⟩
noncomputable def l_zdk : List (Nat × Entry) := [(40, e_zdj), (57, e_zdh)]
noncomputable def E_zdk : Env := ⟨look tys, look l_zdk, look [], gl, yat [], false⟩
theorem X_zdk.eq (a0 : Int) (K : EV → yae → Prop) : yaO E_zdk Tryz.f39 false [.int .u8 a0] [] K = zdk a0 (fun y0 => K (EV.int .i64 y0) []) := by
 rw [zdk.is]; exact (yad _ _ _ _ _ _).symm.trans (by kernel_rfl)
theorem X_zdk.ok : SoundE Tryz.prog gl 39 e_zdk := by
 refine yaS (E := E_zdk) (fn := Tryz.f39) rfl tys_ok rfl (show yaP _ l_zdk from ⟨X_zdj.ok, X_zdh.ok, trivial⟩) mixed (by kernel_rfl) (by kernel_rfl) (by kernel_rfl) 0 (by kernel_rfl) false trivial ?_
 intro args H
 by_cases hx : ∃ (a0 : Int), args = [.int .u8 a0] ∧ H = []
 ·obtain ⟨a0, rfl, rfl⟩ := hx
  right; intro K
  exact iff_of_eq (X_zdk.eq a0 K).symm
 ·left; intro K h
  simp only [e_zdk] at h
  split at h
  ·exact hx ⟨_, rfl, rfl⟩
  ·exact h
noncomputable def e_zdr : Entry := ⟨[none, none], false, fun args H K => match args, H with
 | [.int .u8 a0, .int .i64 a1], [] => zdr a0 a1 (fun y0 y1 => K (EV.agg [EV.int .u64 y0, EV.int .u64 y1]) [])
 | _, _ => False⟩
noncomputable def l_zdr : List (Nat × Entry) := [(35, e_zdn), (166, e_zdq)]
noncomputable def E_zdr : Env := ⟨look tys, look l_zdr, look [], gl, yat [], false⟩
theorem X_zdr.eq (a0 : Int) (a1 : Int) (K : EV → yae → Prop) : yaO E_zdr Tryz.f164 false [.int .u8 a0, .int .i64 a1] [] K = zdr a0 a1 (fun y0 y1 => K (EV.agg [EV.int .u64 y0, EV.int .u64 y1]) []) := by
 rw [zdr.is]; exact (yad _ _ _ _ _ _).symm.trans (by kernel_rfl)
theorem X_zdr.ok : SoundE Tryz.prog gl 164 e_zdr := by
 refine yaS (E := E_zdr) (fn := Tryz.f164) rfl tys_ok rfl (show yaP _ l_zdr from ⟨X_zdn.ok, X_zdq.ok, trivial⟩) mixed (by kernel_rfl) (by kernel_rfl) (by kernel_rfl) 0 (by kernel_rfl) false trivial ?_
 intro args H
 by_cases hx : ∃ (a0 : Int) (a1 : Int), args = [.int .u8 a0, .int .i64 a1] ∧ H = []
 ·obtain ⟨a0, a1, rfl, rfl⟩ := hx
  right; intro K
  exact iff_of_eq (X_zdr.eq a0 a1 K).symm
 ·left; intro K h
  simp only [e_zdr] at h
  split at h
  ·exact hx ⟨_, _, rfl, rfl⟩
  ·exact h
noncomputable def e_zdm : Entry := ⟨[none, none], false, fun args H K => match args, H with
 | [.int .u8 a0, .bool a1], [] => zdm a0 a1 (fun y0 y1 => K (EV.agg [EV.int .u64 y0, EV.int .u64 y1]) [])
 | _, _ => False⟩
noncomputable def l_zdm : List (Nat × Entry) := [(40, e_zdj), (57, e_zdh), (106, e_zdt), (164, e_zdr)]
noncomputable def E_zdm : Env := ⟨look tys, look l_zdm, look [], gl, yat [], false⟩
theorem X_zdm.eq (a0 : Int) (a1 : Bool) (K : EV → yae → Prop) : yaO E_zdm Tryz.f100 false [.int .u8 a0, .bool a1] [] K = zdm a0 a1 (fun y0 y1 => K (EV.agg [EV.int .u64 y0, EV.int .u64 y1]) []) := by
 rw [zdm.is]; exact (yad _ _ _ _ _ _).symm.trans (by kernel_rfl)
theorem X_zdm.ok : SoundE Tryz.prog gl 100 e_zdm := by
 refine yaS (E := E_zdm) (fn := Tryz.f100) rfl tys_ok rfl (show yaP _ l_zdm from ⟨X_zdj.ok, X_zdh.ok, X_zdt.ok, X_zdr.ok, trivial⟩) mixed (by kernel_rfl) (by kernel_rfl) (by kernel_rfl) 0 (by kernel_rfl) false trivial ?_
 intro args H
 by_cases hx : ∃ (a0 : Int) (a1 : Bool), args = [.int .u8 a0, .bool a1] ∧ H = []
 ·obtain ⟨a0, a1, rfl, rfl⟩ := hx
  right; intro K
  exact iff_of_eq (X_zdm.eq a0 a1 K).symm
 ·left; intro K h
  simp only [e_zdm] at h
  split at h
  ·exact hx ⟨_, _, rfl, rfl⟩
  ·exact h
noncomputable def e_zdl : Entry := ⟨[none, none], false, fun args H K => match args, H with
 | [.int .u8 a0, .bool a1], [] => zdl a0 a1 (fun y0 y1 => K (EV.agg [EV.int .u64 y0, EV.int .u64 y1]) [])
 | _, _ => False⟩
noncomputable def l_zdl : List (Nat × Entry) := [(57, e_zdh), (100, e_zdm), (102, e_zdo), (106, e_zdt)]
noncomputable def E_zdl : Env := ⟨look tys, look l_zdl, look [], gl, yat [], false⟩
theorem X_zdl.eq (a0 : Int) (a1 : Bool) (K : EV → yae → Prop) : yaO E_zdl Tryz.f107 false [.int .u8 a0, .bool a1] [] K = zdl a0 a1 (fun y0 y1 => K (EV.agg [EV.int .u64 y0, EV.int .u64 y1]) []) := by
 rw [zdl.is]; exact (yad _ _ _ _ _ _).symm.trans (by kernel_rfl)
theorem X_zdl.ok : SoundE Tryz.prog gl 107 e_zdl := by
 refine yaS (E := E_zdl) (fn := Tryz.f107) rfl tys_ok rfl (show yaP _ l_zdl from ⟨X_zdh.ok, X_zdm.ok, X_zdo.ok, X_zdt.ok, trivial⟩) mixed (by kernel_rfl) (by kernel_rfl) (by kernel_rfl) 0 (by kernel_rfl) false trivial ?_
 intro args H
 by_cases hx : ∃ (a0 : Int) (a1 : Bool), args = [.int .u8 a0, .bool a1] ∧ H = []
 ·obtain ⟨a0, a1, rfl, rfl⟩ := hx
  right; intro K
  exact iff_of_eq (X_zdl.eq a0 a1 K).symm
 ·left; intro K h
  simp only [e_zdl] at h
  split at h
  ·exact hx ⟨_, _, rfl, rfl⟩
  ·exact h
noncomputable def e_zct : Entry := ⟨[none, none, none], false, fun args H K => match args, H with
 | [.int .u8 a0, .int .u8 a1, .bool a2], [] => zct a0 a1 a2 (fun y0 y1 y2 y3 => K (EV.tuple [EV.agg [EV.int .u64 y0, EV.int .u64 y1], EV.int .u8 y2, EV.int .i64 y3]) [])
 | _, _ => False⟩
noncomputable def l_zct : List (Nat × Entry) := [(36, e_zcx), (100, e_zdm), (107, e_zdl)]
noncomputable def E_zct : Env := ⟨look tys, look l_zct, look [], gl, yat [], false⟩
theorem X_zct.eq (a0 : Int) (a1 : Int) (a2 : Bool) (K : EV → yae → Prop) : yaO E_zct Tryz.f41 false [.int .u8 a0, .int .u8 a1, .bool a2] [] K = zct a0 a1 a2 (fun y0 y1 y2 y3 => K (EV.tuple [EV.agg [EV.int .u64 y0, EV.int .u64 y1], EV.int .u8 y2, EV.int .i64 y3]) []) := by
 rw [zct.is]; exact (yad _ _ _ _ _ _).symm.trans (by kernel_rfl)
theorem X_zct.ok : SoundE Tryz.prog gl 41 e_zct := by
 refine yaS (E := E_zct) (fn := Tryz.f41) rfl tys_ok rfl (show yaP _ l_zct from ⟨X_zcx.ok, X_zdm.ok, X_zdl.ok, trivial⟩) mixed (by kernel_rfl) (by kernel_rfl) (by kernel_rfl) 0 (by kernel_rfl) false trivial ?_
 intro args H
 by_cases hx : ∃ (a0 : Int) (a1 : Int) (a2 : Bool), args = [.int .u8 a0, .int .u8 a1, .bool a2] ∧ H = []
 ·obtain ⟨a0, a1, a2, rfl, rfl⟩ := hx
  right; intro K
  exact iff_of_eq (X_zct.eq a0 a1 a2 K).symm
 ·left; intro K h
  simp only [e_zct] at h
  split at h
  ·exact hx ⟨_, _, _, rfl, rfl⟩
  ·exact h
noncomputable def e_zef : Entry := ⟨[none], false, fun args H K => match args, H with
 | [.int .i64 a0], [] => zef a0 (fun y0 => K (EV.int .i64 y0) [])
 | _, _ => False⟩
noncomputable def E_zef : Env := ⟨look tys, look [], look [], gl, yat [], false⟩
theorem X_zef.eq (a0 : Int) (K : EV → yae → Prop) : yaO E_zef Tryz.f110 false [.int .i64 a0] [] K = zef a0 (fun y0 => K (EV.int .i64 y0) []) := by
 rw [zef.is]; exact (yad _ _ _ _ _ _).symm.trans (by kernel_rfl)
theorem X_zef.ok : SoundE Tryz.prog gl 110 e_zef := by
 refine yaS (E := E_zef) (fn := Tryz.f110) rfl tys_ok rfl (show yaP _ [] from trivial) mixed (by kernel_rfl) (by kernel_rfl) (by kernel_rfl) 0 (by kernel_rfl) false trivial ?_
 intro args H
 by_cases hx : ∃ (a0 : Int), args = [.int .i64 a0] ∧ H = []
 ·obtain ⟨a0, rfl, rfl⟩ := hx
  right; intro K
  exact iff_of_eq (X_zef.eq a0 K).symm
 ·left; intro K h
  simp only [e_zef] at h
  split at h
  ·exact hx ⟨_, rfl, rfl⟩
  ·exact h
noncomputable def e_zdx : Entry := ⟨[none, none], false, fun args H K => match args, H with
 | [.arr .u64 6 a0, .int .i64 a1], [] => zdx a0 a1 (fun y0 y1 => K (EV.tuple [EV.arr .u64 6 y0, EV.bool y1]) [])
 | _, _ => False⟩
noncomputable def l_zdx : List (Nat × Entry) := [(37, e_zdy), (110, e_zef)]
noncomputable def E_zdx : Env := ⟨look tys, look l_zdx, look [(5, zdx.l5.entry)], gl, yat [], false⟩
theorem zdx.l5X.stepEq (R : List EV → yae → Prop) (K : Ex → List EV → yae → Prop) (x0 : Bool) (x1 : Int) (x2 : Int) (x3 : Int) (x4 : Nat → Int) (x5 : Nat → Int) : yah (yar E_zdx (yaa Tryz.f44 0) { (LV.mk 48 [(0, 48)] 48 0 false) with nx := live (.loop (yaa Tryz.f44 0)) (LV.mk 48 [(0, 48)] 48 0 false) }) (live (.loop (yaa Tryz.f44 0)) (LV.mk 48 [(0, 48)] 48 0 false)) (LV.mk 48 [(0, 48)] 48 0 false) 0 59 R [EV.ptr 0 [], EV.ptr 1 [], EV.bool x0, EV.int .i64 x1, EV.int .u64 x2, EV.int .i64 x3] [some (EV.arr .u64 6 x4), some (EV.arr .u64 6 x5)] K = zdx.l5.step (fun x0 x1 x2 x3 x4 x5 => R [EV.ptr 0 [], EV.ptr 1 [], EV.bool x0, EV.int .i64 x1, EV.int .u64 x2, EV.int .i64 x3] [some (EV.arr .u64 6 x4), some (EV.arr .u64 6 x5)]) (fun y0 y1 => K (.exit 0) [EV.ptr 0 [], EV.bool y0] [some (EV.arr .u64 6 y1)]) x0 x1 x2 x3 x4 x5 := (yau _ _ _ _ _ _ _ _ _ _ _).symm.trans (by kernel_rfl)
theorem zdx.l5X.eq (K : Ex → List EV → yae → Prop) : ∀ (n : Nat) (x0 : Bool) (x1 : Int) (x2 : Int) (x3 : Int) (x4 : Nat → Int) (x5 : Nat → Int), yaq E_zdx (yaa Tryz.f44 0) (LV.mk 48 [(0, 48)] 48 0 false) 0 59 K n [EV.ptr 0 [], EV.ptr 1 [], EV.bool x0, EV.int .i64 x1, EV.int .u64 x2, EV.int .i64 x3] [some (EV.arr .u64 6 x4), some (EV.arr .u64 6 x5)] = zdx.l5 (fun y0 y1 => K (.exit 0) [EV.ptr 0 [], EV.bool y0] [some (EV.arr .u64 6 y1)]) n x0 x1 x2 x3 x4 x5
 | 0, _, _, _, _, _, _ => rfl
 | n + 1, x0, x1, x2, x3, x4, x5 => by
  have ih : (fun (x0 : Bool) (x1 : Int) (x2 : Int) (x3 : Int) (x4 : Nat → Int) (x5 : Nat → Int) => yaq E_zdx (yaa Tryz.f44 0) (LV.mk 48 [(0, 48)] 48 0 false) 0 59 K n [EV.ptr 0 [], EV.ptr 1 [], EV.bool x0, EV.int .i64 x1, EV.int .u64 x2, EV.int .i64 x3] [some (EV.arr .u64 6 x4), some (EV.arr .u64 6 x5)]) = zdx.l5 (fun y0 y1 => K (.exit 0) [EV.ptr 0 [], EV.bool y0] [some (EV.arr .u64 6 y1)]) n := by funext x0 x1 x2 x3 x4 x5; exact zdx.l5X.eq K n x0 x1 x2 x3 x4 x5
  show yah _ _ _ _ _ (yaq E_zdx (yaa Tryz.f44 0) (LV.mk 48 [(0, 48)] 48 0 false) 0 59 K n) [EV.ptr 0 [], EV.ptr 1 [], EV.bool x0, EV.int .i64 x1, EV.int .u64 x2, EV.int .i64 x3] [some (EV.arr .u64 6 x4), some (EV.arr .u64 6 x5)] K = zdx.l5.step (zdx.l5 (fun y0 y1 => K (.exit 0) [EV.ptr 0 [], EV.bool y0] [some (EV.arr .u64 6 y1)]) n) (fun y0 y1 => K (.exit 0) [EV.ptr 0 [], EV.bool y0] [some (EV.arr .u64 6 y1)]) x0 x1 x2 x3 x4 x5
  rw [← ih]
  exact zdx.l5X.stepEq _ K x0 x1 x2 x3 x4 x5
theorem zdx.l5X.ok : LoopEq E_zdx (yaa Tryz.f44 0) := by
 intro L hL vs H
 have h1 : E_zdx.lp (yag (yaa Tryz.f44 0)) = some zdx.l5.entry := by kernel_rfl
 have h2 : L = zdx.l5.entry := Option.some.inj (hL.symm.trans h1)
 subst h2
 by_cases hx : ∃ (x0 : Bool) (x1 : Int) (x2 : Int) (x3 : Int) (x4 : Nat → Int) (x5 : Nat → Int), vs = [EV.ptr 0 [], EV.ptr 1 [], EV.bool x0, EV.int .i64 x1, EV.int .u64 x2, EV.int .i64 x3] ∧ H = [some (EV.arr .u64 6 x4), some (EV.arr .u64 6 x5)]
 ·obtain ⟨x0, x1, x2, x3, x4, x5, rfl, rfl⟩ := hx
  right; intro K
  exact exists_congr fun n => iff_of_eq (zdx.l5X.eq K n x0 x1 x2 x3 x4 x5).symm
 ·left; intro K h
  simp only [zdx.l5.entry] at h
  split at h
  ·exact hx ⟨_, _, _, _, _, _, rfl, rfl⟩
  ·exact h
theorem X_zdx.eq (a0 : Nat → Int) (a1 : Int) (K : EV → yae → Prop) : yaO E_zdx Tryz.f44 false [.arr .u64 6 a0, .int .i64 a1] [] K = zdx a0 a1 (fun y0 y1 => K (EV.tuple [EV.arr .u64 6 y0, EV.bool y1]) []) := by
 rw [zdx.is]; exact (yad _ _ _ _ _ _).symm.trans (by kernel_rfl)
theorem X_zdx.ok : SoundE Tryz.prog gl 44 e_zdx := by
 refine yaS (E := E_zdx) (fn := Tryz.f44) rfl tys_ok rfl (show yaP _ l_zdx from ⟨X_zdy.ok, X_zef.ok, trivial⟩) mixed (by kernel_rfl) (by kernel_rfl) (by kernel_rfl) 1 (by kernel_rfl) false ⟨zdx.l5X.ok, trivial⟩ ?_
 intro args H
 by_cases hx : ∃ (a0 : Nat → Int) (a1 : Int), args = [.arr .u64 6 a0, .int .i64 a1] ∧ H = []
 ·obtain ⟨a0, a1, rfl, rfl⟩ := hx
  right; intro K
  exact iff_of_eq (X_zdx.eq a0 a1 K).symm
 ·left; intro K h
  simp only [e_zdx] at h
  split at h
  ·exact hx ⟨_, _, rfl, rfl⟩
  ·exact h
noncomputable def e_zeb : Entry := ⟨[none], false, fun args H K => match args, H with
 | [.int .u64 a0], [] => zeb a0 (fun y0 => K (EV.arr .u64 6 y0) [])
 | _, _ => False⟩
noncomputable def E_zeb : Env := ⟨look tys, look [], look [], gl, yat [], false⟩
theorem X_zeb.eq (a0 : Int) (K : EV → yae → Prop) : yaO E_zeb Tryz.f45 false [.int .u64 a0] [] K = zeb a0 (fun y0 => K (EV.arr .u64 6 y0) []) := by
 rw [zeb.is]; exact (yad _ _ _ _ _ _).symm.trans (by kernel_rfl)
theorem X_zeb.ok : SoundE Tryz.prog gl 45 e_zeb := by
 refine yaS (E := E_zeb) (fn := Tryz.f45) rfl tys_ok rfl (show yaP _ [] from trivial) mixed (by kernel_rfl) (by kernel_rfl) (by kernel_rfl) 0 (by kernel_rfl) false trivial ?_
 intro args H
 by_cases hx : ∃ (a0 : Int), args = [.int .u64 a0] ∧ H = []
 ·obtain ⟨a0, rfl, rfl⟩ := hx
  right; intro K
  exact iff_of_eq (X_zeb.eq a0 K).symm
 ·left; intro K h
  simp only [e_zeb] at h
  split at h
  ·exact hx ⟨_, rfl, rfl⟩
  ·exact h
noncomputable def e_zel : Entry := ⟨[none], false, fun args H K => match args, H with
 | [.bool a0], [] => zel a0 (fun y0 => K (EV.int .u64 y0) [])
 | _, _ => False⟩
noncomputable def E_zel : Env := ⟨look tys, look [], look [], gl, yat [], false⟩
theorem X_zel.eq (a0 : Bool) (K : EV → yae → Prop) : yaO E_zel Tryz.f167 false [.bool a0] [] K = zel a0 (fun y0 => K (EV.int .u64 y0) []) := by
 rw [zel.is]; exact (yad _ _ _ _ _ _).symm.trans (by kernel_rfl)
theorem X_zel.ok : SoundE Tryz.prog gl 167 e_zel := by
 refine yaS (E := E_zel) (fn := Tryz.f167) rfl tys_ok rfl (show yaP _ [] from trivial) mixed (by kernel_rfl) (by kernel_rfl) (by kernel_rfl) 0 (by kernel_rfl) false trivial ?_
 intro args H
 by_cases hx : ∃ (a0 : Bool), args = [.bool a0] ∧ H = []
 ·obtain ⟨a0, rfl, rfl⟩ := hx
  right; intro K
  exact iff_of_eq (X_zel.eq a0 K).symm
 ·left; intro K h
  simp only [e_zel] at h
  split at h
  ·exact hx ⟨_, rfl, rfl⟩
  ·exact h
noncomputable def e_zeg : Entry := ⟨[none, none, none], false, fun args H K => match args, H with
 | [.int .u64 a0, .int .u64 a1, .bool a2], [] => zeg a0 a1 a2 (fun y0 y1 => K (EV.tuple [EV.int .u64 y0, EV.bool y1]) [])
 | _, _ => False⟩
noncomputable def l_zeg : List (Nat × Entry) := [(167, e_zel)]
noncomputable def E_zeg : Env := ⟨look tys, look l_zeg, look [], gl, yat [], false⟩
theorem X_zeg.eq (a0 : Int) (a1 : Int) (a2 : Bool) (K : EV → yae → Prop) : yaO E_zeg Tryz.f111 false [.int .u64 a0, .int .u64 a1, .bool a2] [] K = zeg a0 a1 a2 (fun y0 y1 => K (EV.tuple [EV.int .u64 y0, EV.bool y1]) []) := by
 rw [zeg.is]; exact (yad _ _ _ _ _ _).symm.trans (by kernel_rfl)
theorem X_zeg.ok : SoundE Tryz.prog gl 111 e_zeg := by
 refine yaS (E := E_zeg) (fn := Tryz.f111) rfl tys_ok rfl (show yaP _ l_zeg from ⟨X_zel.ok, trivial⟩) mixed (by kernel_rfl) (by kernel_rfl) (by kernel_rfl) 0 (by kernel_rfl) false trivial ?_
 intro args H
 by_cases hx : ∃ (a0 : Int) (a1 : Int) (a2 : Bool), args = [.int .u64 a0, .int .u64 a1, .bool a2] ∧ H = []
 ·obtain ⟨a0, a1, a2, rfl, rfl⟩ := hx
  right; intro K
  exact iff_of_eq (X_zeg.eq a0 a1 a2 K).symm
 ·left; intro K h
  simp only [e_zeg] at h
  split at h
  ·exact hx ⟨_, _, _, rfl, rfl⟩
  ·exact h
noncomputable def e_zdu : Entry := ⟨[none, none], false, fun args H K => match args, H with
 | [.arr .u64 6 a0, .arr .u64 6 a1], [] => zdu a0 a1 (fun y0 y1 => K (EV.tuple [EV.arr .u64 6 y0, EV.bool y1]) [])
 | _, _ => False⟩
noncomputable def l_zdu : List (Nat × Entry) := [(111, e_zeg)]
noncomputable def E_zdu : Env := ⟨look tys, look l_zdu, look [(2, zdu.l2.entry)], gl, yat [], false⟩
theorem zdu.l2X.stepEq (R : List EV → yae → Prop) (K : Ex → List EV → yae → Prop) (x0 : Bool) (x1 : Int) (x2 : Nat → Int) (x3 : Nat → Int) (x4 : Nat → Int) : yah (yar E_zdu (yaa Tryz.f46 0) { (LV.mk 48 [(0, 48)] 48 0 false) with nx := live (.loop (yaa Tryz.f46 0)) (LV.mk 48 [(0, 48)] 48 0 false) }) (live (.loop (yaa Tryz.f46 0)) (LV.mk 48 [(0, 48)] 48 0 false)) (LV.mk 48 [(0, 48)] 48 0 false) 0 26 R [EV.ptr 0 [], EV.ptr 1 [], EV.ptr 2 [], EV.bool x0, EV.int .i64 x1] [some (EV.arr .u64 6 x2), some (EV.arr .u64 6 x3), some (EV.arr .u64 6 x4)] K = zdu.l2.step (fun x0 x1 x2 x3 x4 => R [EV.ptr 0 [], EV.ptr 1 [], EV.ptr 2 [], EV.bool x0, EV.int .i64 x1] [some (EV.arr .u64 6 x2), some (EV.arr .u64 6 x3), some (EV.arr .u64 6 x4)]) (fun y0 y1 => K (.exit 0) [EV.ptr 0 [], EV.bool y0] [some (EV.arr .u64 6 y1)]) x0 x1 x2 x3 x4 := (yau _ _ _ _ _ _ _ _ _ _ _).symm.trans (by kernel_rfl)
theorem zdu.l2X.eq (K : Ex → List EV → yae → Prop) : ∀ (n : Nat) (x0 : Bool) (x1 : Int) (x2 : Nat → Int) (x3 : Nat → Int) (x4 : Nat → Int), yaq E_zdu (yaa Tryz.f46 0) (LV.mk 48 [(0, 48)] 48 0 false) 0 26 K n [EV.ptr 0 [], EV.ptr 1 [], EV.ptr 2 [], EV.bool x0, EV.int .i64 x1] [some (EV.arr .u64 6 x2), some (EV.arr .u64 6 x3), some (EV.arr .u64 6 x4)] = zdu.l2 (fun y0 y1 => K (.exit 0) [EV.ptr 0 [], EV.bool y0] [some (EV.arr .u64 6 y1)]) n x0 x1 x2 x3 x4
 | 0, _, _, _, _, _ => rfl
 | n + 1, x0, x1, x2, x3, x4 => by
  have ih : (fun (x0 : Bool) (x1 : Int) (x2 : Nat → Int) (x3 : Nat → Int) (x4 : Nat → Int) => yaq E_zdu (yaa Tryz.f46 0) (LV.mk 48 [(0, 48)] 48 0 false) 0 26 K n [EV.ptr 0 [], EV.ptr 1 [], EV.ptr 2 [], EV.bool x0, EV.int .i64 x1] [some (EV.arr .u64 6 x2), some (EV.arr .u64 6 x3), some (EV.arr .u64 6 x4)]) = zdu.l2 (fun y0 y1 => K (.exit 0) [EV.ptr 0 [], EV.bool y0] [some (EV.arr .u64 6 y1)]) n := by funext x0 x1 x2 x3 x4; exact zdu.l2X.eq K n x0 x1 x2 x3 x4
  show yah _ _ _ _ _ (yaq E_zdu (yaa Tryz.f46 0) (LV.mk 48 [(0, 48)] 48 0 false) 0 26 K n) [EV.ptr 0 [], EV.ptr 1 [], EV.ptr 2 [], EV.bool x0, EV.int .i64 x1] [some (EV.arr .u64 6 x2), some (EV.arr .u64 6 x3), some (EV.arr .u64 6 x4)] K = zdu.l2.step (zdu.l2 (fun y0 y1 => K (.exit 0) [EV.ptr 0 [], EV.bool y0] [some (EV.arr .u64 6 y1)]) n) (fun y0 y1 => K (.exit 0) [EV.ptr 0 [], EV.bool y0] [some (EV.arr .u64 6 y1)]) x0 x1 x2 x3 x4
  rw [← ih]
  exact zdu.l2X.stepEq _ K x0 x1 x2 x3 x4
theorem zdu.l2X.ok : LoopEq E_zdu (yaa Tryz.f46 0) := by
 intro L hL vs H
 have h1 : E_zdu.lp (yag (yaa Tryz.f46 0)) = some zdu.l2.entry := by kernel_rfl
 have h2 : L = zdu.l2.entry := Option.some.inj (hL.symm.trans h1)
 subst h2
 by_cases hx : ∃ (x0 : Bool) (x1 : Int) (x2 : Nat → Int) (x3 : Nat → Int) (x4 : Nat → Int), vs = [EV.ptr 0 [], EV.ptr 1 [], EV.ptr 2 [], EV.bool x0, EV.int .i64 x1] ∧ H = [some (EV.arr .u64 6 x2), some (EV.arr .u64 6 x3), some (EV.arr .u64 6 x4)]
 ·obtain ⟨x0, x1, x2, x3, x4, rfl, rfl⟩ := hx
  right; intro K
  exact exists_congr fun n => iff_of_eq (zdu.l2X.eq K n x0 x1 x2 x3 x4).symm
 ·left; intro K h
  simp only [zdu.l2.entry] at h
  split at h
  ·exact hx ⟨_, _, _, _, _, rfl, rfl⟩
  ·exact h
theorem X_zdu.eq (a0 : Nat → Int) (a1 : Nat → Int) (K : EV → yae → Prop) : yaO E_zdu Tryz.f46 false [.arr .u64 6 a0, .arr .u64 6 a1] [] K = zdu a0 a1 (fun y0 y1 => K (EV.tuple [EV.arr .u64 6 y0, EV.bool y1]) []) := by
 rw [zdu.is]; exact (yad _ _ _ _ _ _).symm.trans (by kernel_rfl)
theorem X_zdu.ok : SoundE Tryz.prog gl 46 e_zdu := by
 refine yaS (E := E_zdu) (fn := Tryz.f46) rfl tys_ok rfl (show yaP _ l_zdu from ⟨X_zeg.ok, trivial⟩) mixed (by kernel_rfl) (by kernel_rfl) (by kernel_rfl) 1 (by kernel_rfl) false ⟨zdu.l2X.ok, trivial⟩ ?_
 intro args H
 by_cases hx : ∃ (a0 : Nat → Int) (a1 : Nat → Int), args = [.arr .u64 6 a0, .arr .u64 6 a1] ∧ H = []
 ·obtain ⟨a0, a1, rfl, rfl⟩ := hx
  right; intro K
  exact iff_of_eq (X_zdu.eq a0 a1 K).symm
 ·left; intro K h
  simp only [e_zdu] at h
  split at h
  ·exact hx ⟨_, _, rfl, rfl⟩
  ·exact h
noncomputable def e_zdw : Entry := ⟨[none, none], false, fun args H K => match args, H with
 | [.arr .u64 6 a0, .int .i64 a1], [] => zdw a0 a1 (fun y0 => K (EV.bool y0) [])
 | _, _ => False⟩
noncomputable def E_zdw : Env := ⟨look tys, look [], look [], gl, yat [], false⟩
theorem X_zdw.eq (a0 : Nat → Int) (a1 : Int) (K : EV → yae → Prop) : yaO E_zdw Tryz.f62 false [.arr .u64 6 a0, .int .i64 a1] [] K = zdw a0 a1 (fun y0 => K (EV.bool y0) []) := by
 rw [zdw.is]; exact (yad _ _ _ _ _ _).symm.trans (by kernel_rfl)
theorem X_zdw.ok : SoundE Tryz.prog gl 62 e_zdw := by
 refine yaS (E := E_zdw) (fn := Tryz.f62) rfl tys_ok rfl (show yaP _ [] from trivial) mixed (by kernel_rfl) (by kernel_rfl) (by kernel_rfl) 0 (by kernel_rfl) false trivial ?_
 intro args H
 by_cases hx : ∃ (a0 : Nat → Int) (a1 : Int), args = [.arr .u64 6 a0, .int .i64 a1] ∧ H = []
 ·obtain ⟨a0, a1, rfl, rfl⟩ := hx
  right; intro K
  exact iff_of_eq (X_zdw.eq a0 a1 K).symm
 ·left; intro K h
  simp only [e_zdw] at h
  split at h
  ·exact hx ⟨_, _, rfl, rfl⟩
  ·exact h
noncomputable def e_zdv : Entry := ⟨[none, none], false, fun args H K => match args, H with
 | [.arr .u64 6 a0, .arr .u64 6 a1], [] => zdv a0 a1 (fun y0 => K (EV.arr .u64 6 y0) [])
 | _, _ => False⟩
noncomputable def E_zdv : Env := ⟨look tys, look [], look [(2, zdv.l2.entry)], gl, yat [], false⟩
theorem zdv.l2X.stepEq (R : List EV → yae → Prop) (K : Ex → List EV → yae → Prop) (x0 : Int) (x1 : Nat → Int) (x2 : Nat → Int) (x3 : Nat → Int) : yah (yar E_zdv (yaa Tryz.f64 0) { (LV.mk 20 [(0, 20)] 16 0 false) with nx := live (.loop (yaa Tryz.f64 0)) (LV.mk 20 [(0, 20)] 16 0 false) }) (live (.loop (yaa Tryz.f64 0)) (LV.mk 20 [(0, 20)] 16 0 false)) (LV.mk 20 [(0, 20)] 16 0 false) 0 19 R [EV.ptr 0 [], EV.ptr 1 [], EV.ptr 2 [], EV.int .i64 x0] [some (EV.arr .u64 6 x1), some (EV.arr .u64 6 x2), some (EV.arr .u64 6 x3)] K = zdv.l2.step (fun x0 x1 x2 x3 => R [EV.ptr 0 [], EV.ptr 1 [], EV.ptr 2 [], EV.int .i64 x0] [some (EV.arr .u64 6 x1), some (EV.arr .u64 6 x2), some (EV.arr .u64 6 x3)]) (fun y0 y1 => K (.exit 0) [EV.ptr 0 [], EV.ptr 1 []] [some (EV.arr .u64 6 y0), some (EV.arr .u64 6 y1)]) x0 x1 x2 x3 := (yau _ _ _ _ _ _ _ _ _ _ _).symm.trans (by kernel_rfl)
theorem zdv.l2X.eq (K : Ex → List EV → yae → Prop) : ∀ (n : Nat) (x0 : Int) (x1 : Nat → Int) (x2 : Nat → Int) (x3 : Nat → Int), yaq E_zdv (yaa Tryz.f64 0) (LV.mk 20 [(0, 20)] 16 0 false) 0 19 K n [EV.ptr 0 [], EV.ptr 1 [], EV.ptr 2 [], EV.int .i64 x0] [some (EV.arr .u64 6 x1), some (EV.arr .u64 6 x2), some (EV.arr .u64 6 x3)] = zdv.l2 (fun y0 y1 => K (.exit 0) [EV.ptr 0 [], EV.ptr 1 []] [some (EV.arr .u64 6 y0), some (EV.arr .u64 6 y1)]) n x0 x1 x2 x3
 | 0, _, _, _, _ => rfl
 | n + 1, x0, x1, x2, x3 => by
  have ih : (fun (x0 : Int) (x1 : Nat → Int) (x2 : Nat → Int) (x3 : Nat → Int) => yaq E_zdv (yaa Tryz.f64 0) (LV.mk 20 [(0, 20)] 16 0 false) 0 19 K n [EV.ptr 0 [], EV.ptr 1 [], EV.ptr 2 [], EV.int .i64 x0] [some (EV.arr .u64 6 x1), some (EV.arr .u64 6 x2), some (EV.arr .u64 6 x3)]) = zdv.l2 (fun y0 y1 => K (.exit 0) [EV.ptr 0 [], EV.ptr 1 []] [some (EV.arr .u64 6 y0), some (EV.arr .u64 6 y1)]) n := by funext x0 x1 x2 x3; exact zdv.l2X.eq K n x0 x1 x2 x3
  show yah _ _ _ _ _ (yaq E_zdv (yaa Tryz.f64 0) (LV.mk 20 [(0, 20)] 16 0 false) 0 19 K n) [EV.ptr 0 [], EV.ptr 1 [], EV.ptr 2 [], EV.int .i64 x0] [some (EV.arr .u64 6 x1), some (EV.arr .u64 6 x2), some (EV.arr .u64 6 x3)] K = zdv.l2.step (zdv.l2 (fun y0 y1 => K (.exit 0) [EV.ptr 0 [], EV.ptr 1 []] [some (EV.arr .u64 6 y0), some (EV.arr .u64 6 y1)]) n) (fun y0 y1 => K (.exit 0) [EV.ptr 0 [], EV.ptr 1 []] [some (EV.arr .u64 6 y0), some (EV.arr .u64 6 y1)]) x0 x1 x2 x3
  rw [← ih]
  exact zdv.l2X.stepEq _ K x0 x1 x2 x3
theorem zdv.l2X.ok : LoopEq E_zdv (yaa Tryz.f64 0) := by
 intro L hL vs H
 have h1 : E_zdv.lp (yag (yaa Tryz.f64 0)) = some zdv.l2.entry := by kernel_rfl
 have h2 : L = zdv.l2.entry := Option.some.inj (hL.symm.trans h1)
 subst h2
 by_cases hx : ∃ (x0 : Int) (x1 : Nat → Int) (x2 : Nat → Int) (x3 : Nat → Int), vs = [EV.ptr 0 [], EV.ptr 1 [], EV.ptr 2 [], EV.int .i64 x0] ∧ H = [some (EV.arr .u64 6 x1), some (EV.arr .u64 6 x2), some (EV.arr .u64 6 x3)]
 ·obtain ⟨x0, x1, x2, x3, rfl, rfl⟩ := hx
  right; intro K
  exact exists_congr fun n => iff_of_eq (zdv.l2X.eq K n x0 x1 x2 x3).symm
 ·left; intro K h
  simp only [zdv.l2.entry] at h
  split at h
  ·exact hx ⟨_, _, _, _, rfl, rfl⟩
  ·exact h
theorem X_zdv.eq (a0 : Nat → Int) (a1 : Nat → Int) (K : EV → yae → Prop) : yaO E_zdv Tryz.f64 false [.arr .u64 6 a0, .arr .u64 6 a1] [] K = zdv a0 a1 (fun y0 => K (EV.arr .u64 6 y0) []) := by
 rw [zdv.is]; exact (yad _ _ _ _ _ _).symm.trans (by kernel_rfl)
theorem X_zdv.ok : SoundE Tryz.prog gl 64 e_zdv := by
 refine yaS (E := E_zdv) (fn := Tryz.f64) rfl tys_ok rfl (show yaP _ [] from trivial) mixed (by kernel_rfl) (by kernel_rfl) (by kernel_rfl) 1 (by kernel_rfl) false ⟨zdv.l2X.ok, trivial⟩ ?_
 intro args H
 by_cases hx : ∃ (a0 : Nat → Int) (a1 : Nat → Int), args = [.arr .u64 6 a0, .arr .u64 6 a1] ∧ H = []
 ·obtain ⟨a0, a1, rfl, rfl⟩ := hx
  right; intro K
  exact iff_of_eq (X_zdv.eq a0 a1 K).symm
 ·left; intro K h
  simp only [e_zdv] at h
  split at h
  ·exact hx ⟨_, _, rfl, rfl⟩
  ·exact h
noncomputable def e_zek : Entry := ⟨[none], false, fun args H K => match args, H with
 | [.int .i64 a0], [] => zek a0 (fun y0 => K (EV.int .u64 y0) [])
 | _, _ => False⟩
noncomputable def E_zek : Env := ⟨look tys, look [], look [], gl, yat [], false⟩
theorem X_zek.eq (a0 : Int) (K : EV → yae → Prop) : yaO E_zek Tryz.f184 false [.int .i64 a0] [] K = zek a0 (fun y0 => K (EV.int .u64 y0) []) := by
 rw [zek.is]; exact (yad _ _ _ _ _ _).symm.trans (by kernel_rfl)
theorem X_zek.ok : SoundE Tryz.prog gl 184 e_zek := by
 refine yaS (E := E_zek) (fn := Tryz.f184) rfl tys_ok rfl (show yaP _ [] from trivial) mixed (by kernel_rfl) (by kernel_rfl) (by kernel_rfl) 0 (by kernel_rfl) false trivial ?_
 intro args H
 by_cases hx : ∃ (a0 : Int), args = [.int .i64 a0] ∧ H = []
 ·obtain ⟨a0, rfl, rfl⟩ := hx
  right; intro K
  exact iff_of_eq (X_zek.eq a0 K).symm
 ·left; intro K h
  simp only [e_zek] at h
  split at h
  ·exact hx ⟨_, rfl, rfl⟩
  ·exact h
noncomputable def e_zej : Entry := ⟨[none], false, fun args H K => match args, H with
 | [.int .i64 a0], [] => zej a0 (fun y0 => K (EV.int .u64 y0) [])
 | _, _ => False⟩
noncomputable def l_zej : List (Nat × Entry) := [(184, e_zek)]
noncomputable def E_zej : Env := ⟨look tys, look l_zej, look [], gl, yat [], false⟩
theorem X_zej.eq (a0 : Int) (K : EV → yae → Prop) : yaO E_zej Tryz.f135 false [.int .i64 a0] [] K = zej a0 (fun y0 => K (EV.int .u64 y0) []) := by
 rw [zej.is]; exact (yad _ _ _ _ _ _).symm.trans (by kernel_rfl)
theorem X_zej.ok : SoundE Tryz.prog gl 135 e_zej := by
 refine yaS (E := E_zej) (fn := Tryz.f135) rfl tys_ok rfl (show yaP _ l_zej from ⟨X_zek.ok, trivial⟩) mixed (by kernel_rfl) (by kernel_rfl) (by kernel_rfl) 0 (by kernel_rfl) false trivial ?_
 intro args H
 by_cases hx : ∃ (a0 : Int), args = [.int .i64 a0] ∧ H = []
 ·obtain ⟨a0, rfl, rfl⟩ := hx
  right; intro K
  exact iff_of_eq (X_zej.eq a0 K).symm
 ·left; intro K h
  simp only [e_zej] at h
  split at h
  ·exact hx ⟨_, rfl, rfl⟩
  ·exact h
noncomputable def e_zea : Entry := ⟨[none], false, fun args H K => match args, H with
 | [.int .i64 a0], [] => zea a0 (fun y0 => K (EV.arr .u64 6 y0) [])
 | _, _ => False⟩
noncomputable def l_zea : List (Nat × Entry) := [(110, e_zef), (135, e_zej)]
noncomputable def E_zea : Env := ⟨look tys, look l_zea, look [(4, zea.l4.entry)], gl, yat [], false⟩
theorem zea.l4X.stepEq (R : List EV → yae → Prop) (K : Ex → List EV → yae → Prop) (x0 : Int) (x1 : Int) (x2 : Nat → Int) (x3 : Nat → Int) : yah (yar E_zea (yaa Tryz.f65 0) { (LV.mk 12 [(0, 12)] 4 0 false) with nx := live (.loop (yaa Tryz.f65 0)) (LV.mk 12 [(0, 12)] 4 0 false) }) (live (.loop (yaa Tryz.f65 0)) (LV.mk 12 [(0, 12)] 4 0 false)) (LV.mk 12 [(0, 12)] 4 0 false) 0 19 R [EV.int .i64 x0, EV.ptr 0 [], EV.ptr 1 [], EV.int .i64 x1] [some (EV.arr .u64 6 x2), some (EV.arr .u64 6 x3)] K = zea.l4.step (fun x0 x1 x2 x3 => R [EV.int .i64 x0, EV.ptr 0 [], EV.ptr 1 [], EV.int .i64 x1] [some (EV.arr .u64 6 x2), some (EV.arr .u64 6 x3)]) (fun y0 y1 => K (.exit 0) [EV.ptr 0 [], EV.ptr 1 []] [some (EV.arr .u64 6 y0), some (EV.arr .u64 6 y1)]) x0 x1 x2 x3 := (yau _ _ _ _ _ _ _ _ _ _ _).symm.trans (by kernel_rfl)
theorem zea.l4X.eq (K : Ex → List EV → yae → Prop) : ∀ (n : Nat) (x0 : Int) (x1 : Int) (x2 : Nat → Int) (x3 : Nat → Int), yaq E_zea (yaa Tryz.f65 0) (LV.mk 12 [(0, 12)] 4 0 false) 0 19 K n [EV.int .i64 x0, EV.ptr 0 [], EV.ptr 1 [], EV.int .i64 x1] [some (EV.arr .u64 6 x2), some (EV.arr .u64 6 x3)] = zea.l4 (fun y0 y1 => K (.exit 0) [EV.ptr 0 [], EV.ptr 1 []] [some (EV.arr .u64 6 y0), some (EV.arr .u64 6 y1)]) n x0 x1 x2 x3
 | 0, _, _, _, _ => rfl
 | n + 1, x0, x1, x2, x3 => by
  have ih : (fun (x0 : Int) (x1 : Int) (x2 : Nat → Int) (x3 : Nat → Int) => yaq E_zea (yaa Tryz.f65 0) (LV.mk 12 [(0, 12)] 4 0 false) 0 19 K n [EV.int .i64 x0, EV.ptr 0 [], EV.ptr 1 [], EV.int .i64 x1] [some (EV.arr .u64 6 x2), some (EV.arr .u64 6 x3)]) = zea.l4 (fun y0 y1 => K (.exit 0) [EV.ptr 0 [], EV.ptr 1 []] [some (EV.arr .u64 6 y0), some (EV.arr .u64 6 y1)]) n := by funext x0 x1 x2 x3; exact zea.l4X.eq K n x0 x1 x2 x3
  show yah _ _ _ _ _ (yaq E_zea (yaa Tryz.f65 0) (LV.mk 12 [(0, 12)] 4 0 false) 0 19 K n) [EV.int .i64 x0, EV.ptr 0 [], EV.ptr 1 [], EV.int .i64 x1] [some (EV.arr .u64 6 x2), some (EV.arr .u64 6 x3)] K = zea.l4.step (zea.l4 (fun y0 y1 => K (.exit 0) [EV.ptr 0 [], EV.ptr 1 []] [some (EV.arr .u64 6 y0), some (EV.arr .u64 6 y1)]) n) (fun y0 y1 => K (.exit 0) [EV.ptr 0 [], EV.ptr 1 []] [some (EV.arr .u64 6 y0), some (EV.arr .u64 6 y1)]) x0 x1 x2 x3
  rw [← ih]
  exact zea.l4X.stepEq _ K x0 x1 x2 x3
theorem zea.l4X.ok : LoopEq E_zea (yaa Tryz.f65 0) := by
 intro L hL vs H
 have h1 : E_zea.lp (yag (yaa Tryz.f65 0)) = some zea.l4.entry := by kernel_rfl
 have h2 : L = zea.l4.entry := Option.some.inj (hL.symm.trans h1)
 subst h2
 by_cases hx : ∃ (x0 : Int) (x1 : Int) (x2 : Nat → Int) (x3 : Nat → Int), vs = [EV.int .i64 x0, EV.ptr 0 [], EV.ptr 1 [], EV.int .i64 x1] ∧ H = [some (EV.arr .u64 6 x2), some (EV.arr .u64 6 x3)]
 ·obtain ⟨x0, x1, x2, x3, rfl, rfl⟩ := hx
  right; intro K
  exact exists_congr fun n => iff_of_eq (zea.l4X.eq K n x0 x1 x2 x3).symm
 ·left; intro K h
  simp only [zea.l4.entry] at h
  split at h
  ·exact hx ⟨_, _, _, _, rfl, rfl⟩
  ·exact h
theorem X_zea.eq (a0 : Int) (K : EV → yae → Prop) : yaO E_zea Tryz.f65 false [.int .i64 a0] [] K = zea a0 (fun y0 => K (EV.arr .u64 6 y0) []) := by
 rw [zea.is]; exact (yad _ _ _ _ _ _).symm.trans (by kernel_rfl)
theorem X_zea.ok : SoundE Tryz.prog gl 65 e_zea := by
 refine yaS (E := E_zea) (fn := Tryz.f65) rfl tys_ok rfl (show yaP _ l_zea from ⟨X_zef.ok, X_zej.ok, trivial⟩) mixed (by kernel_rfl) (by kernel_rfl) (by kernel_rfl) 1 (by kernel_rfl) false ⟨zea.l4X.ok, trivial⟩ ?_
 intro args H
 by_cases hx : ∃ (a0 : Int), args = [.int .i64 a0] ∧ H = []
 ·obtain ⟨a0, rfl, rfl⟩ := hx
  right; intro K
  exact iff_of_eq (X_zea.eq a0 K).symm
 ·left; intro K h
  simp only [e_zea] at h
  split at h
  ·exact hx ⟨_, rfl, rfl⟩
  ·exact h
noncomputable def e_zab : Entry := ⟨[none], false, fun args H K => match args, H with
 | [.int .u64 a0], [] => zab a0 (fun y0 => K (EV.int .i64 y0) [])
 | _, _ => False⟩
noncomputable def E_zab : Env := ⟨look tys, look [], look [], gl, yat [], false⟩
theorem X_zab.eq (a0 : Int) (K : EV → yae → Prop) : yaO E_zab Tryz.f199 false [.int .u64 a0] [] K = zab a0 (fun y0 => K (EV.int .i64 y0) []) := by
 rw [zab.is]; exact (yad _ _ _ _ _ _).symm.trans (by kernel_rfl)
theorem X_zab.ok : SoundE Tryz.prog gl 199 e_zab := by
 refine yaS (E := E_zab) (fn := Tryz.f199) rfl tys_ok rfl (show yaP _ [] from trivial) mixed (by kernel_rfl) (by kernel_rfl) (by kernel_rfl) 0 (by kernel_rfl) false trivial ?_
 intro args H
 by_cases hx : ∃ (a0 : Int), args = [.int .u64 a0] ∧ H = []
 ·obtain ⟨a0, rfl, rfl⟩ := hx
  right; intro K
  exact iff_of_eq (X_zab.eq a0 K).symm
 ·left; intro K h
  simp only [e_zab] at h
  split at h
  ·exact hx ⟨_, rfl, rfl⟩
  ·exact h
noncomputable def e_zei : Entry := ⟨[none], false, fun args H K => match args, H with
 | [.int .u64 a0], [] => zei a0 (fun y0 => K (EV.int .i64 y0) [])
 | _, _ => False⟩
noncomputable def l_zei : List (Nat × Entry) := [(199, e_zab)]
noncomputable def E_zei : Env := ⟨look tys, look l_zei, look [], gl, yat [], false⟩
theorem X_zei.eq (a0 : Int) (K : EV → yae → Prop) : yaO E_zei Tryz.f173 false [.int .u64 a0] [] K = zei a0 (fun y0 => K (EV.int .i64 y0) []) := by
 rw [zei.is]; exact (yad _ _ _ _ _ _).symm.trans (by kernel_rfl)
theorem X_zei.ok : SoundE Tryz.prog gl 173 e_zei := by
 refine yaS (E := E_zei) (fn := Tryz.f173) rfl tys_ok rfl (show yaP _ l_zei from ⟨X_zab.ok, trivial⟩) mixed (by kernel_rfl) (by kernel_rfl) (by kernel_rfl) 0 (by kernel_rfl) false trivial ?_
 intro args H
 by_cases hx : ∃ (a0 : Int), args = [.int .u64 a0] ∧ H = []
 ·obtain ⟨a0, rfl, rfl⟩ := hx
  right; intro K
  exact iff_of_eq (X_zei.eq a0 K).symm
 ·left; intro K h
  simp only [e_zei] at h
  split at h
  ·exact hx ⟨_, rfl, rfl⟩
  ·exact h
noncomputable def e_zdz : Entry := ⟨[none], false, fun args H K => match args, H with
 | [.arr .u64 6 a0], [] => zdz a0 (fun y0 => K (EV.int .i64 y0) [])
 | _, _ => False⟩
noncomputable def l_zdz : List (Nat × Entry) := [(173, e_zei)]
noncomputable def E_zdz : Env := ⟨look tys, look l_zdz, look [(2, zdz.l2.entry)], gl, yat [], false⟩
theorem zdz.l2X.stepEq (R : List EV → yae → Prop) (K : Ex → List EV → yae → Prop) (x0 : Nat → Int) (x1 : Int) : yah (yar E_zdz (yaa Tryz.f194 0) { (LV.mk 0 [(0, 0)] 4 0 false) with nx := live (.loop (yaa Tryz.f194 0)) (LV.mk 0 [(0, 0)] 4 0 false) }) (live (.loop (yaa Tryz.f194 0)) (LV.mk 0 [(0, 0)] 4 0 false)) (LV.mk 0 [(0, 0)] 4 0 false) 0 18 R [EV.arr .u64 6 x0, EV.int .i64 x1] [] K = zdz.l2.step (fun x0 x1 => R [EV.arr .u64 6 x0, EV.int .i64 x1] []) (fun y0 => K .ret [EV.int .i64 y0] []) (K (.exit 0) [] []) x0 x1 := (yau _ _ _ _ _ _ _ _ _ _ _).symm.trans (by kernel_rfl)
theorem zdz.l2X.eq (K : Ex → List EV → yae → Prop) : ∀ (n : Nat) (x0 : Nat → Int) (x1 : Int), yaq E_zdz (yaa Tryz.f194 0) (LV.mk 0 [(0, 0)] 4 0 false) 0 18 K n [EV.arr .u64 6 x0, EV.int .i64 x1] [] = zdz.l2 (fun y0 => K .ret [EV.int .i64 y0] []) (K (.exit 0) [] []) n x0 x1
 | 0, _, _ => rfl
 | n + 1, x0, x1 => by
  have ih : (fun (x0 : Nat → Int) (x1 : Int) => yaq E_zdz (yaa Tryz.f194 0) (LV.mk 0 [(0, 0)] 4 0 false) 0 18 K n [EV.arr .u64 6 x0, EV.int .i64 x1] []) = zdz.l2 (fun y0 => K .ret [EV.int .i64 y0] []) (K (.exit 0) [] []) n := by funext x0 x1; exact zdz.l2X.eq K n x0 x1
  show yah _ _ _ _ _ (yaq E_zdz (yaa Tryz.f194 0) (LV.mk 0 [(0, 0)] 4 0 false) 0 18 K n) [EV.arr .u64 6 x0, EV.int .i64 x1] [] K = zdz.l2.step (zdz.l2 (fun y0 => K .ret [EV.int .i64 y0] []) (K (.exit 0) [] []) n) (fun y0 => K .ret [EV.int .i64 y0] []) (K (.exit 0) [] []) x0 x1
  rw [← ih]
  exact zdz.l2X.stepEq _ K x0 x1
theorem zdz.l2X.ok : LoopEq E_zdz (yaa Tryz.f194 0) := by
 intro L hL vs H
 have h1 : E_zdz.lp (yag (yaa Tryz.f194 0)) = some zdz.l2.entry := by kernel_rfl
 have h2 : L = zdz.l2.entry := Option.some.inj (hL.symm.trans h1)
 subst h2
 by_cases hx : ∃ (x0 : Nat → Int) (x1 : Int), vs = [EV.arr .u64 6 x0, EV.int .i64 x1] ∧ H = []
 ·obtain ⟨x0, x1, rfl, rfl⟩ := hx
  right; intro K
  exact exists_congr fun n => iff_of_eq (zdz.l2X.eq K n x0 x1).symm
 ·left; intro K h
  simp only [zdz.l2.entry] at h
  split at h
  ·exact hx ⟨_, _, rfl, rfl⟩
  ·exact h
theorem X_zdz.eq (a0 : Nat → Int) (K : EV → yae → Prop) : yaO E_zdz Tryz.f194 false [.arr .u64 6 a0] [] K = zdz a0 (fun y0 => K (EV.int .i64 y0) []) := by
 rw [zdz.is]; exact (yad _ _ _ _ _ _).symm.trans (by kernel_rfl)
theorem X_zdz.ok : SoundE Tryz.prog gl 194 e_zdz := by
 refine yaS (E := E_zdz) (fn := Tryz.f194) rfl tys_ok rfl (show yaP _ l_zdz from ⟨X_zei.ok, trivial⟩) mixed (by kernel_rfl) (by kernel_rfl) (by kernel_rfl) 1 (by kernel_rfl) false ⟨zdz.l2X.ok, trivial⟩ ?_
 intro args H
 by_cases hx : ∃ (a0 : Nat → Int), args = [.arr .u64 6 a0] ∧ H = []
 ·obtain ⟨a0, rfl, rfl⟩ := hx
  right; intro K
  exact iff_of_eq (X_zdz.eq a0 K).symm
 ·left; intro K h
  simp only [e_zdz] at h
  split at h
  ·exact hx ⟨_, rfl, rfl⟩
  ·exact h
noncomputable def e_zed : Entry := ⟨[none, none], false, fun args H K => match args, H with
 | [.arr .u64 6 a0, .int .i64 a1], [] => zed a0 a1 (fun y0 y1 => K (EV.tuple [EV.arr .u64 6 y0, EV.bool y1]) [])
 | _, _ => False⟩
noncomputable def l_zed : List (Nat × Entry) := [(110, e_zef), (194, e_zdz)]
noncomputable def E_zed : Env := ⟨look tys, look l_zed, look [(5, zed.l5.entry)], gl, yat [], false⟩
theorem zed.l5X.stepEq (R : List EV → yae → Prop) (K : Ex → List EV → yae → Prop) (x0 : Bool) (x1 : Int) (x2 : Int) (x3 : Int) (x4 : Nat → Int) (x5 : Nat → Int) : yah (yar E_zed (yaa Tryz.f163 0) { (LV.mk 48 [(0, 48)] 48 0 false) with nx := live (.loop (yaa Tryz.f163 0)) (LV.mk 48 [(0, 48)] 48 0 false) }) (live (.loop (yaa Tryz.f163 0)) (LV.mk 48 [(0, 48)] 48 0 false)) (LV.mk 48 [(0, 48)] 48 0 false) 0 60 R [EV.ptr 0 [], EV.ptr 1 [], EV.bool x0, EV.int .i64 x1, EV.int .u64 x2, EV.int .i64 x3] [some (EV.arr .u64 6 x4), some (EV.arr .u64 6 x5)] K = zed.l5.step (fun x0 x1 x2 x3 x4 x5 => R [EV.ptr 0 [], EV.ptr 1 [], EV.bool x0, EV.int .i64 x1, EV.int .u64 x2, EV.int .i64 x3] [some (EV.arr .u64 6 x4), some (EV.arr .u64 6 x5)]) (fun y0 y1 => K (.exit 0) [EV.ptr 0 [], EV.bool y0] [some (EV.arr .u64 6 y1)]) x0 x1 x2 x3 x4 x5 := (yau _ _ _ _ _ _ _ _ _ _ _).symm.trans (by kernel_rfl)
theorem zed.l5X.eq (K : Ex → List EV → yae → Prop) : ∀ (n : Nat) (x0 : Bool) (x1 : Int) (x2 : Int) (x3 : Int) (x4 : Nat → Int) (x5 : Nat → Int), yaq E_zed (yaa Tryz.f163 0) (LV.mk 48 [(0, 48)] 48 0 false) 0 60 K n [EV.ptr 0 [], EV.ptr 1 [], EV.bool x0, EV.int .i64 x1, EV.int .u64 x2, EV.int .i64 x3] [some (EV.arr .u64 6 x4), some (EV.arr .u64 6 x5)] = zed.l5 (fun y0 y1 => K (.exit 0) [EV.ptr 0 [], EV.bool y0] [some (EV.arr .u64 6 y1)]) n x0 x1 x2 x3 x4 x5
 | 0, _, _, _, _, _, _ => rfl
 | n + 1, x0, x1, x2, x3, x4, x5 => by
  have ih : (fun (x0 : Bool) (x1 : Int) (x2 : Int) (x3 : Int) (x4 : Nat → Int) (x5 : Nat → Int) => yaq E_zed (yaa Tryz.f163 0) (LV.mk 48 [(0, 48)] 48 0 false) 0 60 K n [EV.ptr 0 [], EV.ptr 1 [], EV.bool x0, EV.int .i64 x1, EV.int .u64 x2, EV.int .i64 x3] [some (EV.arr .u64 6 x4), some (EV.arr .u64 6 x5)]) = zed.l5 (fun y0 y1 => K (.exit 0) [EV.ptr 0 [], EV.bool y0] [some (EV.arr .u64 6 y1)]) n := by funext x0 x1 x2 x3 x4 x5; exact zed.l5X.eq K n x0 x1 x2 x3 x4 x5
  show yah _ _ _ _ _ (yaq E_zed (yaa Tryz.f163 0) (LV.mk 48 [(0, 48)] 48 0 false) 0 60 K n) [EV.ptr 0 [], EV.ptr 1 [], EV.bool x0, EV.int .i64 x1, EV.int .u64 x2, EV.int .i64 x3] [some (EV.arr .u64 6 x4), some (EV.arr .u64 6 x5)] K = zed.l5.step (zed.l5 (fun y0 y1 => K (.exit 0) [EV.ptr 0 [], EV.bool y0] [some (EV.arr .u64 6 y1)]) n) (fun y0 y1 => K (.exit 0) [EV.ptr 0 [], EV.bool y0] [some (EV.arr .u64 6 y1)]) x0 x1 x2 x3 x4 x5
  rw [← ih]
  exact zed.l5X.stepEq _ K x0 x1 x2 x3 x4 x5
theorem zed.l5X.ok : LoopEq E_zed (yaa Tryz.f163 0) := by
 intro L hL vs H
 have h1 : E_zed.lp (yag (yaa Tryz.f163 0)) = some zed.l5.entry := by kernel_rfl
 have h2 : L = zed.l5.entry := Option.some.inj (hL.symm.trans h1)
 subst h2
 by_cases hx : ∃ (x0 : Bool) (x1 : Int) (x2 : Int) (x3 : Int) (x4 : Nat → Int) (x5 : Nat → Int), vs = [EV.ptr 0 [], EV.ptr 1 [], EV.bool x0, EV.int .i64 x1, EV.int .u64 x2, EV.int .i64 x3] ∧ H = [some (EV.arr .u64 6 x4), some (EV.arr .u64 6 x5)]
 ·obtain ⟨x0, x1, x2, x3, x4, x5, rfl, rfl⟩ := hx
  right; intro K
  exact exists_congr fun n => iff_of_eq (zed.l5X.eq K n x0 x1 x2 x3 x4 x5).symm
 ·left; intro K h
  simp only [zed.l5.entry] at h
  split at h
  ·exact hx ⟨_, _, _, _, _, _, rfl, rfl⟩
  ·exact h
theorem X_zed.eq (a0 : Nat → Int) (a1 : Int) (K : EV → yae → Prop) : yaO E_zed Tryz.f163 false [.arr .u64 6 a0, .int .i64 a1] [] K = zed a0 a1 (fun y0 y1 => K (EV.tuple [EV.arr .u64 6 y0, EV.bool y1]) []) := by
 rw [zed.is]; exact (yad _ _ _ _ _ _).symm.trans (by kernel_rfl)
theorem X_zed.ok : SoundE Tryz.prog gl 163 e_zed := by
 refine yaS (E := E_zed) (fn := Tryz.f163) rfl tys_ok rfl (show yaP _ l_zed from ⟨X_zef.ok, X_zdz.ok, trivial⟩) mixed (by kernel_rfl) (by kernel_rfl) (by kernel_rfl) 1 (by kernel_rfl) false ⟨zed.l5X.ok, trivial⟩ ?_
 intro args H
 by_cases hx : ∃ (a0 : Nat → Int) (a1 : Int), args = [.arr .u64 6 a0, .int .i64 a1] ∧ H = []
 ·obtain ⟨a0, a1, rfl, rfl⟩ := hx
  right; intro K
  exact iff_of_eq (X_zed.eq a0 a1 K).symm
 ·left; intro K h
  simp only [e_zed] at h
  split at h
  ·exact hx ⟨_, _, rfl, rfl⟩
  ·exact h
noncomputable def e_zal : Entry := ⟨[none, none], false, fun args H K => match args, H with
 | [.arr .u64 6 a0, .int .i64 a1], [] => zal a0 a1 (fun y0 y1 y2 => K (EV.tuple [EV.arr .u64 6 y0, EV.int .i64 y1, EV.bool y2]) [])
 | _, _ => False⟩
noncomputable def l_zal : List (Nat × Entry) := [(62, e_zdw), (64, e_zdv), (65, e_zea), (163, e_zed)]
noncomputable def E_zal : Env := ⟨look tys, look l_zal, look [], gl, yat [], false⟩
theorem X_zal.eq (a0 : Nat → Int) (a1 : Int) (K : EV → yae → Prop) : yaO E_zal Tryz.f108 false [.arr .u64 6 a0, .int .i64 a1] [] K = zal a0 a1 (fun y0 y1 y2 => K (EV.tuple [EV.arr .u64 6 y0, EV.int .i64 y1, EV.bool y2]) []) := by
 rw [zal.is]; exact (yad _ _ _ _ _ _).symm.trans (by kernel_rfl)
theorem X_zal.ok : SoundE Tryz.prog gl 108 e_zal := by
 refine yaS (E := E_zal) (fn := Tryz.f108) rfl tys_ok rfl (show yaP _ l_zal from ⟨X_zdw.ok, X_zdv.ok, X_zea.ok, X_zed.ok, trivial⟩) mixed (by kernel_rfl) (by kernel_rfl) (by kernel_rfl) 0 (by kernel_rfl) false trivial ?_
 intro args H
 by_cases hx : ∃ (a0 : Nat → Int) (a1 : Int), args = [.arr .u64 6 a0, .int .i64 a1] ∧ H = []
 ·obtain ⟨a0, a1, rfl, rfl⟩ := hx
  right; intro K
  exact iff_of_eq (X_zal.eq a0 a1 K).symm
 ·left; intro K h
  simp only [e_zal] at h
  split at h
  ·exact hx ⟨_, _, rfl, rfl⟩
  ·exact h
noncomputable def e_zcv : Entry := ⟨[none, none, none, none, none], false, fun args H K => match args, H with
 | [.int .u8 a0, .bool a1, .bool a2, .int .i64 a3, .bool a4], [] => zcv a0 a1 a2 a3 a4 (fun y0 => K (EV.bool y0) [])
 | _, _ => False⟩
noncomputable def E_zcv : Env := ⟨look tys, look [], look [], gl, yat [], false⟩
theorem X_zcv.eq (a0 : Int) (a1 : Bool) (a2 : Bool) (a3 : Int) (a4 : Bool) (K : EV → yae → Prop) : yaO E_zcv Tryz.f109 false [.int .u8 a0, .bool a1, .bool a2, .int .i64 a3, .bool a4] [] K = zcv a0 a1 a2 a3 a4 (fun y0 => K (EV.bool y0) []) := by
 rw [zcv.is]; exact (yad _ _ _ _ _ _).symm.trans (by kernel_rfl)
theorem X_zcv.ok : SoundE Tryz.prog gl 109 e_zcv := by
 refine yaS (E := E_zcv) (fn := Tryz.f109) rfl tys_ok rfl (show yaP _ [] from trivial) mixed (by kernel_rfl) (by kernel_rfl) (by kernel_rfl) 0 (by kernel_rfl) false trivial ?_
 intro args H
 by_cases hx : ∃ (a0 : Int) (a1 : Bool) (a2 : Bool) (a3 : Int) (a4 : Bool), args = [.int .u8 a0, .bool a1, .bool a2, .int .i64 a3, .bool a4] ∧ H = []
 ·obtain ⟨a0, a1, a2, a3, a4, rfl, rfl⟩ := hx
  right; intro K
  exact iff_of_eq (X_zcv.eq a0 a1 a2 a3 a4 K).symm
 ·left; intro K h
  simp only [e_zcv] at h
  split at h
  ·exact hx ⟨_, _, _, _, _, rfl, rfl⟩
  ·exact h
noncomputable def e_zcw : Entry := ⟨[none, none, none], false, fun args H K => match args, H with
 | [.int .u8 a0, .agg [.bool a1_0, .arr .u64 6 a1_1, .int .i64 a1_2, .bool a1_3], .int .i64 a2], [] => zcw a0 a1_0 a1_1 a1_2 a1_3 a2 (fun y0 y1 => K (EV.tuple [EV.arr .u64 6 y0, EV.bool y1]) [])
 | _, _ => False⟩
noncomputable def l_zcw : List (Nat × Entry) := [(44, e_zdx), (45, e_zeb), (46, e_zdu), (108, e_zal), (109, e_zcv)]
noncomputable def E_zcw : Env := ⟨look tys, look l_zcw, look [], gl, yat [], false⟩
theorem X_zcw.eq (a0 : Int) (a1_0 : Bool) (a1_1 : Nat → Int) (a1_2 : Int) (a1_3 : Bool) (a2 : Int) (K : EV → yae → Prop) : yaO E_zcw Tryz.f42 false [.int .u8 a0, .agg [.bool a1_0, .arr .u64 6 a1_1, .int .i64 a1_2, .bool a1_3], .int .i64 a2] [] K = zcw a0 a1_0 a1_1 a1_2 a1_3 a2 (fun y0 y1 => K (EV.tuple [EV.arr .u64 6 y0, EV.bool y1]) []) := by
 rw [zcw.is]; exact (yad _ _ _ _ _ _).symm.trans (by kernel_rfl)
theorem X_zcw.ok : SoundE Tryz.prog gl 42 e_zcw := by
 refine yaS (E := E_zcw) (fn := Tryz.f42) rfl tys_ok rfl (show yaP _ l_zcw from ⟨X_zdx.ok, X_zeb.ok, X_zdu.ok, X_zal.ok, X_zcv.ok, trivial⟩) mixed (by kernel_rfl) (by kernel_rfl) (by kernel_rfl) 0 (by kernel_rfl) false trivial ?_
 intro args H
 by_cases hx : ∃ (a0 : Int) (a1_0 : Bool) (a1_1 : Nat → Int) (a1_2 : Int) (a1_3 : Bool) (a2 : Int), args = [.int .u8 a0, .agg [.bool a1_0, .arr .u64 6 a1_1, .int .i64 a1_2, .bool a1_3], .int .i64 a2] ∧ H = []
 ·obtain ⟨a0, a1_0, a1_1, a1_2, a1_3, a2, rfl, rfl⟩ := hx
  right; intro K
  exact iff_of_eq (X_zcw.eq a0 a1_0 a1_1 a1_2 a1_3 a2 K).symm
 ·left; intro K h
  simp only [e_zcw] at h
  split at h
  ·exact hx ⟨_, _, _, _, _, _, rfl, rfl⟩
  ·exact h
noncomputable def e_zcy : Entry := ⟨[none, none, none, none], false, fun args H K => match args, H with
 | [.int .u8 a0, .int .u8 a1, .agg [.bool a2_0, .arr .u64 6 a2_1, .int .i64 a2_2, .bool a2_3], .int .i64 a3], [] => zcy a0 a1 a2_0 a2_1 a2_2 a2_3 a3 (fun y0 => K (EV.bool y0) [])
 | _, _ => False⟩
noncomputable def l_zcy : List (Nat × Entry) := [(35, e_zdn), (37, e_zdy), (39, e_zdk), (42, e_zcw)]
noncomputable def E_zcy : Env := ⟨look tys, look l_zcy, look [], gl, yat [], false⟩
theorem X_zcy.eq (a0 : Int) (a1 : Int) (a2_0 : Bool) (a2_1 : Nat → Int) (a2_2 : Int) (a2_3 : Bool) (a3 : Int) (K : EV → yae → Prop) : yaO E_zcy Tryz.f43 false [.int .u8 a0, .int .u8 a1, .agg [.bool a2_0, .arr .u64 6 a2_1, .int .i64 a2_2, .bool a2_3], .int .i64 a3] [] K = zcy a0 a1 a2_0 a2_1 a2_2 a2_3 a3 (fun y0 => K (EV.bool y0) []) := by
 rw [zcy.is]; exact (yad _ _ _ _ _ _).symm.trans (by kernel_rfl)
theorem X_zcy.ok : SoundE Tryz.prog gl 43 e_zcy := by
 refine yaS (E := E_zcy) (fn := Tryz.f43) rfl tys_ok rfl (show yaP _ l_zcy from ⟨X_zdn.ok, X_zdy.ok, X_zdk.ok, X_zcw.ok, trivial⟩) mixed (by kernel_rfl) (by kernel_rfl) (by kernel_rfl) 0 (by kernel_rfl) false trivial ?_
 intro args H
 by_cases hx : ∃ (a0 : Int) (a1 : Int) (a2_0 : Bool) (a2_1 : Nat → Int) (a2_2 : Int) (a2_3 : Bool) (a3 : Int), args = [.int .u8 a0, .int .u8 a1, .agg [.bool a2_0, .arr .u64 6 a2_1, .int .i64 a2_2, .bool a2_3], .int .i64 a3] ∧ H = []
 ·obtain ⟨a0, a1, a2_0, a2_1, a2_2, a2_3, a3, rfl, rfl⟩ := hx
  right; intro K
  exact iff_of_eq (X_zcy.eq a0 a1 a2_0 a2_1 a2_2 a2_3 a3 K).symm
 ·left; intro K h
  simp only [e_zcy] at h
  split at h
  ·exact hx ⟨_, _, _, _, _, _, _, rfl, rfl⟩
  ·exact h
noncomputable def e_zee : Entry := ⟨[none], false, fun args H K => match args, H with
 | [.arr .u64 6 a0], [] => zee a0 (fun y0 y1 y2 => K (EV.tuple [EV.agg [EV.int .u64 y0, EV.int .u64 y1], EV.bool y2]) [])
 | _, _ => False⟩
noncomputable def E_zee : Env := ⟨look tys, look [], look [], gl, yat [], false⟩
theorem X_zee.eq (a0 : Nat → Int) (K : EV → yae → Prop) : yaO E_zee Tryz.f47 false [.arr .u64 6 a0] [] K = zee a0 (fun y0 y1 y2 => K (EV.tuple [EV.agg [EV.int .u64 y0, EV.int .u64 y1], EV.bool y2]) []) := by
 rw [zee.is]; exact (yad _ _ _ _ _ _).symm.trans (by kernel_rfl)
theorem X_zee.ok : SoundE Tryz.prog gl 47 e_zee := by
 refine yaS (E := E_zee) (fn := Tryz.f47) rfl tys_ok rfl (show yaP _ [] from trivial) mixed (by kernel_rfl) (by kernel_rfl) (by kernel_rfl) 0 (by kernel_rfl) false trivial ?_
 intro args H
 by_cases hx : ∃ (a0 : Nat → Int), args = [.arr .u64 6 a0] ∧ H = []
 ·obtain ⟨a0, rfl, rfl⟩ := hx
  right; intro K
  exact iff_of_eq (X_zee.eq a0 K).symm
 ·left; intro K h
  simp only [e_zee] at h
  split at h
  ·exact hx ⟨_, rfl, rfl⟩
  ·exact h
noncomputable def e_zcu : Entry := ⟨[none, none, none], false, fun args H K => match args, H with
 | [.int .u8 a0, .int .u8 a1, .agg [.bool a2_0, .arr .u64 6 a2_1, .int .i64 a2_2, .bool a2_3]], [] => zcu a0 a1 a2_0 a2_1 a2_2 a2_3 (fun y0 y1 y2 y3 => K (EV.tuple [EV.agg [EV.int .u64 y0, EV.int .u64 y1], EV.int .u8 y2, EV.int .i64 y3]) [])
 | _, _ => False⟩
noncomputable def l_zcu : List (Nat × Entry) := [(35, e_zdn), (36, e_zcx), (37, e_zdy), (38, e_zdp), (39, e_zdk), (40, e_zdj), (41, e_zct), (42, e_zcw), (43, e_zcy), (44, e_zdx), (45, e_zeb), (46, e_zdu), (47, e_zee)]
noncomputable def E_zcu : Env := ⟨look tys, look l_zcu, look [], gl, yat [], false⟩
theorem X_zcu.eq (a0 : Int) (a1 : Int) (a2_0 : Bool) (a2_1 : Nat → Int) (a2_2 : Int) (a2_3 : Bool) (K : EV → yae → Prop) : yaO E_zcu Tryz.f8 false [.int .u8 a0, .int .u8 a1, .agg [.bool a2_0, .arr .u64 6 a2_1, .int .i64 a2_2, .bool a2_3]] [] K = zcu a0 a1 a2_0 a2_1 a2_2 a2_3 (fun y0 y1 y2 y3 => K (EV.tuple [EV.agg [EV.int .u64 y0, EV.int .u64 y1], EV.int .u8 y2, EV.int .i64 y3]) []) := by
 rw [zcu.is]; exact (yad _ _ _ _ _ _).symm.trans (by kernel_rfl)
theorem X_zcu.ok : SoundE Tryz.prog gl 8 e_zcu := by
 refine yaS (E := E_zcu) (fn := Tryz.f8) rfl tys_ok rfl (show yaP _ l_zcu from ⟨X_zdn.ok, X_zcx.ok, X_zdy.ok, X_zdp.ok, X_zdk.ok, X_zdj.ok, X_zct.ok, X_zcw.ok, X_zcy.ok, X_zdx.ok, X_zeb.ok, X_zdu.ok, X_zee.ok, trivial⟩) mixed (by kernel_rfl) (by kernel_rfl) (by kernel_rfl) 0 (by kernel_rfl) false trivial ?_
 intro args H
 by_cases hx : ∃ (a0 : Int) (a1 : Int) (a2_0 : Bool) (a2_1 : Nat → Int) (a2_2 : Int) (a2_3 : Bool), args = [.int .u8 a0, .int .u8 a1, .agg [.bool a2_0, .arr .u64 6 a2_1, .int .i64 a2_2, .bool a2_3]] ∧ H = []
 ·obtain ⟨a0, a1, a2_0, a2_1, a2_2, a2_3, rfl, rfl⟩ := hx
  right; intro K
  exact iff_of_eq (X_zcu.eq a0 a1 a2_0 a2_1 a2_2 a2_3 K).symm
 ·left; intro K h
  simp only [e_zcu] at h
  split at h
  ·exact hx ⟨_, _, _, _, _, _, rfl, rfl⟩
  ·exact h
noncomputable def e_zap : Entry := ⟨[], false, fun args H K => match args, H with
 | [], [] => zap  (fun y0 => K (EV.bool y0) [])
 | _, _ => False⟩
noncomputable def l_zap : List (Nat × Entry) := [(8, e_zcu)]
noncomputable def E_zap : Env := ⟨look tys, look l_zap, look [], gl, yat [], false⟩
theorem X_zap.eq (K : EV → yae → Prop) : yaO E_zap Tryz.f10 false [] [] K = zap  (fun y0 => K (EV.bool y0) []) := by
 rw [zap.is]; exact (yad _ _ _ _ _ _).symm.trans (by kernel_rfl)
theorem X_zap.ok : SoundE Tryz.prog gl 10 e_zap := by
 refine yaS (E := E_zap) (fn := Tryz.f10) rfl tys_ok rfl (show yaP _ l_zap from ⟨X_zcu.ok, trivial⟩) mixed (by kernel_rfl) (by kernel_rfl) (by kernel_rfl) 0 (by kernel_rfl) false trivial ?_
 intro args H
 by_cases hx : args = [] ∧ H = []
 ·obtain ⟨rfl, rfl⟩ := hx
  right; intro K
  exact iff_of_eq (X_zap.eq  K).symm
 ·left; intro K h
  simp only [e_zap] at h
  split at h
  ·exact hx ⟨rfl, rfl⟩
  ·exact h
noncomputable def e_zcq : Entry := ⟨[none], false, fun args H K => match args, H with
 | [.int .u8 a0], [] => zcq a0 (fun y0 => K (EV.bool y0) [])
 | _, _ => False⟩
noncomputable def E_zcq : Env := ⟨look tys, look [], look [], gl, yat [], false⟩
theorem X_zcq.eq (a0 : Int) (K : EV → yae → Prop) : yaO E_zcq Tryz.f16 false [.int .u8 a0] [] K = zcq a0 (fun y0 => K (EV.bool y0) []) := by
 rw [zcq.is]; exact (yad _ _ _ _ _ _).symm.trans (by kernel_rfl)
theorem X_zcq.ok : SoundE Tryz.prog gl 16 e_zcq := by
 refine yaS (E := E_zcq) (fn := Tryz.f16) rfl tys_ok rfl (show yaP _ [] from trivial) mixed (by kernel_rfl) (by kernel_rfl) (by kernel_rfl) 0 (by kernel_rfl) false trivial ?_
 intro args H
 by_cases hx : ∃ (a0 : Int), args = [.int .u8 a0] ∧ H = []
 ·obtain ⟨a0, rfl, rfl⟩ := hx
  right; intro K
  exact iff_of_eq (X_zcq.eq a0 K).symm
 ·left; intro K h
  simp only [e_zcq] at h
  split at h
  ·exact hx ⟨_, rfl, rfl⟩
  ·exact h
noncomputable def e_zcr : Entry := ⟨[none], false, fun args H K => match args, H with
 | [.int .u8 a0], [] => zcr a0 (fun y0 => K (EV.bool y0) [])
 | _, _ => False⟩
noncomputable def E_zcr : Env := ⟨look tys, look [], look [], gl, yat [], false⟩
theorem X_zcr.eq (a0 : Int) (K : EV → yae → Prop) : yaO E_zcr Tryz.f19 false [.int .u8 a0] [] K = zcr a0 (fun y0 => K (EV.bool y0) []) := by
 rw [zcr.is]; exact (yad _ _ _ _ _ _).symm.trans (by kernel_rfl)
theorem X_zcr.ok : SoundE Tryz.prog gl 19 e_zcr := by
 refine yaS (E := E_zcr) (fn := Tryz.f19) rfl tys_ok rfl (show yaP _ [] from trivial) mixed (by kernel_rfl) (by kernel_rfl) (by kernel_rfl) 0 (by kernel_rfl) false trivial ?_
 intro args H
 by_cases hx : ∃ (a0 : Int), args = [.int .u8 a0] ∧ H = []
 ·obtain ⟨a0, rfl, rfl⟩ := hx
  right; intro K
  exact iff_of_eq (X_zcr.eq a0 K).symm
 ·left; intro K h
  simp only [e_zcr] at h
  split at h
  ·exact hx ⟨_, rfl, rfl⟩
  ·exact h
noncomputable def e_zcp : Entry := ⟨[none], false, fun args H K => match args, H with
 | [.int .u8 a0], [] => zcp a0 (fun y0 => K (EV.int .i64 y0) [])
 | _, _ => False⟩
noncomputable def E_zcp : Env := ⟨look tys, look [], look [], gl, yat [], false⟩
theorem X_zcp.eq (a0 : Int) (K : EV → yae → Prop) : yaO E_zcp Tryz.f70 false [.int .u8 a0] [] K = zcp a0 (fun y0 => K (EV.int .i64 y0) []) := by
 rw [zcp.is]; exact (yad _ _ _ _ _ _).symm.trans (by kernel_rfl)
theorem X_zcp.ok : SoundE Tryz.prog gl 70 e_zcp := by
 refine yaS (E := E_zcp) (fn := Tryz.f70) rfl tys_ok rfl (show yaP _ [] from trivial) mixed (by kernel_rfl) (by kernel_rfl) (by kernel_rfl) 0 (by kernel_rfl) false trivial ?_
 intro args H
 by_cases hx : ∃ (a0 : Int), args = [.int .u8 a0] ∧ H = []
 ·obtain ⟨a0, rfl, rfl⟩ := hx
  right; intro K
  exact iff_of_eq (X_zcp.eq a0 K).symm
 ·left; intro K h
  simp only [e_zcp] at h
  split at h
  ·exact hx ⟨_, rfl, rfl⟩
  ·exact h
noncomputable def e_zbr : Entry := ⟨[none, none], false, fun args H K => match args, H with
 | [.int .u64 a0, .int .i64 a1], [] => zbr a0 a1 (fun y0 => K (EV.bool y0) [])
 | _, _ => False⟩
noncomputable def E_zbr : Env := ⟨look tys, look [], look [], gl, yat [], false⟩
theorem X_zbr.eq (a0 : Int) (a1 : Int) (K : EV → yae → Prop) : yaO E_zbr Tryz.f185 false [.int .u64 a0, .int .i64 a1] [] K = zbr a0 a1 (fun y0 => K (EV.bool y0) []) := by
 rw [zbr.is]; exact (yad _ _ _ _ _ _).symm.trans (by kernel_rfl)
theorem X_zbr.ok : SoundE Tryz.prog gl 185 e_zbr := by
 refine yaS (E := E_zbr) (fn := Tryz.f185) rfl tys_ok rfl (show yaP _ [] from trivial) mixed (by kernel_rfl) (by kernel_rfl) (by kernel_rfl) 0 (by kernel_rfl) false trivial ?_
 intro args H
 by_cases hx : ∃ (a0 : Int) (a1 : Int), args = [.int .u64 a0, .int .i64 a1] ∧ H = []
 ·obtain ⟨a0, a1, rfl, rfl⟩ := hx
  right; intro K
  exact iff_of_eq (X_zbr.eq a0 a1 K).symm
 ·left; intro K h
  simp only [e_zbr] at h
  split at h
  ·exact hx ⟨_, _, rfl, rfl⟩
  ·exact h
noncomputable def e_zbs : Entry := ⟨[none], false, fun args H K => match args, H with
 | [.int .u64 a0], [] => zbs a0 (fun y0 => K (EV.int .i64 y0) [])
 | _, _ => False⟩
noncomputable def l_zbs : List (Nat × Entry) := [(185, e_zbr)]
noncomputable def E_zbs : Env := ⟨look tys, look l_zbs, look [(3, zbs.l3.entry)], gl, yat [], false⟩
theorem zbs.l3X.stepEq (R : List EV → yae → Prop) (K : Ex → List EV → yae → Prop) (x0 : Int) (x1 : Int) (x2 : Int) : yah (yar E_zbs (yaa Tryz.f138 0) { (LV.mk 8 [(0, 8)] 4 0 false) with nx := live (.loop (yaa Tryz.f138 0)) (LV.mk 8 [(0, 8)] 4 0 false) }) (live (.loop (yaa Tryz.f138 0)) (LV.mk 8 [(0, 8)] 4 0 false)) (LV.mk 8 [(0, 8)] 4 0 false) 0 15 R [EV.int .u64 x0, EV.int .i64 x1, EV.int .i64 x2] [] K = zbs.l3.step (fun x0 x1 x2 => R [EV.int .u64 x0, EV.int .i64 x1, EV.int .i64 x2] []) (fun y0 => K (.exit 0) [EV.int .i64 y0] []) x0 x1 x2 := (yau _ _ _ _ _ _ _ _ _ _ _).symm.trans (by kernel_rfl)
theorem zbs.l3X.eq (K : Ex → List EV → yae → Prop) : ∀ (n : Nat) (x0 : Int) (x1 : Int) (x2 : Int), yaq E_zbs (yaa Tryz.f138 0) (LV.mk 8 [(0, 8)] 4 0 false) 0 15 K n [EV.int .u64 x0, EV.int .i64 x1, EV.int .i64 x2] [] = zbs.l3 (fun y0 => K (.exit 0) [EV.int .i64 y0] []) n x0 x1 x2
 | 0, _, _, _ => rfl
 | n + 1, x0, x1, x2 => by
  have ih : (fun (x0 : Int) (x1 : Int) (x2 : Int) => yaq E_zbs (yaa Tryz.f138 0) (LV.mk 8 [(0, 8)] 4 0 false) 0 15 K n [EV.int .u64 x0, EV.int .i64 x1, EV.int .i64 x2] []) = zbs.l3 (fun y0 => K (.exit 0) [EV.int .i64 y0] []) n := by funext x0 x1 x2; exact zbs.l3X.eq K n x0 x1 x2
  show yah _ _ _ _ _ (yaq E_zbs (yaa Tryz.f138 0) (LV.mk 8 [(0, 8)] 4 0 false) 0 15 K n) [EV.int .u64 x0, EV.int .i64 x1, EV.int .i64 x2] [] K = zbs.l3.step (zbs.l3 (fun y0 => K (.exit 0) [EV.int .i64 y0] []) n) (fun y0 => K (.exit 0) [EV.int .i64 y0] []) x0 x1 x2
  rw [← ih]
  exact zbs.l3X.stepEq _ K x0 x1 x2
theorem zbs.l3X.ok : LoopEq E_zbs (yaa Tryz.f138 0) := by
 intro L hL vs H
 have h1 : E_zbs.lp (yag (yaa Tryz.f138 0)) = some zbs.l3.entry := by kernel_rfl
 have h2 : L = zbs.l3.entry := Option.some.inj (hL.symm.trans h1)
 subst h2
 by_cases hx : ∃ (x0 : Int) (x1 : Int) (x2 : Int), vs = [EV.int .u64 x0, EV.int .i64 x1, EV.int .i64 x2] ∧ H = []
 ·obtain ⟨x0, x1, x2, rfl, rfl⟩ := hx
  right; intro K
  exact exists_congr fun n => iff_of_eq (zbs.l3X.eq K n x0 x1 x2).symm
 ·left; intro K h
  simp only [zbs.l3.entry] at h
  split at h
  ·exact hx ⟨_, _, _, rfl, rfl⟩
  ·exact h
theorem X_zbs.eq (a0 : Int) (K : EV → yae → Prop) : yaO E_zbs Tryz.f138 false [.int .u64 a0] [] K = zbs a0 (fun y0 => K (EV.int .i64 y0) []) := by
 rw [zbs.is]; exact (yad _ _ _ _ _ _).symm.trans (by kernel_rfl)
theorem X_zbs.ok : SoundE Tryz.prog gl 138 e_zbs := by
 refine yaS (E := E_zbs) (fn := Tryz.f138) rfl tys_ok rfl (show yaP _ l_zbs from ⟨X_zbr.ok, trivial⟩) mixed (by kernel_rfl) (by kernel_rfl) (by kernel_rfl) 1 (by kernel_rfl) false ⟨zbs.l3X.ok, trivial⟩ ?_
 intro args H
 by_cases hx : ∃ (a0 : Int), args = [.int .u64 a0] ∧ H = []
 ·obtain ⟨a0, rfl, rfl⟩ := hx
  right; intro K
  exact iff_of_eq (X_zbs.eq a0 K).symm
 ·left; intro K h
  simp only [e_zbs] at h
  split at h
  ·exact hx ⟨_, rfl, rfl⟩
  ·exact h
noncomputable def e_zbu : Entry := ⟨[none], false, fun args H K => match args, H with
 | [.arr .u64 6 a0], [] => zbu a0 (fun y0 => K (EV.int .i64 y0) [])
 | _, _ => False⟩
noncomputable def l_zbu : List (Nat × Entry) := [(138, e_zbs)]
noncomputable def E_zbu : Env := ⟨look tys, look l_zbu, look [(2, zbu.l2.entry)], gl, yat [], false⟩
theorem zbu.l2X.stepEq (R : List EV → yae → Prop) (K : Ex → List EV → yae → Prop) (x0 : Int) (x1 : Nat → Int) : yah (yar E_zbu (yaa Tryz.f76 0) { (LV.mk 0 [(0, 0)] 4 0 false) with nx := live (.loop (yaa Tryz.f76 0)) (LV.mk 0 [(0, 0)] 4 0 false) }) (live (.loop (yaa Tryz.f76 0)) (LV.mk 0 [(0, 0)] 4 0 false)) (LV.mk 0 [(0, 0)] 4 0 false) 0 19 R [EV.ptr 0 [], EV.int .i64 x0] [some (EV.arr .u64 6 x1)] K = zbu.l2.step (fun x0 x1 => R [EV.ptr 0 [], EV.int .i64 x0] [some (EV.arr .u64 6 x1)]) (fun y0 => K .ret [EV.int .i64 y0] []) (K (.exit 0) [] []) x0 x1 := (yau _ _ _ _ _ _ _ _ _ _ _).symm.trans (by kernel_rfl)
theorem zbu.l2X.eq (K : Ex → List EV → yae → Prop) : ∀ (n : Nat) (x0 : Int) (x1 : Nat → Int), yaq E_zbu (yaa Tryz.f76 0) (LV.mk 0 [(0, 0)] 4 0 false) 0 19 K n [EV.ptr 0 [], EV.int .i64 x0] [some (EV.arr .u64 6 x1)] = zbu.l2 (fun y0 => K .ret [EV.int .i64 y0] []) (K (.exit 0) [] []) n x0 x1
 | 0, _, _ => rfl
 | n + 1, x0, x1 => by
  have ih : (fun (x0 : Int) (x1 : Nat → Int) => yaq E_zbu (yaa Tryz.f76 0) (LV.mk 0 [(0, 0)] 4 0 false) 0 19 K n [EV.ptr 0 [], EV.int .i64 x0] [some (EV.arr .u64 6 x1)]) = zbu.l2 (fun y0 => K .ret [EV.int .i64 y0] []) (K (.exit 0) [] []) n := by funext x0 x1; exact zbu.l2X.eq K n x0 x1
  show yah _ _ _ _ _ (yaq E_zbu (yaa Tryz.f76 0) (LV.mk 0 [(0, 0)] 4 0 false) 0 19 K n) [EV.ptr 0 [], EV.int .i64 x0] [some (EV.arr .u64 6 x1)] K = zbu.l2.step (zbu.l2 (fun y0 => K .ret [EV.int .i64 y0] []) (K (.exit 0) [] []) n) (fun y0 => K .ret [EV.int .i64 y0] []) (K (.exit 0) [] []) x0 x1
  rw [← ih]
  exact zbu.l2X.stepEq _ K x0 x1
theorem zbu.l2X.ok : LoopEq E_zbu (yaa Tryz.f76 0) := by
 intro L hL vs H
 have h1 : E_zbu.lp (yag (yaa Tryz.f76 0)) = some zbu.l2.entry := by kernel_rfl
 have h2 : L = zbu.l2.entry := Option.some.inj (hL.symm.trans h1)
 subst h2
 by_cases hx : ∃ (x0 : Int) (x1 : Nat → Int), vs = [EV.ptr 0 [], EV.int .i64 x0] ∧ H = [some (EV.arr .u64 6 x1)]
 ·obtain ⟨x0, x1, rfl, rfl⟩ := hx
  right; intro K
  exact exists_congr fun n => iff_of_eq (zbu.l2X.eq K n x0 x1).symm
 ·left; intro K h
  simp only [zbu.l2.entry] at h
  split at h
  ·exact hx ⟨_, _, rfl, rfl⟩
  ·exact h
theorem X_zbu.eq (a0 : Nat → Int) (K : EV → yae → Prop) : yaO E_zbu Tryz.f76 false [.arr .u64 6 a0] [] K = zbu a0 (fun y0 => K (EV.int .i64 y0) []) := by
 rw [zbu.is]; exact (yad _ _ _ _ _ _).symm.trans (by kernel_rfl)
theorem X_zbu.ok : SoundE Tryz.prog gl 76 e_zbu := by
 refine yaS (E := E_zbu) (fn := Tryz.f76) rfl tys_ok rfl (show yaP _ l_zbu from ⟨X_zbs.ok, trivial⟩) mixed (by kernel_rfl) (by kernel_rfl) (by kernel_rfl) 1 (by kernel_rfl) false ⟨zbu.l2X.ok, trivial⟩ ?_
 intro args H
 by_cases hx : ∃ (a0 : Nat → Int), args = [.arr .u64 6 a0] ∧ H = []
 ·obtain ⟨a0, rfl, rfl⟩ := hx
  right; intro K
  exact iff_of_eq (X_zbu.eq a0 K).symm
 ·left; intro K h
  simp only [e_zbu] at h
  split at h
  ·exact hx ⟨_, rfl, rfl⟩
  ·exact h
noncomputable def e_zcs : Entry := ⟨[none, none], false, fun args H K => match args, H with
 | [.int .u8 a0, .agg [.bool a1_0, .arr .u64 6 a1_1, .int .i64 a1_2, .bool a1_3]], [] => zcs a0 a1_0 a1_1 a1_2 a1_3 (fun y0 => K (EV.bool y0) [])
 | _, _ => False⟩
noncomputable def l_zcs : List (Nat × Entry) := [(70, e_zcp), (76, e_zbu)]
noncomputable def E_zcs : Env := ⟨look tys, look l_zcs, look [], gl, yat [], false⟩
theorem X_zcs.eq (a0 : Int) (a1_0 : Bool) (a1_1 : Nat → Int) (a1_2 : Int) (a1_3 : Bool) (K : EV → yae → Prop) : yaO E_zcs Tryz.f20 false [.int .u8 a0, .agg [.bool a1_0, .arr .u64 6 a1_1, .int .i64 a1_2, .bool a1_3]] [] K = zcs a0 a1_0 a1_1 a1_2 a1_3 (fun y0 => K (EV.bool y0) []) := by
 rw [zcs.is]; exact (yad _ _ _ _ _ _).symm.trans (by kernel_rfl)
theorem X_zcs.ok : SoundE Tryz.prog gl 20 e_zcs := by
 refine yaS (E := E_zcs) (fn := Tryz.f20) rfl tys_ok rfl (show yaP _ l_zcs from ⟨X_zcp.ok, X_zbu.ok, trivial⟩) mixed (by kernel_rfl) (by kernel_rfl) (by kernel_rfl) 0 (by kernel_rfl) false trivial ?_
 intro args H
 by_cases hx : ∃ (a0 : Int) (a1_0 : Bool) (a1_1 : Nat → Int) (a1_2 : Int) (a1_3 : Bool), args = [.int .u8 a0, .agg [.bool a1_0, .arr .u64 6 a1_1, .int .i64 a1_2, .bool a1_3]] ∧ H = []
 ·obtain ⟨a0, a1_0, a1_1, a1_2, a1_3, rfl, rfl⟩ := hx
  right; intro K
  exact iff_of_eq (X_zcs.eq a0 a1_0 a1_1 a1_2 a1_3 K).symm
 ·left; intro K h
  simp only [e_zcs] at h
  split at h
  ·exact hx ⟨_, _, _, _, _, rfl, rfl⟩
  ·exact h
noncomputable def e_zcc : Entry := ⟨[none], false, fun args H K => match args, H with
 | [.str a0], [] => zcc a0 (fun y0 => K (EV.bool y0) [])
 | _, _ => False⟩
noncomputable def E_zcc : Env := ⟨look tys, look [], look [], gl, yat [], false⟩
theorem X_zcc.eq (a0 : List UInt8) (K : EV → yae → Prop) : yaO E_zcc Tryz.f66 false [.str a0] [] K = zcc a0 (fun y0 => K (EV.bool y0) []) := by
 rw [zcc.is]; exact (yad _ _ _ _ _ _).symm.trans (by kernel_rfl)
theorem X_zcc.ok : SoundE Tryz.prog gl 66 e_zcc := by
 refine yaS (E := E_zcc) (fn := Tryz.f66) rfl tys_ok rfl (show yaP _ [] from trivial) mixed (by kernel_rfl) (by kernel_rfl) (by kernel_rfl) 0 (by kernel_rfl) false trivial ?_
 intro args H
 by_cases hx : ∃ (a0 : List UInt8), args = [.str a0] ∧ H = []
 ·obtain ⟨a0, rfl, rfl⟩ := hx
  right; intro K
  exact iff_of_eq (X_zcc.eq a0 K).symm
 ·left; intro K h
  simp only [e_zcc] at h
  split at h
  ·exact hx ⟨_, rfl, rfl⟩
  ·exact h
noncomputable def e_zca : Entry := ⟨[none], false, fun args H K => match args, H with
 | [.str a0], [] => zca a0 (fun y0 => K (EV.int .i64 y0) [])
 | _, _ => False⟩
noncomputable def l_zca : List (Nat × Entry) := [(66, e_zcc), (138, e_zbs)]
noncomputable def E_zca : Env := ⟨look tys, look l_zca, look [], gl, yat [], false⟩
theorem X_zca.eq (a0 : List UInt8) (K : EV → yae → Prop) : yaO E_zca Tryz.f80 false [.str a0] [] K = zca a0 (fun y0 => K (EV.int .i64 y0) []) := by
 rw [zca.is]; exact (yad _ _ _ _ _ _).symm.trans (by kernel_rfl)
theorem X_zca.ok : SoundE Tryz.prog gl 80 e_zca := by
 refine yaS (E := E_zca) (fn := Tryz.f80) rfl tys_ok rfl (show yaP _ l_zca from ⟨X_zcc.ok, X_zbs.ok, trivial⟩) mixed (by kernel_rfl) (by kernel_rfl) (by kernel_rfl) 0 (by kernel_rfl) false trivial ?_
 intro args H
 by_cases hx : ∃ (a0 : List UInt8), args = [.str a0] ∧ H = []
 ·obtain ⟨a0, rfl, rfl⟩ := hx
  right; intro K
  exact iff_of_eq (X_zca.eq a0 K).symm
 ·left; intro K h
  simp only [e_zca] at h
  split at h
  ·exact hx ⟨_, rfl, rfl⟩
  ·exact h
noncomputable def e_zch : Entry := ⟨[none, none], false, fun args H K => match args, H with
 | [.str a0, .int .i64 a1], [] => zch a0 a1 (fun y0 => K (EV.int .i64 y0) [])
 | _, _ => False⟩
noncomputable def E_zch : Env := ⟨look tys, look [], look [], gl, yat [], false⟩
theorem X_zch.eq (a0 : List UInt8) (a1 : Int) (K : EV → yae → Prop) : yaO E_zch Tryz.f81 false [.str a0, .int .i64 a1] [] K = zch a0 a1 (fun y0 => K (EV.int .i64 y0) []) := by
 rw [zch.is]; exact (yad _ _ _ _ _ _).symm.trans (by kernel_rfl)
theorem X_zch.ok : SoundE Tryz.prog gl 81 e_zch := by
 refine yaS (E := E_zch) (fn := Tryz.f81) rfl tys_ok rfl (show yaP _ [] from trivial) mixed (by kernel_rfl) (by kernel_rfl) (by kernel_rfl) 0 (by kernel_rfl) false trivial ?_
 intro args H
 by_cases hx : ∃ (a0 : List UInt8) (a1 : Int), args = [.str a0, .int .i64 a1] ∧ H = []
 ·obtain ⟨a0, a1, rfl, rfl⟩ := hx
  right; intro K
  exact iff_of_eq (X_zch.eq a0 a1 K).symm
 ·left; intro K h
  simp only [e_zch] at h
  split at h
  ·exact hx ⟨_, _, rfl, rfl⟩
  ·exact h
noncomputable def e_zck : Entry := ⟨[some .u8], false, fun args H K => match args, H with
 | [.rsI .u8 a0n a0], [] => zck a0n a0 (fun y0 => K (EV.str y0) [])
 | _, _ => False⟩
noncomputable def E_zck : Env := ⟨look tys, look [], look [(2, zck.l2.entry), (6, zck.l6.entry)], gl, yat [], false⟩
theorem zck.l2X.stepEq (R : List EV → yae → Prop) (K : Ex → List EV → yae → Prop) (x0 : Nat) (x1 : Nat → Int) (x2 : Int) : yah (yar E_zck (yaa Tryz.f82 0) { (LV.mk 9 [(0, 9)] 4 0 false) with nx := live (.loop (yaa Tryz.f82 0)) (LV.mk 9 [(0, 9)] 4 0 false) }) (live (.loop (yaa Tryz.f82 0)) (LV.mk 9 [(0, 9)] 4 0 false)) (LV.mk 9 [(0, 9)] 4 0 false) 0 39 R [EV.rsI .u8 x0 x1, EV.int .i64 x2] [] K = zck.l2.step (fun x0 x1 x2 => R [EV.rsI .u8 x0 x1, EV.int .i64 x2] []) (fun y0 y1 y2 => K (.exit 0) [EV.rsI .u8 y0 y1, EV.int .i64 y2] []) x0 x1 x2 := (yau _ _ _ _ _ _ _ _ _ _ _).symm.trans (by kernel_rfl)
theorem zck.l2X.eq (K : Ex → List EV → yae → Prop) : ∀ (n : Nat) (x0 : Nat) (x1 : Nat → Int) (x2 : Int), yaq E_zck (yaa Tryz.f82 0) (LV.mk 9 [(0, 9)] 4 0 false) 0 39 K n [EV.rsI .u8 x0 x1, EV.int .i64 x2] [] = zck.l2 (fun y0 y1 y2 => K (.exit 0) [EV.rsI .u8 y0 y1, EV.int .i64 y2] []) n x0 x1 x2
 | 0, _, _, _ => rfl
 | n + 1, x0, x1, x2 => by
  have ih : (fun (x0 : Nat) (x1 : Nat → Int) (x2 : Int) => yaq E_zck (yaa Tryz.f82 0) (LV.mk 9 [(0, 9)] 4 0 false) 0 39 K n [EV.rsI .u8 x0 x1, EV.int .i64 x2] []) = zck.l2 (fun y0 y1 y2 => K (.exit 0) [EV.rsI .u8 y0 y1, EV.int .i64 y2] []) n := by funext x0 x1 x2; exact zck.l2X.eq K n x0 x1 x2
  show yah _ _ _ _ _ (yaq E_zck (yaa Tryz.f82 0) (LV.mk 9 [(0, 9)] 4 0 false) 0 39 K n) [EV.rsI .u8 x0 x1, EV.int .i64 x2] [] K = zck.l2.step (zck.l2 (fun y0 y1 y2 => K (.exit 0) [EV.rsI .u8 y0 y1, EV.int .i64 y2] []) n) (fun y0 y1 y2 => K (.exit 0) [EV.rsI .u8 y0 y1, EV.int .i64 y2] []) x0 x1 x2
  rw [← ih]
  exact zck.l2X.stepEq _ K x0 x1 x2
theorem zck.l2X.ok : LoopEq E_zck (yaa Tryz.f82 0) := by
 intro L hL vs H
 have h1 : E_zck.lp (yag (yaa Tryz.f82 0)) = some zck.l2.entry := by kernel_rfl
 have h2 : L = zck.l2.entry := Option.some.inj (hL.symm.trans h1)
 subst h2
 by_cases hx : ∃ (x0 : Nat) (x1 : Nat → Int) (x2 : Int), vs = [EV.rsI .u8 x0 x1, EV.int .i64 x2] ∧ H = []
 ·obtain ⟨x0, x1, x2, rfl, rfl⟩ := hx
  right; intro K
  exact exists_congr fun n => iff_of_eq (zck.l2X.eq K n x0 x1 x2).symm
 ·left; intro K h
  simp only [zck.l2.entry] at h
  split at h
  ·exact hx ⟨_, _, _, rfl, rfl⟩
  ·exact h
theorem zck.l6X.stepEq (R : List EV → yae → Prop) (K : Ex → List EV → yae → Prop) (x0 : Nat) (x1 : Nat → Int) (x2 : Int) (x3 : Nat) (x4 : Nat) (x5 : Int) (x6 : Nat) (x7 : Nat → Int) : yah (yar E_zck (yaa Tryz.f82 1) { (LV.mk 16 [(2, 16)] 4 0 false) with nx := live (.loop (yaa Tryz.f82 1)) (LV.mk 16 [(2, 16)] 4 0 false) }) (live (.loop (yaa Tryz.f82 1)) (LV.mk 16 [(2, 16)] 4 0 false)) (LV.mk 16 [(2, 16)] 4 0 false) 0 39 R [EV.rsI .u8 x0 x1, EV.int .i64 x2, EV.slice 0 0 x3 (some x4) 1, EV.int .i64 x5] [some (EV.arr .u8 x6 x7)] K = zck.l6.step (fun x0 x1 x2 x3 x4 x5 x6 x7 => R [EV.rsI .u8 x0 x1, EV.int .i64 x2, EV.slice 0 0 x3 (some x4) 1, EV.int .i64 x5] [some (EV.arr .u8 x6 x7)]) (fun y0 y1 y2 y3 => K (.exit 2) [EV.slice 0 0 y0 (some y1) 1] [some (EV.arr .u8 y2 y3)]) x0 x1 x2 x3 x4 x5 x6 x7 := (yau _ _ _ _ _ _ _ _ _ _ _).symm.trans (by kernel_rfl)
theorem zck.l6X.eq (K : Ex → List EV → yae → Prop) : ∀ (n : Nat) (x0 : Nat) (x1 : Nat → Int) (x2 : Int) (x3 : Nat) (x4 : Nat) (x5 : Int) (x6 : Nat) (x7 : Nat → Int), yaq E_zck (yaa Tryz.f82 1) (LV.mk 16 [(2, 16)] 4 0 false) 0 39 K n [EV.rsI .u8 x0 x1, EV.int .i64 x2, EV.slice 0 0 x3 (some x4) 1, EV.int .i64 x5] [some (EV.arr .u8 x6 x7)] = zck.l6 (fun y0 y1 y2 y3 => K (.exit 2) [EV.slice 0 0 y0 (some y1) 1] [some (EV.arr .u8 y2 y3)]) n x0 x1 x2 x3 x4 x5 x6 x7
 | 0, _, _, _, _, _, _, _, _ => rfl
 | n + 1, x0, x1, x2, x3, x4, x5, x6, x7 => by
  have ih : (fun (x0 : Nat) (x1 : Nat → Int) (x2 : Int) (x3 : Nat) (x4 : Nat) (x5 : Int) (x6 : Nat) (x7 : Nat → Int) => yaq E_zck (yaa Tryz.f82 1) (LV.mk 16 [(2, 16)] 4 0 false) 0 39 K n [EV.rsI .u8 x0 x1, EV.int .i64 x2, EV.slice 0 0 x3 (some x4) 1, EV.int .i64 x5] [some (EV.arr .u8 x6 x7)]) = zck.l6 (fun y0 y1 y2 y3 => K (.exit 2) [EV.slice 0 0 y0 (some y1) 1] [some (EV.arr .u8 y2 y3)]) n := by funext x0 x1 x2 x3 x4 x5 x6 x7; exact zck.l6X.eq K n x0 x1 x2 x3 x4 x5 x6 x7
  show yah _ _ _ _ _ (yaq E_zck (yaa Tryz.f82 1) (LV.mk 16 [(2, 16)] 4 0 false) 0 39 K n) [EV.rsI .u8 x0 x1, EV.int .i64 x2, EV.slice 0 0 x3 (some x4) 1, EV.int .i64 x5] [some (EV.arr .u8 x6 x7)] K = zck.l6.step (zck.l6 (fun y0 y1 y2 y3 => K (.exit 2) [EV.slice 0 0 y0 (some y1) 1] [some (EV.arr .u8 y2 y3)]) n) (fun y0 y1 y2 y3 => K (.exit 2) [EV.slice 0 0 y0 (some y1) 1] [some (EV.arr .u8 y2 y3)]) x0 x1 x2 x3 x4 x5 x6 x7
  rw [← ih]
  exact zck.l6X.stepEq _ K x0 x1 x2 x3 x4 x5 x6 x7
theorem zck.l6X.ok : LoopEq E_zck (yaa Tryz.f82 1) := by
 intro L hL vs H
 have h1 : E_zck.lp (yag (yaa Tryz.f82 1)) = some zck.l6.entry := by kernel_rfl
 have h2 : L = zck.l6.entry := Option.some.inj (hL.symm.trans h1)
 subst h2
 by_cases hx : ∃ (x0 : Nat) (x1 : Nat → Int) (x2 : Int) (x3 : Nat) (x4 : Nat) (x5 : Int) (x6 : Nat) (x7 : Nat → Int), vs = [EV.rsI .u8 x0 x1, EV.int .i64 x2, EV.slice 0 0 x3 (some x4) 1, EV.int .i64 x5] ∧ H = [some (EV.arr .u8 x6 x7)]
 ·obtain ⟨x0, x1, x2, x3, x4, x5, x6, x7, rfl, rfl⟩ := hx
  right; intro K
  exact exists_congr fun n => iff_of_eq (zck.l6X.eq K n x0 x1 x2 x3 x4 x5 x6 x7).symm
 ·left; intro K h
  simp only [zck.l6.entry] at h
  split at h
  ·exact hx ⟨_, _, _, _, _, _, _, _, rfl, rfl⟩
  ·exact h
theorem X_zck.eq (a0n : Nat) (a0 : Nat → Int) (K : EV → yae → Prop) : yaO E_zck Tryz.f82 false [.rsI .u8 a0n a0] [] K = zck a0n a0 (fun y0 => K (EV.str y0) []) := by
 rw [zck.is]; exact (yad _ _ _ _ _ _).symm.trans (by kernel_rfl)
theorem X_zck.ok : SoundE Tryz.prog gl 82 e_zck := by
 refine yaS (E := E_zck) (fn := Tryz.f82) rfl tys_ok rfl (show yaP _ [] from trivial) mixed (by kernel_rfl) (by kernel_rfl) (by kernel_rfl) 2 (by kernel_rfl) false ⟨zck.l2X.ok, zck.l6X.ok, trivial⟩ ?_
 intro args H
 by_cases hx : ∃ (a0n : Nat) (a0 : Nat → Int), args = [.rsI .u8 a0n a0] ∧ H = []
 ·obtain ⟨a0n, a0, rfl, rfl⟩ := hx
  right; intro K
  exact iff_of_eq (X_zck.eq a0n a0 K).symm
 ·left; intro K h
  simp only [e_zck] at h
  split at h
  ·exact hx ⟨_, _, rfl, rfl⟩
  ·exact h
noncomputable def e_zbz : Entry := ⟨[none, none], false, fun args H K => match args, H with
 | [.str a0, .int .i64 a1], [] => zbz a0 a1 (fun y0 y1 => K (EV.tuple [EV.str y0, EV.int .i64 y1]) [])
 | _, _ => False⟩
noncomputable def l_zbz : List (Nat × Entry) := [(80, e_zca), (81, e_zch), (82, e_zck)]
noncomputable def E_zbz : Env := ⟨look tys, look l_zbz, look [(9, zbz.l9.entry)], gl, yat [], false⟩
theorem zbz.l9X.stepEq (R : List EV → yae → Prop) (K : Ex → List EV → yae → Prop) (x0 : List UInt8) (x1 : Int) (x2 : Nat) (x3 : Nat) (x4 : Int) (x5 : Nat) (x6 : Nat → Int) : yah (yar E_zbz (yaa Tryz.f21 0) { (LV.mk 64 [(0, 64)] 48 0 false) with nx := live (.loop (yaa Tryz.f21 0)) (LV.mk 64 [(0, 64)] 48 0 false) }) (live (.loop (yaa Tryz.f21 0)) (LV.mk 64 [(0, 64)] 48 0 false)) (LV.mk 64 [(0, 64)] 48 0 false) 0 70 R [EV.str x0, EV.int .i64 x1, EV.slice 0 0 x2 (some x3) 1, EV.int .i64 x4] [some (EV.arr .u8 x5 x6)] K = zbz.l9.step (fun x0 x1 x2 x3 x4 x5 x6 => R [EV.str x0, EV.int .i64 x1, EV.slice 0 0 x2 (some x3) 1, EV.int .i64 x4] [some (EV.arr .u8 x5 x6)]) (fun y0 y1 y2 y3 => K (.exit 0) [EV.slice 0 0 y0 (some y1) 1] [some (EV.arr .u8 y2 y3)]) x0 x1 x2 x3 x4 x5 x6 := (yau _ _ _ _ _ _ _ _ _ _ _).symm.trans (by kernel_rfl)
theorem zbz.l9X.eq (K : Ex → List EV → yae → Prop) : ∀ (n : Nat) (x0 : List UInt8) (x1 : Int) (x2 : Nat) (x3 : Nat) (x4 : Int) (x5 : Nat) (x6 : Nat → Int), yaq E_zbz (yaa Tryz.f21 0) (LV.mk 64 [(0, 64)] 48 0 false) 0 70 K n [EV.str x0, EV.int .i64 x1, EV.slice 0 0 x2 (some x3) 1, EV.int .i64 x4] [some (EV.arr .u8 x5 x6)] = zbz.l9 (fun y0 y1 y2 y3 => K (.exit 0) [EV.slice 0 0 y0 (some y1) 1] [some (EV.arr .u8 y2 y3)]) n x0 x1 x2 x3 x4 x5 x6
 | 0, _, _, _, _, _, _, _ => rfl
 | n + 1, x0, x1, x2, x3, x4, x5, x6 => by
  have ih : (fun (x0 : List UInt8) (x1 : Int) (x2 : Nat) (x3 : Nat) (x4 : Int) (x5 : Nat) (x6 : Nat → Int) => yaq E_zbz (yaa Tryz.f21 0) (LV.mk 64 [(0, 64)] 48 0 false) 0 70 K n [EV.str x0, EV.int .i64 x1, EV.slice 0 0 x2 (some x3) 1, EV.int .i64 x4] [some (EV.arr .u8 x5 x6)]) = zbz.l9 (fun y0 y1 y2 y3 => K (.exit 0) [EV.slice 0 0 y0 (some y1) 1] [some (EV.arr .u8 y2 y3)]) n := by funext x0 x1 x2 x3 x4 x5 x6; exact zbz.l9X.eq K n x0 x1 x2 x3 x4 x5 x6
  show yah _ _ _ _ _ (yaq E_zbz (yaa Tryz.f21 0) (LV.mk 64 [(0, 64)] 48 0 false) 0 70 K n) [EV.str x0, EV.int .i64 x1, EV.slice 0 0 x2 (some x3) 1, EV.int .i64 x4] [some (EV.arr .u8 x5 x6)] K = zbz.l9.step (zbz.l9 (fun y0 y1 y2 y3 => K (.exit 0) [EV.slice 0 0 y0 (some y1) 1] [some (EV.arr .u8 y2 y3)]) n) (fun y0 y1 y2 y3 => K (.exit 0) [EV.slice 0 0 y0 (some y1) 1] [some (EV.arr .u8 y2 y3)]) x0 x1 x2 x3 x4 x5 x6
  rw [← ih]
  exact zbz.l9X.stepEq _ K x0 x1 x2 x3 x4 x5 x6
theorem zbz.l9X.ok : LoopEq E_zbz (yaa Tryz.f21 0) := by
 intro L hL vs H
 have h1 : E_zbz.lp (yag (yaa Tryz.f21 0)) = some zbz.l9.entry := by kernel_rfl
 have h2 : L = zbz.l9.entry := Option.some.inj (hL.symm.trans h1)
 subst h2
 by_cases hx : ∃ (x0 : List UInt8) (x1 : Int) (x2 : Nat) (x3 : Nat) (x4 : Int) (x5 : Nat) (x6 : Nat → Int), vs = [EV.str x0, EV.int .i64 x1, EV.slice 0 0 x2 (some x3) 1, EV.int .i64 x4] ∧ H = [some (EV.arr .u8 x5 x6)]
 ·obtain ⟨x0, x1, x2, x3, x4, x5, x6, rfl, rfl⟩ := hx
  right; intro K
  exact exists_congr fun n => iff_of_eq (zbz.l9X.eq K n x0 x1 x2 x3 x4 x5 x6).symm
 ·left; intro K h
  simp only [zbz.l9.entry] at h
  split at h
  ·exact hx ⟨_, _, _, _, _, _, _, rfl, rfl⟩
  ·exact h
theorem X_zbz.eq (a0 : List UInt8) (a1 : Int) (K : EV → yae → Prop) : yaO E_zbz Tryz.f21 false [.str a0, .int .i64 a1] [] K = zbz a0 a1 (fun y0 y1 => K (EV.tuple [EV.str y0, EV.int .i64 y1]) []) := by
 rw [zbz.is]; exact (yad _ _ _ _ _ _).symm.trans (by kernel_rfl)
theorem X_zbz.ok : SoundE Tryz.prog gl 21 e_zbz := by
 refine yaS (E := E_zbz) (fn := Tryz.f21) rfl tys_ok rfl (show yaP _ l_zbz from ⟨X_zca.ok, X_zch.ok, X_zck.ok, trivial⟩) mixed (by kernel_rfl) (by kernel_rfl) (by kernel_rfl) 1 (by kernel_rfl) false ⟨zbz.l9X.ok, trivial⟩ ?_
 intro args H
 by_cases hx : ∃ (a0 : List UInt8) (a1 : Int), args = [.str a0, .int .i64 a1] ∧ H = []
 ·obtain ⟨a0, a1, rfl, rfl⟩ := hx
  right; intro K
  exact iff_of_eq (X_zbz.eq a0 a1 K).symm
 ·left; intro K h
  simp only [e_zbz] at h
  split at h
  ·exact hx ⟨_, _, rfl, rfl⟩
  ·exact h
noncomputable def e_zce : Entry := ⟨[none], false, fun args H K => match args, H with
 | [.arr .u64 6 a0], [] => zce a0 (fun y0 => K (EV.str y0) [])
 | _, _ => False⟩
noncomputable def l_zce : List (Nat × Entry) := [(82, e_zck)]
noncomputable def E_zce : Env := ⟨look tys, look l_zce, look [(3, zce.l3.entry)], gl, yat [], false⟩
theorem zce.l3X.stepEq (R : List EV → yae → Prop) (K : Ex → List EV → yae → Prop) (x0 : Int) (x1 : Nat → Int) (x2 : Nat → Int) : yah (yar E_zce (yaa Tryz.f22 0) { (LV.mk 8 [(0, 8)] 4 0 false) with nx := live (.loop (yaa Tryz.f22 0)) (LV.mk 8 [(0, 8)] 4 0 false) }) (live (.loop (yaa Tryz.f22 0)) (LV.mk 8 [(0, 8)] 4 0 false)) (LV.mk 8 [(0, 8)] 4 0 false) 0 25 R [EV.ptr 0 [], EV.slice 1 0 48 (some 48) 1, EV.int .i64 x0] [some (EV.arr .u64 6 x1), some (EV.arr .u8 48 x2)] K = zce.l3.step (fun x0 x1 x2 => R [EV.ptr 0 [], EV.slice 1 0 48 (some 48) 1, EV.int .i64 x0] [some (EV.arr .u64 6 x1), some (EV.arr .u8 48 x2)]) (fun y0 => K (.exit 0) [EV.slice 0 0 48 (some 48) 1] [some (EV.arr .u8 48 y0)]) x0 x1 x2 := (yau _ _ _ _ _ _ _ _ _ _ _).symm.trans (by kernel_rfl)
theorem zce.l3X.eq (K : Ex → List EV → yae → Prop) : ∀ (n : Nat) (x0 : Int) (x1 : Nat → Int) (x2 : Nat → Int), yaq E_zce (yaa Tryz.f22 0) (LV.mk 8 [(0, 8)] 4 0 false) 0 25 K n [EV.ptr 0 [], EV.slice 1 0 48 (some 48) 1, EV.int .i64 x0] [some (EV.arr .u64 6 x1), some (EV.arr .u8 48 x2)] = zce.l3 (fun y0 => K (.exit 0) [EV.slice 0 0 48 (some 48) 1] [some (EV.arr .u8 48 y0)]) n x0 x1 x2
 | 0, _, _, _ => rfl
 | n + 1, x0, x1, x2 => by
  have ih : (fun (x0 : Int) (x1 : Nat → Int) (x2 : Nat → Int) => yaq E_zce (yaa Tryz.f22 0) (LV.mk 8 [(0, 8)] 4 0 false) 0 25 K n [EV.ptr 0 [], EV.slice 1 0 48 (some 48) 1, EV.int .i64 x0] [some (EV.arr .u64 6 x1), some (EV.arr .u8 48 x2)]) = zce.l3 (fun y0 => K (.exit 0) [EV.slice 0 0 48 (some 48) 1] [some (EV.arr .u8 48 y0)]) n := by funext x0 x1 x2; exact zce.l3X.eq K n x0 x1 x2
  show yah _ _ _ _ _ (yaq E_zce (yaa Tryz.f22 0) (LV.mk 8 [(0, 8)] 4 0 false) 0 25 K n) [EV.ptr 0 [], EV.slice 1 0 48 (some 48) 1, EV.int .i64 x0] [some (EV.arr .u64 6 x1), some (EV.arr .u8 48 x2)] K = zce.l3.step (zce.l3 (fun y0 => K (.exit 0) [EV.slice 0 0 48 (some 48) 1] [some (EV.arr .u8 48 y0)]) n) (fun y0 => K (.exit 0) [EV.slice 0 0 48 (some 48) 1] [some (EV.arr .u8 48 y0)]) x0 x1 x2
  rw [← ih]
  exact zce.l3X.stepEq _ K x0 x1 x2
theorem zce.l3X.ok : LoopEq E_zce (yaa Tryz.f22 0) := by
 intro L hL vs H
 have h1 : E_zce.lp (yag (yaa Tryz.f22 0)) = some zce.l3.entry := by kernel_rfl
 have h2 : L = zce.l3.entry := Option.some.inj (hL.symm.trans h1)
 subst h2
 by_cases hx : ∃ (x0 : Int) (x1 : Nat → Int) (x2 : Nat → Int), vs = [EV.ptr 0 [], EV.slice 1 0 48 (some 48) 1, EV.int .i64 x0] ∧ H = [some (EV.arr .u64 6 x1), some (EV.arr .u8 48 x2)]
 ·obtain ⟨x0, x1, x2, rfl, rfl⟩ := hx
  right; intro K
  exact exists_congr fun n => iff_of_eq (zce.l3X.eq K n x0 x1 x2).symm
 ·left; intro K h
  simp only [zce.l3.entry] at h
  split at h
  ·exact hx ⟨_, _, _, rfl, rfl⟩
  ·exact h
theorem X_zce.eq (a0 : Nat → Int) (K : EV → yae → Prop) : yaO E_zce Tryz.f22 false [.arr .u64 6 a0] [] K = zce a0 (fun y0 => K (EV.str y0) []) := by
 rw [zce.is]; exact (yad _ _ _ _ _ _).symm.trans (by kernel_rfl)
theorem X_zce.ok : SoundE Tryz.prog gl 22 e_zce := by
 refine yaS (E := E_zce) (fn := Tryz.f22) rfl tys_ok rfl (show yaP _ l_zce from ⟨X_zck.ok, trivial⟩) mixed (by kernel_rfl) (by kernel_rfl) (by kernel_rfl) 1 (by kernel_rfl) false ⟨zce.l3X.ok, trivial⟩ ?_
 intro args H
 by_cases hx : ∃ (a0 : Nat → Int), args = [.arr .u64 6 a0] ∧ H = []
 ·obtain ⟨a0, rfl, rfl⟩ := hx
  right; intro K
  exact iff_of_eq (X_zce.eq a0 K).symm
 ·left; intro K h
  simp only [e_zce] at h
  split at h
  ·exact hx ⟨_, rfl, rfl⟩
  ·exact h
noncomputable def e_zcl : Entry := ⟨[none], false, fun args H K => match args, H with
 | [.str a0], [] => zcl a0 (fun y0 y1 => K (EV.tuple [EV.str y0, EV.int .i64 y1]) [])
 | _, _ => False⟩
noncomputable def E_zcl : Env := ⟨look tys, look [], look [], gl, yat [], false⟩
theorem X_zcl.eq (a0 : List UInt8) (K : EV → yae → Prop) : yaO E_zcl Tryz.f83 false [.str a0] [] K = zcl a0 (fun y0 y1 => K (EV.tuple [EV.str y0, EV.int .i64 y1]) []) := by
 rw [zcl.is]; exact (yad _ _ _ _ _ _).symm.trans (by kernel_rfl)
theorem X_zcl.ok : SoundE Tryz.prog gl 83 e_zcl := by
 refine yaS (E := E_zcl) (fn := Tryz.f83) rfl tys_ok rfl (show yaP _ [] from trivial) mixed (by kernel_rfl) (by kernel_rfl) (by kernel_rfl) 0 (by kernel_rfl) false trivial ?_
 intro args H
 by_cases hx : ∃ (a0 : List UInt8), args = [.str a0] ∧ H = []
 ·obtain ⟨a0, rfl, rfl⟩ := hx
  right; intro K
  exact iff_of_eq (X_zcl.eq a0 K).symm
 ·left; intro K h
  simp only [e_zcl] at h
  split at h
  ·exact hx ⟨_, rfl, rfl⟩
  ·exact h
noncomputable def e_zcg : Entry := ⟨[none, none], false, fun args H K => match args, H with
 | [.str a0, .str a1], [] => zcg a0 a1 (fun y0 => K (EV.str y0) [])
 | _, _ => False⟩
noncomputable def l_zcg : List (Nat × Entry) := [(81, e_zch), (82, e_zck)]
noncomputable def E_zcg : Env := ⟨look tys, look l_zcg, look [(7, zcg.l7.entry)], gl, yat [], false⟩
theorem zcg.l7X.stepEq (R : List EV → yae → Prop) (K : Ex → List EV → yae → Prop) (x0 : List UInt8) (x1 : List UInt8) (x2 : Int) (x3 : Nat) (x4 : Nat) (x5 : Int) (x6 : Int) (x7 : Nat) (x8 : Nat → Int) : yah (yar E_zcg (yaa Tryz.f84 0) { (LV.mk 64 [(0, 64)] 16 0 false) with nx := live (.loop (yaa Tryz.f84 0)) (LV.mk 64 [(0, 64)] 16 0 false) }) (live (.loop (yaa Tryz.f84 0)) (LV.mk 64 [(0, 64)] 16 0 false)) (LV.mk 64 [(0, 64)] 16 0 false) 0 43 R [EV.str x0, EV.str x1, EV.int .i64 x2, EV.slice 0 0 x3 (some x4) 1, EV.int .i64 x5, EV.int .i64 x6] [some (EV.arr .u8 x7 x8)] K = zcg.l7.step (fun x0 x1 x2 x3 x4 x5 x6 x7 x8 => R [EV.str x0, EV.str x1, EV.int .i64 x2, EV.slice 0 0 x3 (some x4) 1, EV.int .i64 x5, EV.int .i64 x6] [some (EV.arr .u8 x7 x8)]) (fun y0 y1 y2 y3 => K (.exit 0) [EV.slice 0 0 y0 (some y1) 1] [some (EV.arr .u8 y2 y3)]) x0 x1 x2 x3 x4 x5 x6 x7 x8 := (yau _ _ _ _ _ _ _ _ _ _ _).symm.trans (by kernel_rfl)
theorem zcg.l7X.eq (K : Ex → List EV → yae → Prop) : ∀ (n : Nat) (x0 : List UInt8) (x1 : List UInt8) (x2 : Int) (x3 : Nat) (x4 : Nat) (x5 : Int) (x6 : Int) (x7 : Nat) (x8 : Nat → Int), yaq E_zcg (yaa Tryz.f84 0) (LV.mk 64 [(0, 64)] 16 0 false) 0 43 K n [EV.str x0, EV.str x1, EV.int .i64 x2, EV.slice 0 0 x3 (some x4) 1, EV.int .i64 x5, EV.int .i64 x6] [some (EV.arr .u8 x7 x8)] = zcg.l7 (fun y0 y1 y2 y3 => K (.exit 0) [EV.slice 0 0 y0 (some y1) 1] [some (EV.arr .u8 y2 y3)]) n x0 x1 x2 x3 x4 x5 x6 x7 x8
 | 0, _, _, _, _, _, _, _, _, _ => rfl
 | n + 1, x0, x1, x2, x3, x4, x5, x6, x7, x8 => by
  have ih : (fun (x0 : List UInt8) (x1 : List UInt8) (x2 : Int) (x3 : Nat) (x4 : Nat) (x5 : Int) (x6 : Int) (x7 : Nat) (x8 : Nat → Int) => yaq E_zcg (yaa Tryz.f84 0) (LV.mk 64 [(0, 64)] 16 0 false) 0 43 K n [EV.str x0, EV.str x1, EV.int .i64 x2, EV.slice 0 0 x3 (some x4) 1, EV.int .i64 x5, EV.int .i64 x6] [some (EV.arr .u8 x7 x8)]) = zcg.l7 (fun y0 y1 y2 y3 => K (.exit 0) [EV.slice 0 0 y0 (some y1) 1] [some (EV.arr .u8 y2 y3)]) n := by funext x0 x1 x2 x3 x4 x5 x6 x7 x8; exact zcg.l7X.eq K n x0 x1 x2 x3 x4 x5 x6 x7 x8
  show yah _ _ _ _ _ (yaq E_zcg (yaa Tryz.f84 0) (LV.mk 64 [(0, 64)] 16 0 false) 0 43 K n) [EV.str x0, EV.str x1, EV.int .i64 x2, EV.slice 0 0 x3 (some x4) 1, EV.int .i64 x5, EV.int .i64 x6] [some (EV.arr .u8 x7 x8)] K = zcg.l7.step (zcg.l7 (fun y0 y1 y2 y3 => K (.exit 0) [EV.slice 0 0 y0 (some y1) 1] [some (EV.arr .u8 y2 y3)]) n) (fun y0 y1 y2 y3 => K (.exit 0) [EV.slice 0 0 y0 (some y1) 1] [some (EV.arr .u8 y2 y3)]) x0 x1 x2 x3 x4 x5 x6 x7 x8
  rw [← ih]
  exact zcg.l7X.stepEq _ K x0 x1 x2 x3 x4 x5 x6 x7 x8
theorem zcg.l7X.ok : LoopEq E_zcg (yaa Tryz.f84 0) := by
 intro L hL vs H
 have h1 : E_zcg.lp (yag (yaa Tryz.f84 0)) = some zcg.l7.entry := by kernel_rfl
 have h2 : L = zcg.l7.entry := Option.some.inj (hL.symm.trans h1)
 subst h2
 by_cases hx : ∃ (x0 : List UInt8) (x1 : List UInt8) (x2 : Int) (x3 : Nat) (x4 : Nat) (x5 : Int) (x6 : Int) (x7 : Nat) (x8 : Nat → Int), vs = [EV.str x0, EV.str x1, EV.int .i64 x2, EV.slice 0 0 x3 (some x4) 1, EV.int .i64 x5, EV.int .i64 x6] ∧ H = [some (EV.arr .u8 x7 x8)]
 ·obtain ⟨x0, x1, x2, x3, x4, x5, x6, x7, x8, rfl, rfl⟩ := hx
  right; intro K
  exact exists_congr fun n => iff_of_eq (zcg.l7X.eq K n x0 x1 x2 x3 x4 x5 x6 x7 x8).symm
 ·left; intro K h
  simp only [zcg.l7.entry] at h
  split at h
  ·exact hx ⟨_, _, _, _, _, _, _, _, _, rfl, rfl⟩
  ·exact h
theorem X_zcg.eq (a0 : List UInt8) (a1 : List UInt8) (K : EV → yae → Prop) : yaO E_zcg Tryz.f84 false [.str a0, .str a1] [] K = zcg a0 a1 (fun y0 => K (EV.str y0) []) := by
 rw [zcg.is]; exact (yad _ _ _ _ _ _).symm.trans (by kernel_rfl)
theorem X_zcg.ok : SoundE Tryz.prog gl 84 e_zcg := by
 refine yaS (E := E_zcg) (fn := Tryz.f84) rfl tys_ok rfl (show yaP _ l_zcg from ⟨X_zch.ok, X_zck.ok, trivial⟩) mixed (by kernel_rfl) (by kernel_rfl) (by kernel_rfl) 1 (by kernel_rfl) false ⟨zcg.l7X.ok, trivial⟩ ?_
 intro args H
 by_cases hx : ∃ (a0 : List UInt8) (a1 : List UInt8), args = [.str a0, .str a1] ∧ H = []
 ·obtain ⟨a0, a1, rfl, rfl⟩ := hx
  right; intro K
  exact iff_of_eq (X_zcg.eq a0 a1 K).symm
 ·left; intro K h
  simp only [e_zcg] at h
  split at h
  ·exact hx ⟨_, _, rfl, rfl⟩
  ·exact h
noncomputable def e_zbv : Entry := ⟨[none, none], false, fun args H K => match args, H with
 | [.str a0, .str a1], [] => zbv a0 a1 (fun y0 y1 => K (EV.tuple [EV.str y0, EV.int .i64 y1]) [])
 | _, _ => False⟩
noncomputable def l_zbv : List (Nat × Entry) := [(83, e_zcl), (84, e_zcg)]
noncomputable def E_zbv : Env := ⟨look tys, look l_zbv, look [], gl, yat [], false⟩
theorem X_zbv.eq (a0 : List UInt8) (a1 : List UInt8) (K : EV → yae → Prop) : yaO E_zbv Tryz.f23 false [.str a0, .str a1] [] K = zbv a0 a1 (fun y0 y1 => K (EV.tuple [EV.str y0, EV.int .i64 y1]) []) := by
 rw [zbv.is]; exact (yad _ _ _ _ _ _).symm.trans (by kernel_rfl)
theorem X_zbv.ok : SoundE Tryz.prog gl 23 e_zbv := by
 refine yaS (E := E_zbv) (fn := Tryz.f23) rfl tys_ok rfl (show yaP _ l_zbv from ⟨X_zcl.ok, X_zcg.ok, trivial⟩) mixed (by kernel_rfl) (by kernel_rfl) (by kernel_rfl) 0 (by kernel_rfl) false trivial ?_
 intro args H
 by_cases hx : ∃ (a0 : List UInt8) (a1 : List UInt8), args = [.str a0, .str a1] ∧ H = []
 ·obtain ⟨a0, a1, rfl, rfl⟩ := hx
  right; intro K
  exact iff_of_eq (X_zbv.eq a0 a1 K).symm
 ·left; intro K h
  simp only [e_zbv] at h
  split at h
  ·exact hx ⟨_, _, rfl, rfl⟩
  ·exact h
noncomputable def e_zcd : Entry := ⟨[none], false, fun args H K => match args, H with
 | [.int .u64 a0], [] => zcd a0 (fun y0 => K (EV.str y0) [])
 | _, _ => False⟩
noncomputable def l_zcd : List (Nat × Entry) := [(82, e_zck)]
noncomputable def E_zcd : Env := ⟨look tys, look l_zcd, look [(3, zcd.l3.entry)], gl, yat [], false⟩
theorem zcd.l3X.stepEq (R : List EV → yae → Prop) (K : Ex → List EV → yae → Prop) (x0 : Int) (x1 : Int) (x2 : Nat → Int) : yah (yar E_zcd (yaa Tryz.f24 0) { (LV.mk 8 [(0, 8)] 4 0 false) with nx := live (.loop (yaa Tryz.f24 0)) (LV.mk 8 [(0, 8)] 4 0 false) }) (live (.loop (yaa Tryz.f24 0)) (LV.mk 8 [(0, 8)] 4 0 false)) (LV.mk 8 [(0, 8)] 4 0 false) 0 21 R [EV.int .u64 x0, EV.slice 0 0 8 (some 8) 1, EV.int .i64 x1] [some (EV.arr .u8 8 x2)] K = zcd.l3.step (fun x0 x1 x2 => R [EV.int .u64 x0, EV.slice 0 0 8 (some 8) 1, EV.int .i64 x1] [some (EV.arr .u8 8 x2)]) (fun y0 => K (.exit 0) [EV.slice 0 0 8 (some 8) 1] [some (EV.arr .u8 8 y0)]) x0 x1 x2 := (yau _ _ _ _ _ _ _ _ _ _ _).symm.trans (by kernel_rfl)
theorem zcd.l3X.eq (K : Ex → List EV → yae → Prop) : ∀ (n : Nat) (x0 : Int) (x1 : Int) (x2 : Nat → Int), yaq E_zcd (yaa Tryz.f24 0) (LV.mk 8 [(0, 8)] 4 0 false) 0 21 K n [EV.int .u64 x0, EV.slice 0 0 8 (some 8) 1, EV.int .i64 x1] [some (EV.arr .u8 8 x2)] = zcd.l3 (fun y0 => K (.exit 0) [EV.slice 0 0 8 (some 8) 1] [some (EV.arr .u8 8 y0)]) n x0 x1 x2
 | 0, _, _, _ => rfl
 | n + 1, x0, x1, x2 => by
  have ih : (fun (x0 : Int) (x1 : Int) (x2 : Nat → Int) => yaq E_zcd (yaa Tryz.f24 0) (LV.mk 8 [(0, 8)] 4 0 false) 0 21 K n [EV.int .u64 x0, EV.slice 0 0 8 (some 8) 1, EV.int .i64 x1] [some (EV.arr .u8 8 x2)]) = zcd.l3 (fun y0 => K (.exit 0) [EV.slice 0 0 8 (some 8) 1] [some (EV.arr .u8 8 y0)]) n := by funext x0 x1 x2; exact zcd.l3X.eq K n x0 x1 x2
  show yah _ _ _ _ _ (yaq E_zcd (yaa Tryz.f24 0) (LV.mk 8 [(0, 8)] 4 0 false) 0 21 K n) [EV.int .u64 x0, EV.slice 0 0 8 (some 8) 1, EV.int .i64 x1] [some (EV.arr .u8 8 x2)] K = zcd.l3.step (zcd.l3 (fun y0 => K (.exit 0) [EV.slice 0 0 8 (some 8) 1] [some (EV.arr .u8 8 y0)]) n) (fun y0 => K (.exit 0) [EV.slice 0 0 8 (some 8) 1] [some (EV.arr .u8 8 y0)]) x0 x1 x2
  rw [← ih]
  exact zcd.l3X.stepEq _ K x0 x1 x2
theorem zcd.l3X.ok : LoopEq E_zcd (yaa Tryz.f24 0) := by
 intro L hL vs H
 have h1 : E_zcd.lp (yag (yaa Tryz.f24 0)) = some zcd.l3.entry := by kernel_rfl
 have h2 : L = zcd.l3.entry := Option.some.inj (hL.symm.trans h1)
 subst h2
 by_cases hx : ∃ (x0 : Int) (x1 : Int) (x2 : Nat → Int), vs = [EV.int .u64 x0, EV.slice 0 0 8 (some 8) 1, EV.int .i64 x1] ∧ H = [some (EV.arr .u8 8 x2)]
 ·obtain ⟨x0, x1, x2, rfl, rfl⟩ := hx
  right; intro K
  exact exists_congr fun n => iff_of_eq (zcd.l3X.eq K n x0 x1 x2).symm
 ·left; intro K h
  simp only [zcd.l3.entry] at h
  split at h
  ·exact hx ⟨_, _, _, rfl, rfl⟩
  ·exact h
theorem X_zcd.eq (a0 : Int) (K : EV → yae → Prop) : yaO E_zcd Tryz.f24 false [.int .u64 a0] [] K = zcd a0 (fun y0 => K (EV.str y0) []) := by
 rw [zcd.is]; exact (yad _ _ _ _ _ _).symm.trans (by kernel_rfl)
theorem X_zcd.ok : SoundE Tryz.prog gl 24 e_zcd := by
 refine yaS (E := E_zcd) (fn := Tryz.f24) rfl tys_ok rfl (show yaP _ l_zcd from ⟨X_zck.ok, trivial⟩) mixed (by kernel_rfl) (by kernel_rfl) (by kernel_rfl) 1 (by kernel_rfl) false ⟨zcd.l3X.ok, trivial⟩ ?_
 intro args H
 by_cases hx : ∃ (a0 : Int), args = [.int .u64 a0] ∧ H = []
 ·obtain ⟨a0, rfl, rfl⟩ := hx
  right; intro K
  exact iff_of_eq (X_zcd.eq a0 K).symm
 ·left; intro K h
  simp only [e_zcd] at h
  split at h
  ·exact hx ⟨_, rfl, rfl⟩
  ·exact h
noncomputable def e_zco : Entry := ⟨[], false, fun args H K => match args, H with
 | [], [] => zco  (fun y0 y1 y2 y3 => K (EV.agg [EV.bool y0, EV.str y1, EV.str y2, EV.int .i64 y3]) [])
 | _, _ => False⟩
noncomputable def E_zco : Env := ⟨look tys, look [], look [], gl, yat [], false⟩
theorem X_zco.eq (K : EV → yae → Prop) : yaO E_zco Tryz.f68 false [] [] K = zco  (fun y0 y1 y2 y3 => K (EV.agg [EV.bool y0, EV.str y1, EV.str y2, EV.int .i64 y3]) []) := by
 rw [zco.is]; exact (yad _ _ _ _ _ _).symm.trans (by kernel_rfl)
theorem X_zco.ok : SoundE Tryz.prog gl 68 e_zco := by
 refine yaS (E := E_zco) (fn := Tryz.f68) rfl tys_ok rfl (show yaP _ [] from trivial) mixed (by kernel_rfl) (by kernel_rfl) (by kernel_rfl) 0 (by kernel_rfl) false trivial ?_
 intro args H
 by_cases hx : args = [] ∧ H = []
 ·obtain ⟨rfl, rfl⟩ := hx
  right; intro K
  exact iff_of_eq (X_zco.eq  K).symm
 ·left; intro K h
  simp only [e_zco] at h
  split at h
  ·exact hx ⟨rfl, rfl⟩
  ·exact h
noncomputable def e_zbt : Entry := ⟨[none], false, fun args H K => match args, H with
 | [.int .u64 a0], [] => zbt a0 (fun y0 => K (EV.int .i64 y0) [])
 | _, _ => False⟩
noncomputable def l_zbt : List (Nat × Entry) := [(185, e_zbr)]
noncomputable def E_zbt : Env := ⟨look tys, look l_zbt, look [(2, zbt.l2.entry)], gl, yat [], false⟩
theorem zbt.l2X.stepEq (R : List EV → yae → Prop) (K : Ex → List EV → yae → Prop) (x0 : Int) (x1 : Int) : yah (yar E_zbt (yaa Tryz.f141 0) { (LV.mk 0 [(0, 0)] 4 0 false) with nx := live (.loop (yaa Tryz.f141 0)) (LV.mk 0 [(0, 0)] 4 0 false) }) (live (.loop (yaa Tryz.f141 0)) (LV.mk 0 [(0, 0)] 4 0 false)) (LV.mk 0 [(0, 0)] 4 0 false) 0 12 R [EV.int .u64 x0, EV.int .i64 x1] [] K = zbt.l2.step (fun x0 x1 => R [EV.int .u64 x0, EV.int .i64 x1] []) (fun y0 => K .ret [EV.int .i64 y0] []) (K (.exit 0) [] []) x0 x1 := (yau _ _ _ _ _ _ _ _ _ _ _).symm.trans (by kernel_rfl)
theorem zbt.l2X.eq (K : Ex → List EV → yae → Prop) : ∀ (n : Nat) (x0 : Int) (x1 : Int), yaq E_zbt (yaa Tryz.f141 0) (LV.mk 0 [(0, 0)] 4 0 false) 0 12 K n [EV.int .u64 x0, EV.int .i64 x1] [] = zbt.l2 (fun y0 => K .ret [EV.int .i64 y0] []) (K (.exit 0) [] []) n x0 x1
 | 0, _, _ => rfl
 | n + 1, x0, x1 => by
  have ih : (fun (x0 : Int) (x1 : Int) => yaq E_zbt (yaa Tryz.f141 0) (LV.mk 0 [(0, 0)] 4 0 false) 0 12 K n [EV.int .u64 x0, EV.int .i64 x1] []) = zbt.l2 (fun y0 => K .ret [EV.int .i64 y0] []) (K (.exit 0) [] []) n := by funext x0 x1; exact zbt.l2X.eq K n x0 x1
  show yah _ _ _ _ _ (yaq E_zbt (yaa Tryz.f141 0) (LV.mk 0 [(0, 0)] 4 0 false) 0 12 K n) [EV.int .u64 x0, EV.int .i64 x1] [] K = zbt.l2.step (zbt.l2 (fun y0 => K .ret [EV.int .i64 y0] []) (K (.exit 0) [] []) n) (fun y0 => K .ret [EV.int .i64 y0] []) (K (.exit 0) [] []) x0 x1
  rw [← ih]
  exact zbt.l2X.stepEq _ K x0 x1
theorem zbt.l2X.ok : LoopEq E_zbt (yaa Tryz.f141 0) := by
 intro L hL vs H
 have h1 : E_zbt.lp (yag (yaa Tryz.f141 0)) = some zbt.l2.entry := by kernel_rfl
 have h2 : L = zbt.l2.entry := Option.some.inj (hL.symm.trans h1)
 subst h2
 by_cases hx : ∃ (x0 : Int) (x1 : Int), vs = [EV.int .u64 x0, EV.int .i64 x1] ∧ H = []
 ·obtain ⟨x0, x1, rfl, rfl⟩ := hx
  right; intro K
  exact exists_congr fun n => iff_of_eq (zbt.l2X.eq K n x0 x1).symm
 ·left; intro K h
  simp only [zbt.l2.entry] at h
  split at h
  ·exact hx ⟨_, _, rfl, rfl⟩
  ·exact h
theorem X_zbt.eq (a0 : Int) (K : EV → yae → Prop) : yaO E_zbt Tryz.f141 false [.int .u64 a0] [] K = zbt a0 (fun y0 => K (EV.int .i64 y0) []) := by
 rw [zbt.is]; exact (yad _ _ _ _ _ _).symm.trans (by kernel_rfl)
theorem X_zbt.ok : SoundE Tryz.prog gl 141 e_zbt := by
 refine yaS (E := E_zbt) (fn := Tryz.f141) rfl tys_ok rfl (show yaP _ l_zbt from ⟨X_zbr.ok, trivial⟩) mixed (by kernel_rfl) (by kernel_rfl) (by kernel_rfl) 1 (by kernel_rfl) false ⟨zbt.l2X.ok, trivial⟩ ?_
 intro args H
 by_cases hx : ∃ (a0 : Int), args = [.int .u64 a0] ∧ H = []
 ·obtain ⟨a0, rfl, rfl⟩ := hx
  right; intro K
  exact iff_of_eq (X_zbt.eq a0 K).symm
 ·left; intro K h
  simp only [e_zbt] at h
  split at h
  ·exact hx ⟨_, rfl, rfl⟩
  ·exact h
noncomputable def e_zcb : Entry := ⟨[none], false, fun args H K => match args, H with
 | [.str a0], [] => zcb a0 (fun y0 => K (EV.int .i64 y0) [])
 | _, _ => False⟩
noncomputable def l_zcb : List (Nat × Entry) := [(66, e_zcc), (81, e_zch), (141, e_zbt)]
noncomputable def E_zcb : Env := ⟨look tys, look l_zcb, look [(4, zcb.l4.entry)], gl, yat [], false⟩
theorem zcb.l4X.stepEq (R : List EV → yae → Prop) (K : Ex → List EV → yae → Prop) (x0 : List UInt8) (x1 : Int) : yah (yar E_zcb (yaa Tryz.f85 0) { (LV.mk 0 [(0, 0)] 4 0 false) with nx := live (.loop (yaa Tryz.f85 0)) (LV.mk 0 [(0, 0)] 4 0 false) }) (live (.loop (yaa Tryz.f85 0)) (LV.mk 0 [(0, 0)] 4 0 false)) (LV.mk 0 [(0, 0)] 4 0 false) 0 25 R [EV.str x0, EV.int .i64 x1] [] K = zcb.l4.step (fun x0 x1 => R [EV.str x0, EV.int .i64 x1] []) (fun y0 => K .ret [EV.int .i64 y0] []) (K (.exit 0) [] []) x0 x1 := (yau _ _ _ _ _ _ _ _ _ _ _).symm.trans (by kernel_rfl)
theorem zcb.l4X.eq (K : Ex → List EV → yae → Prop) : ∀ (n : Nat) (x0 : List UInt8) (x1 : Int), yaq E_zcb (yaa Tryz.f85 0) (LV.mk 0 [(0, 0)] 4 0 false) 0 25 K n [EV.str x0, EV.int .i64 x1] [] = zcb.l4 (fun y0 => K .ret [EV.int .i64 y0] []) (K (.exit 0) [] []) n x0 x1
 | 0, _, _ => rfl
 | n + 1, x0, x1 => by
  have ih : (fun (x0 : List UInt8) (x1 : Int) => yaq E_zcb (yaa Tryz.f85 0) (LV.mk 0 [(0, 0)] 4 0 false) 0 25 K n [EV.str x0, EV.int .i64 x1] []) = zcb.l4 (fun y0 => K .ret [EV.int .i64 y0] []) (K (.exit 0) [] []) n := by funext x0 x1; exact zcb.l4X.eq K n x0 x1
  show yah _ _ _ _ _ (yaq E_zcb (yaa Tryz.f85 0) (LV.mk 0 [(0, 0)] 4 0 false) 0 25 K n) [EV.str x0, EV.int .i64 x1] [] K = zcb.l4.step (zcb.l4 (fun y0 => K .ret [EV.int .i64 y0] []) (K (.exit 0) [] []) n) (fun y0 => K .ret [EV.int .i64 y0] []) (K (.exit 0) [] []) x0 x1
  rw [← ih]
  exact zcb.l4X.stepEq _ K x0 x1
theorem zcb.l4X.ok : LoopEq E_zcb (yaa Tryz.f85 0) := by
 intro L hL vs H
 have h1 : E_zcb.lp (yag (yaa Tryz.f85 0)) = some zcb.l4.entry := by kernel_rfl
 have h2 : L = zcb.l4.entry := Option.some.inj (hL.symm.trans h1)
 subst h2
 by_cases hx : ∃ (x0 : List UInt8) (x1 : Int), vs = [EV.str x0, EV.int .i64 x1] ∧ H = []
 ·obtain ⟨x0, x1, rfl, rfl⟩ := hx
  right; intro K
  exact exists_congr fun n => iff_of_eq (zcb.l4X.eq K n x0 x1).symm
 ·left; intro K h
  simp only [zcb.l4.entry] at h
  split at h
  ·exact hx ⟨_, _, rfl, rfl⟩
  ·exact h
theorem X_zcb.eq (a0 : List UInt8) (K : EV → yae → Prop) : yaO E_zcb Tryz.f85 false [.str a0] [] K = zcb a0 (fun y0 => K (EV.int .i64 y0) []) := by
 rw [zcb.is]; exact (yad _ _ _ _ _ _).symm.trans (by kernel_rfl)
theorem X_zcb.ok : SoundE Tryz.prog gl 85 e_zcb := by
 refine yaS (E := E_zcb) (fn := Tryz.f85) rfl tys_ok rfl (show yaP _ l_zcb from ⟨X_zcc.ok, X_zch.ok, X_zbt.ok, trivial⟩) mixed (by kernel_rfl) (by kernel_rfl) (by kernel_rfl) 1 (by kernel_rfl) false ⟨zcb.l4X.ok, trivial⟩ ?_
 intro args H
 by_cases hx : ∃ (a0 : List UInt8), args = [.str a0] ∧ H = []
 ·obtain ⟨a0, rfl, rfl⟩ := hx
  right; intro K
  exact iff_of_eq (X_zcb.eq a0 K).symm
 ·left; intro K h
  simp only [e_zcb] at h
  split at h
  ·exact hx ⟨_, rfl, rfl⟩
  ·exact h
end Go.Ev.S
