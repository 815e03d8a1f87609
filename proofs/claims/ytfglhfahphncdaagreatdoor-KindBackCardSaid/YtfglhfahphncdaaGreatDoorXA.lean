/- The functions of the seat: that the evaluator has them as they are. -/
import Derived.Test.YtfglhfahphncdaaGreatDoorProg
import Derived.Test.YtfglhfahphncdaaGreatDoorEvC
import Derived.Test.YtfglhfahphncdaaGreatDoorDA
import Derived.Test.YtfglhfahphncdaaGreatDoorLA
import Derived.KernelRfl
set_option maxRecDepth 100000
set_option linter.unusedVariables false
set_option linter.unusedSimpArgs false
namespace Go.Ev.S
open Go Go.Proofs Go.Ev
def tys : List (Nat × TI) := [
 (1, ⟨.func, 1, 8, .nilFunc⟩),
 (2, ⟨.int .i64, 1, 8, .int .i64 0⟩),
 (3, ⟨.int .i64, 1, 8, .int .i64 0⟩),
 (4, ⟨.bool, 1, 1, .bool false⟩),
 (5, ⟨.int .u8, 1, 1, .int .u8 0⟩),
 (6, ⟨.int .u8, 1, 1, .int .u8 0⟩),
 (7, ⟨.struct [(0, 2), (1, 3), (2, 4), (3, 6)], 4, 24, .agg [.int .i64 0, .int .i64 0, .bool false, .int .u8 0]⟩),
 (8, ⟨.struct [(0, 2), (1, 3), (2, 4), (3, 6)], 4, 24, .agg [.int .i64 0, .int .i64 0, .bool false, .int .u8 0]⟩),
 (9, ⟨.str, 1, 16, .str []⟩),
 (10, ⟨.str, 1, 16, .str []⟩),
 (11, ⟨.str, 1, 16, .str []⟩),
 (12, ⟨.int .u64, 1, 8, .int .u64 0⟩),
 (15, ⟨.ptr, 1, 8, .nilPtr⟩),
 (16, ⟨.ptr, 1, 8, .nilPtr⟩),
 (17, ⟨.ptr, 1, 8, .nilPtr⟩),
 (20, ⟨.iface, 1, 16, .nilIface⟩),
 (21, ⟨.int .i32, 1, 4, .int .i32 0⟩),
 (22, ⟨.int .u8, 1, 1, .int .u8 0⟩),
 (23, ⟨.int .u8, 1, 1, .int .u8 0⟩),
 (24, ⟨.int .u64, 1, 8, .int .u64 0⟩),
 (25, ⟨.array 6 24, 6, 48, .arr .u64 6 (fun _ => 0)⟩),
 (26, ⟨.array 6 24, 6, 48, .arr .u64 6 (fun _ => 0)⟩),
 (27, ⟨.struct [(0, 4), (1, 26), (7, 3), (8, 4)], 9, 72, .agg [.bool false, .arr .u64 6 (fun _ => 0), .int .i64 0, .bool false]⟩),
 (28, ⟨.struct [(0, 4), (1, 26), (7, 3), (8, 4)], 9, 72, .agg [.bool false, .arr .u64 6 (fun _ => 0), .int .i64 0, .bool false]⟩),
 (29, ⟨.struct [(0, 24), (1, 24)], 2, 16, .agg [.int .u64 0, .int .u64 0]⟩),
 (30, ⟨.struct [(0, 24), (1, 24)], 2, 16, .agg [.int .u64 0, .int .u64 0]⟩),
 (31, ⟨.int .u8, 1, 1, .int .u8 0⟩),
 (32, ⟨.int .i64, 1, 8, .int .i64 0⟩),
 (34, ⟨.func, 1, 8, .nilFunc⟩),
 (36, ⟨.func, 1, 8, .nilFunc⟩),
 (37, ⟨.func, 1, 8, .nilFunc⟩),
 (38, ⟨.func, 1, 8, .nilFunc⟩),
 (39, ⟨.str, 1, 16, .str []⟩),
 (40, ⟨.struct [(0, 4), (1, 39), (2, 39), (3, 3)], 4, 48, .agg [.bool false, .str [], .str [], .int .i64 0]⟩),
 (41, ⟨.struct [(0, 4), (1, 39), (2, 39), (3, 3)], 4, 48, .agg [.bool false, .str [], .str [], .int .i64 0]⟩),
 (43, ⟨.func, 1, 8, .nilFunc⟩),
 (44, ⟨.func, 1, 8, .nilFunc⟩),
 (46, ⟨.func, 1, 8, .nilFunc⟩),
 (48, ⟨.func, 1, 8, .nilFunc⟩),
 (49, ⟨.func, 1, 8, .nilFunc⟩),
 (50, ⟨.func, 1, 8, .nilFunc⟩),
 (52, ⟨.func, 1, 8, .nilFunc⟩),
 (53, ⟨.func, 1, 8, .nilFunc⟩),
 (54, ⟨.func, 1, 8, .nilFunc⟩),
 (55, ⟨.func, 1, 8, .nilFunc⟩),
 (57, ⟨.func, 1, 8, .nilFunc⟩),
 (58, ⟨.func, 1, 8, .nilFunc⟩),
 (59, ⟨.func, 1, 8, .nilFunc⟩),
 (60, ⟨.func, 1, 8, .nilFunc⟩),
 (61, ⟨.func, 1, 8, .nilFunc⟩),
 (62, ⟨.func, 1, 8, .nilFunc⟩),
 (63, ⟨.func, 1, 8, .nilFunc⟩),
 (65, ⟨.func, 1, 8, .nilFunc⟩),
 (66, ⟨.func, 1, 8, .nilFunc⟩),
 (68, ⟨.func, 1, 8, .nilFunc⟩),
 (70, ⟨.func, 1, 8, .nilFunc⟩),
 (71, ⟨.func, 1, 8, .nilFunc⟩),
 (72, ⟨.int .u8, 1, 1, .int .u8 0⟩),
 (73, ⟨.struct [(0, 72), (1, 26), (7, 3), (8, 26)], 14, 112, .agg [.int .u8 0, .arr .u64 6 (fun _ => 0), .int .i64 0, .arr .u64 6 (fun _ => 0)]⟩),
 (74, ⟨.struct [(0, 72), (1, 26), (7, 3), (8, 26)], 14, 112, .agg [.int .u8 0, .arr .u64 6 (fun _ => 0), .int .i64 0, .arr .u64 6 (fun _ => 0)]⟩),
 (76, ⟨.func, 1, 8, .nilFunc⟩),
 (77, ⟨.func, 1, 8, .nilFunc⟩),
 (78, ⟨.func, 1, 8, .nilFunc⟩),
 (79, ⟨.func, 1, 8, .nilFunc⟩),
 (80, ⟨.func, 1, 8, .nilFunc⟩),
 (81, ⟨.func, 1, 8, .nilFunc⟩),
 (82, ⟨.func, 1, 8, .nilFunc⟩),
 (83, ⟨.func, 1, 8, .nilFunc⟩),
 (85, ⟨.func, 1, 8, .nilFunc⟩),
 (86, ⟨.func, 1, 8, .nilFunc⟩),
 (87, ⟨.func, 1, 8, .nilFunc⟩),
 (88, ⟨.func, 1, 8, .nilFunc⟩),
 (89, ⟨.func, 1, 8, .nilFunc⟩),
 (90, ⟨.func, 1, 8, .nilFunc⟩),
 (92, ⟨.func, 1, 8, .nilFunc⟩),
 (93, ⟨.func, 1, 8, .nilFunc⟩),
 (94, ⟨.func, 1, 8, .nilFunc⟩),
 (95, ⟨.func, 1, 8, .nilFunc⟩),
 (96, ⟨.func, 1, 8, .nilFunc⟩),
 (98, ⟨.func, 1, 8, .nilFunc⟩),
 (99, ⟨.func, 1, 8, .nilFunc⟩),
 (100, ⟨.func, 1, 8, .nilFunc⟩),
 (102, ⟨.func, 1, 8, .nilFunc⟩),
 (104, ⟨.func, 1, 8, .nilFunc⟩),
 (105, ⟨.func, 1, 8, .nilFunc⟩),
 (106, ⟨.func, 1, 8, .nilFunc⟩),
 (107, ⟨.func, 1, 8, .nilFunc⟩),
 (108, ⟨.func, 1, 8, .nilFunc⟩),
 (109, ⟨.func, 1, 8, .nilFunc⟩),
 (110, ⟨.func, 1, 8, .nilFunc⟩),
 (111, ⟨.func, 1, 8, .nilFunc⟩),
 (112, ⟨.func, 1, 8, .nilFunc⟩),
 (114, ⟨.func, 1, 8, .nilFunc⟩),
 (116, ⟨.func, 1, 8, .nilFunc⟩),
 (117, ⟨.func, 1, 8, .nilFunc⟩),
 (118, ⟨.func, 1, 8, .nilFunc⟩),
 (119, ⟨.slice 5, 1, 24, .nilSlice⟩),
 (120, ⟨.func, 1, 8, .nilFunc⟩),
 (121, ⟨.int .u64, 1, 8, .int .u64 0⟩),
 (122, ⟨.func, 1, 8, .nilFunc⟩),
 (123, ⟨.func, 1, 8, .nilFunc⟩),
 (124, ⟨.func, 1, 8, .nilFunc⟩),
 (126, ⟨.func, 1, 8, .nilFunc⟩),
 (127, ⟨.func, 1, 8, .nilFunc⟩),
 (128, ⟨.func, 1, 8, .nilFunc⟩),
 (129, ⟨.struct [(0, 41), (4, 4)], 5, 56, .agg [.agg [.bool false, .str [], .str [], .int .i64 0], .bool false]⟩),
 (130, ⟨.struct [(0, 41), (4, 4)], 5, 56, .agg [.agg [.bool false, .str [], .str [], .int .i64 0], .bool false]⟩),
 (131, ⟨.func, 1, 8, .nilFunc⟩),
 (132, ⟨.func, 1, 8, .nilFunc⟩),
 (133, ⟨.func, 1, 8, .nilFunc⟩),
 (135, ⟨.func, 1, 8, .nilFunc⟩),
 (136, ⟨.func, 1, 8, .nilFunc⟩),
 (137, ⟨.func, 1, 8, .nilFunc⟩),
 (139, ⟨.func, 1, 8, .nilFunc⟩),
 (140, ⟨.func, 1, 8, .nilFunc⟩),
 (141, ⟨.func, 1, 8, .nilFunc⟩),
 (142, ⟨.func, 1, 8, .nilFunc⟩),
 (144, ⟨.func, 1, 8, .nilFunc⟩),
 (145, ⟨.func, 1, 8, .nilFunc⟩),
 (146, ⟨.func, 1, 8, .nilFunc⟩),
 (148, ⟨.func, 1, 8, .nilFunc⟩),
 (149, ⟨.func, 1, 8, .nilFunc⟩),
 (151, ⟨.func, 1, 8, .nilFunc⟩),
 (152, ⟨.func, 1, 8, .nilFunc⟩),
 (153, ⟨.func, 1, 8, .nilFunc⟩),
 (154, ⟨.func, 1, 8, .nilFunc⟩),
 (155, ⟨.func, 1, 8, .nilFunc⟩),
 (157, ⟨.func, 1, 8, .nilFunc⟩),
 (159, ⟨.func, 1, 8, .nilFunc⟩),
 (160, ⟨.slice 161, 1, 24, .nilSlice⟩),
 (161, ⟨.int .u32, 1, 4, .int .u32 0⟩),
 (162, ⟨.func, 1, 8, .nilFunc⟩),
 (163, ⟨.func, 1, 8, .nilFunc⟩),
 (164, ⟨.func, 1, 8, .nilFunc⟩),
 (165, ⟨.func, 1, 8, .nilFunc⟩),
 (166, ⟨.func, 1, 8, .nilFunc⟩),
 (167, ⟨.func, 1, 8, .nilFunc⟩),
 (168, ⟨.func, 1, 8, .nilFunc⟩),
 (169, ⟨.func, 1, 8, .nilFunc⟩),
 (170, ⟨.func, 1, 8, .nilFunc⟩),
 (172, ⟨.func, 1, 8, .nilFunc⟩),
 (173, ⟨.func, 1, 8, .nilFunc⟩),
 (175, ⟨.func, 1, 8, .nilFunc⟩),
 (177, ⟨.func, 1, 8, .nilFunc⟩),
 (179, ⟨.func, 1, 8, .nilFunc⟩),
 (180, ⟨.iface, 1, 16, .nilIface⟩),
 (181, ⟨.iface, 1, 16, .nilIface⟩),
 (183, ⟨.func, 1, 8, .nilFunc⟩),
 (184, ⟨.func, 1, 8, .nilFunc⟩),
 (186, ⟨.func, 1, 8, .nilFunc⟩),
 (188, ⟨.func, 1, 8, .nilFunc⟩),
 (189, ⟨.func, 1, 8, .nilFunc⟩),
 (190, ⟨.func, 1, 8, .nilFunc⟩),
 (191, ⟨.struct [(0, 3), (1, 3), (2, 3), (3, 9)], 4, 40, .agg [.int .i64 0, .int .i64 0, .int .i64 0, .str []]⟩),
 (192, ⟨.array 4 191, 16, 160, .agg [.agg [.int .i64 0, .int .i64 0, .int .i64 0, .str []], .agg [.int .i64 0, .int .i64 0, .int .i64 0, .str []], .agg [.int .i64 0, .int .i64 0, .int .i64 0, .str []], .agg [.int .i64 0, .int .i64 0, .int .i64 0, .str []]]⟩),
 (193, ⟨.func, 1, 8, .nilFunc⟩),
 (194, ⟨.func, 1, 8, .nilFunc⟩),
 (195, ⟨.func, 1, 8, .nilFunc⟩),
 (196, ⟨.func, 1, 8, .nilFunc⟩),
 (197, ⟨.struct [(0, 9), (1, 3), (2, 3), (3, 4)], 4, 40, .agg [.str [], .int .i64 0, .int .i64 0, .bool false]⟩),
 (198, ⟨.struct [(0, 9), (1, 3), (2, 3), (3, 4)], 4, 40, .agg [.str [], .int .i64 0, .int .i64 0, .bool false]⟩),
 (199, ⟨.func, 1, 8, .nilFunc⟩),
 (200, ⟨.func, 1, 8, .nilFunc⟩),
 (201, ⟨.func, 1, 8, .nilFunc⟩),
 (202, ⟨.func, 1, 8, .nilFunc⟩),
 (203, ⟨.func, 1, 8, .nilFunc⟩),
 (205, ⟨.func, 1, 8, .nilFunc⟩),
 (206, ⟨.func, 1, 8, .nilFunc⟩),
 (207, ⟨.func, 1, 8, .nilFunc⟩),
 (208, ⟨.func, 1, 8, .nilFunc⟩),
 (209, ⟨.func, 1, 8, .nilFunc⟩),
 (210, ⟨.func, 1, 8, .nilFunc⟩),
 (211, ⟨.func, 1, 8, .nilFunc⟩),
 (212, ⟨.func, 1, 8, .nilFunc⟩),
 (213, ⟨.func, 1, 8, .nilFunc⟩),
 (214, ⟨.func, 1, 8, .nilFunc⟩),
 (216, ⟨.func, 1, 8, .nilFunc⟩),
 (217, ⟨.func, 1, 8, .nilFunc⟩),
 (218, ⟨.func, 1, 8, .nilFunc⟩),
 (219, ⟨.func, 1, 8, .nilFunc⟩),
 (220, ⟨.func, 1, 8, .nilFunc⟩),
 (221, ⟨.array 24 5, 24, 24, .arr .u8 24 (fun _ => 0)⟩),
 (222, ⟨.func, 1, 8, .nilFunc⟩),
 (224, ⟨.func, 1, 8, .nilFunc⟩),
 (225, ⟨.func, 1, 8, .nilFunc⟩),
 (226, ⟨.int .i64, 1, 8, .int .i64 0⟩),
 (228, ⟨.func, 1, 8, .nilFunc⟩),
 (229, ⟨.ptr, 1, 8, .nilPtr⟩),
 (230, ⟨.func, 1, 8, .nilFunc⟩),
 (231, ⟨.func, 1, 8, .nilFunc⟩),
 (232, ⟨.array 64 5, 64, 64, .arr .u8 64 (fun _ => 0)⟩),
 (233, ⟨.func, 1, 8, .nilFunc⟩),
 (234, ⟨.func, 1, 8, .nilFunc⟩),
 (235, ⟨.array 20 24, 20, 160, .arr .u64 20 (fun _ => 0)⟩),
 (236, ⟨.array 65 5, 65, 65, .arr .u8 65 (fun _ => 0)⟩),
 (237, ⟨.func, 1, 8, .nilFunc⟩),
 (239, ⟨.func, 1, 8, .nilFunc⟩),
 (240, ⟨.func, 1, 8, .nilFunc⟩),
 (243, ⟨.func, 1, 8, .nilFunc⟩),
 (244, ⟨.func, 1, 8, .nilFunc⟩),
 (246, ⟨.func, 1, 8, .nilFunc⟩),
 (247, ⟨.func, 1, 8, .nilFunc⟩),
 (248, ⟨.ptr, 1, 8, .nilPtr⟩),
 (249, ⟨.ptr, 1, 8, .nilPtr⟩),
 (250, ⟨.struct [(0, 9)], 1, 16, .agg [.str []]⟩),
 (251, ⟨.struct [(0, 9)], 1, 16, .agg [.str []]⟩),
 (252, ⟨.array 32 5, 32, 32, .arr .u8 32 (fun _ => 0)⟩),
 (253, ⟨.func, 1, 8, .nilFunc⟩),
 (256, ⟨.array 0 16, 0, 0, .agg []⟩),
 (259, ⟨.int .u8, 1, 1, .int .u8 0⟩),
 (260, ⟨.int .u8, 1, 1, .int .u8 0⟩),
 (261, ⟨.func, 1, 8, .nilFunc⟩),
 (262, ⟨.int .i32, 1, 4, .int .i32 0⟩),
 (263, ⟨.int .i32, 1, 4, .int .i32 0⟩)]
theorem tys_ok : ya4 (OkTI Tryz.prog) tys :=
 ⟨.of (by kernel_rfl) (by kernel_rfl), .of (by kernel_rfl) (by kernel_rfl), .of (by kernel_rfl) (by kernel_rfl), .of (by kernel_rfl) (by kernel_rfl), .of (by kernel_rfl) (by kernel_rfl), .of (by kernel_rfl) (by kernel_rfl), .of (by kernel_rfl) (by kernel_rfl), .of (by kernel_rfl) (by kernel_rfl), .of (by kernel_rfl) (by kernel_rfl), .of (by kernel_rfl) (by kernel_rfl), .of (by kernel_rfl) (by kernel_rfl), .of (by kernel_rfl) (by kernel_rfl), .of (by kernel_rfl) (by kernel_rfl), .of (by kernel_rfl) (by kernel_rfl), .of (by kernel_rfl) (by kernel_rfl), .of (by kernel_rfl) (by kernel_rfl), .of (by kernel_rfl) (by kernel_rfl), .of (by kernel_rfl) (by kernel_rfl), .of (by kernel_rfl) (by kernel_rfl), .of (by kernel_rfl) (by kernel_rfl), .of (by kernel_rfl) (by kernel_rfl), .of (by kernel_rfl) (by kernel_rfl), .of (by kernel_rfl) (by kernel_rfl), .of (by kernel_rfl) (by kernel_rfl), .of (by kernel_rfl) (by kernel_rfl), .of (by kernel_rfl) (by kernel_rfl), .of (by kernel_rfl) (by kernel_rfl), .of (by kernel_rfl) (by kernel_rfl), .of (by kernel_rfl) (by kernel_rfl), .of (by kernel_rfl) (by kernel_rfl), .of (by kernel_rfl) (by kernel_rfl), .of (by kernel_rfl) (by kernel_rfl), .of (by kernel_rfl) (by kernel_rfl), .of (by kernel_rfl) (by kernel_rfl), .of (by kernel_rfl) (by kernel_rfl), .of (by kernel_rfl) (by kernel_rfl), .of (by kernel_rfl) (by kernel_rfl), .of (by kernel_rfl) (by kernel_rfl), .of (by kernel_rfl) (by kernel_rfl), .of (by kernel_rfl) (by kernel_rfl), .of (by kernel_rfl) (by kernel_rfl), .of (by kernel_rfl) (by kernel_rfl), .of (by kernel_rfl) (by kernel_rfl), .of (by kernel_rfl) (by kernel_rfl), .of (by kernel_rfl) (by kernel_rfl), .of (by kernel_rfl) (by kernel_rfl), .of (by kernel_rfl) (by kernel_rfl), .of (by kernel_rfl) (by kernel_rfl), .of (by kernel_rfl) (by kernel_rfl), .of (by kernel_rfl) (by kernel_rfl), .of (by kernel_rfl) (by kernel_rfl), .of (by kernel_rfl) (by kernel_rfl), .of (by kernel_rfl) (by kernel_rfl), .of (by kernel_rfl) (by kernel_rfl), .of (by kernel_rfl) (by kernel_rfl), .of (by kernel_rfl) (by kernel_rfl), .of (by kernel_rfl) (by kernel_rfl), .of (by kernel_rfl) (by kernel_rfl), .of (by kernel_rfl) (by kernel_rfl), .of (by kernel_rfl) (by kernel_rfl), .of (by kernel_rfl) (by kernel_rfl), .of (by kernel_rfl) (by kernel_rfl), .of (by kernel_rfl) (by kernel_rfl), .of (by kernel_rfl) (by kernel_rfl), .of (by kernel_rfl) (by kernel_rfl), .of (by kernel_rfl) (by kernel_rfl), .of (by kernel_rfl) (by kernel_rfl), .of (by kernel_rfl) (by kernel_rfl), .of (by kernel_rfl) (by kernel_rfl), .of (by kernel_rfl) (by kernel_rfl), .of (by kernel_rfl) (by kernel_rfl), .of (by kernel_rfl) (by kernel_rfl), .of (by kernel_rfl) (by kernel_rfl), .of (by kernel_rfl) (by kernel_rfl), .of (by kernel_rfl) (by kernel_rfl), .of (by kernel_rfl) (by kernel_rfl), .of (by kernel_rfl) (by kernel_rfl), .of (by kernel_rfl) (by kernel_rfl), .of (by kernel_rfl) (by kernel_rfl), .of (by kernel_rfl) (by kernel_rfl), .of (by kernel_rfl) (by kernel_rfl), .of (by kernel_rfl) (by kernel_rfl), .of (by kernel_rfl) (by kernel_rfl), .of (by kernel_rfl) (by kernel_rfl), .of (by kernel_rfl) (by kernel_rfl), .of (by kernel_rfl) (by kernel_rfl), .of (by kernel_rfl) (by kernel_rfl), .of (by kernel_rfl) (by kernel_rfl), .of (by kernel_rfl) (by kernel_rfl), .of (by kernel_rfl) (by kernel_rfl), .of (by kernel_rfl) (by kernel_rfl), .of (by kernel_rfl) (by kernel_rfl), .of (by kernel_rfl) (by kernel_rfl), .of (by kernel_rfl) (by kernel_rfl), .of (by kernel_rfl) (by kernel_rfl), .of (by kernel_rfl) (by kernel_rfl), .of (by kernel_rfl) (by kernel_rfl), .of (by kernel_rfl) (by kernel_rfl), .of (by kernel_rfl) (by kernel_rfl), .of (by kernel_rfl) (by kernel_rfl), .of (by kernel_rfl) (by kernel_rfl), .of (by kernel_rfl) (by kernel_rfl), .of (by kernel_rfl) (by kernel_rfl), .of (by kernel_rfl) (by kernel_rfl), .of (by kernel_rfl) (by kernel_rfl), .of (by kernel_rfl) (by kernel_rfl), .of (by kernel_rfl) (by kernel_rfl), .of (by kernel_rfl) (by kernel_rfl), .of (by kernel_rfl) (by kernel_rfl), .of (by kernel_rfl) (by kernel_rfl), .of (by kernel_rfl) (by kernel_rfl), .of (by kernel_rfl) (by kernel_rfl), .of (by kernel_rfl) (by kernel_rfl), .of (by kernel_rfl) (by kernel_rfl), .of (by kernel_rfl) (by kernel_rfl), .of (by kernel_rfl) (by kernel_rfl), .of (by kernel_rfl) (by kernel_rfl), .of (by kernel_rfl) (by kernel_rfl), .of (by kernel_rfl) (by kernel_rfl), .of (by kernel_rfl) (by kernel_rfl), .of (by kernel_rfl) (by kernel_rfl), .of (by kernel_rfl) (by kernel_rfl), .of (by kernel_rfl) (by kernel_rfl), .of (by kernel_rfl) (by kernel_rfl), .of (by kernel_rfl) (by kernel_rfl), .of (by kernel_rfl) (by kernel_rfl), .of (by kernel_rfl) (by kernel_rfl), .of (by kernel_rfl) (by kernel_rfl), .of (by kernel_rfl) (by kernel_rfl), .of (by kernel_rfl) (by kernel_rfl), .of (by kernel_rfl) (by kernel_rfl), .of (by kernel_rfl) (by kernel_rfl), .of (by kernel_rfl) (by kernel_rfl), .of (by kernel_rfl) (by kernel_rfl), .of (by kernel_rfl) (by kernel_rfl), .of (by kernel_rfl) (by kernel_rfl), .of (by kernel_rfl) (by kernel_rfl), .of (by kernel_rfl) (by kernel_rfl), .of (by kernel_rfl) (by kernel_rfl), .of (by kernel_rfl) (by kernel_rfl), .of (by kernel_rfl) (by kernel_rfl), .of (by kernel_rfl) (by kernel_rfl), .of (by kernel_rfl) (by kernel_rfl), .of (by kernel_rfl) (by kernel_rfl), .of (by kernel_rfl) (by kernel_rfl), .of (by kernel_rfl) (by kernel_rfl), .of (by kernel_rfl) (by kernel_rfl), .of (by kernel_rfl) (by kernel_rfl), .of (by kernel_rfl) (by kernel_rfl), .of (by kernel_rfl) (by kernel_rfl), .of (by kernel_rfl) (by kernel_rfl), .of (by kernel_rfl) (by kernel_rfl), .of (by kernel_rfl) (by kernel_rfl), .of (by kernel_rfl) (by kernel_rfl), .of (by kernel_rfl) (by kernel_rfl), .of (by kernel_rfl) (by kernel_rfl), .of (by kernel_rfl) (by kernel_rfl), .of (by kernel_rfl) (by kernel_rfl), .of (by kernel_rfl) (by kernel_rfl), .of (by kernel_rfl) (by kernel_rfl), .of (by kernel_rfl) (by kernel_rfl), .of (by kernel_rfl) (by kernel_rfl), .of (by kernel_rfl) (by kernel_rfl), .of (by kernel_rfl) (by kernel_rfl), .of (by kernel_rfl) (by kernel_rfl), .of (by kernel_rfl) (by kernel_rfl), .of (by kernel_rfl) (by kernel_rfl), .of (by kernel_rfl) (by kernel_rfl), .of (by kernel_rfl) (by kernel_rfl), .of (by kernel_rfl) (by kernel_rfl), .of (by kernel_rfl) (by kernel_rfl), .of (by kernel_rfl) (by kernel_rfl), .of (by kernel_rfl) (by kernel_rfl), .of (by kernel_rfl) (by kernel_rfl), .of (by kernel_rfl) (by kernel_rfl), .of (by kernel_rfl) (by kernel_rfl), .of (by kernel_rfl) (by kernel_rfl), .of (by kernel_rfl) (by kernel_rfl), .of (by kernel_rfl) (by kernel_rfl), .of (by kernel_rfl) (by kernel_rfl), .of (by kernel_rfl) (by kernel_rfl), .of (by kernel_rfl) (by kernel_rfl), .of (by kernel_rfl) (by kernel_rfl), .of (by kernel_rfl) (by kernel_rfl), .of (by kernel_rfl) (by kernel_rfl), .of (by kernel_rfl) (by kernel_rfl), .of (by kernel_rfl) (by kernel_rfl), .of (by kernel_rfl) (by kernel_rfl), .of (by kernel_rfl) (by kernel_rfl), .of (by kernel_rfl) (by kernel_rfl), .of (by kernel_rfl) (by kernel_rfl), .of (by kernel_rfl) (by kernel_rfl), .of (by kernel_rfl) (by kernel_rfl), .of (by kernel_rfl) (by kernel_rfl), .of (by kernel_rfl) (by kernel_rfl), .of (by kernel_rfl) (by kernel_rfl), .of (by kernel_rfl) (by kernel_rfl), .of (by kernel_rfl) (by kernel_rfl), .of (by kernel_rfl) (by kernel_rfl), .of (by kernel_rfl) (by kernel_rfl), .of (by kernel_rfl) (by kernel_rfl), .of (by kernel_rfl) (by kernel_rfl), .of (by kernel_rfl) (by kernel_rfl), .of (by kernel_rfl) (by kernel_rfl), .of (by kernel_rfl) (by kernel_rfl), .of (by kernel_rfl) (by kernel_rfl), .of (by kernel_rfl) (by kernel_rfl), .of (by kernel_rfl) (by kernel_rfl), .of (by kernel_rfl) (by kernel_rfl), .of (by kernel_rfl) (by kernel_rfl), .of (by kernel_rfl) (by kernel_rfl), .of (by kernel_rfl) (by kernel_rfl), .of (by kernel_rfl) (by kernel_rfl), .of (by kernel_rfl) (by kernel_rfl), trivial⟩
theorem mixed : Tryz.prog.follows .mixedOrders = true := by kernel_rfl
noncomputable def gl : Nat → Option EV := look [(0, .arr .u8 64 ybc), (1, .arr .u64 20 yhi), (3, .iface 249 (.rref (.str [105, 110, 118, 97, 108, 105, 100, 32, 115, 121, 110, 116, 97, 120]))), (4, .iface 249 (.rref (.str [118, 97, 108, 117, 101, 32, 111, 117, 116, 32, 111, 102, 32, 114, 97, 110, 103, 101])))]
noncomputable def e_zcu : Entry := ⟨[none], false, fun args H K => match args, H with
 | [.int .u8 a0], [] => zcu a0 (fun y0 y1 y2 y3 => K (EV.tuple [EV.int .i64 y0, EV.int .i64 y1, EV.int .i64 y2, EV.str y3]) [])
 | _, _ => False⟩
noncomputable def E_zcu : Env := ⟨look tys, look [], look [], gl, yat [], false⟩
theorem X_zcu.eq (a0 : Int) (K : EV → yaf → Prop) : yaZ E_zcu Tryz.f103 false [.int .u8 a0] [] K = zcu a0 (fun y0 y1 y2 y3 => K (EV.tuple [EV.int .i64 y0, EV.int .i64 y1, EV.int .i64 y2, EV.str y3]) []) := by
 rw [zcu.is]; exact (yag _ _ _ _ _ _).symm.trans (by kernel_rfl)
theorem X_zcu.ok : SoundE Tryz.prog gl 103 e_zcu := by
 refine ya8 (E := E_zcu) (fn := Tryz.f103) rfl tys_ok rfl (show ya4 _ [] from trivial) mixed (by kernel_rfl) (by kernel_rfl) (by kernel_rfl) 0 (by kernel_rfl) false trivial ?_
 intro args H
 by_cases hx : ∃ (a0 : Int), args = [.int .u8 a0] ∧ H = []
 ·obtain ⟨a0, rfl, rfl⟩ := hx
  right; intro K
  exact iff_of_eq (X_zcu.eq a0 K).symm
 ·left; intro K h
  simp only [e_zcu] at h
  split at h
  ·exact hx ⟨_, rfl, rfl⟩
  ·exact h
noncomputable def e_zcp : Entry := ⟨[none], false, fun args H K => match args, H with
 | [.int .u8 a0], [] => zcp a0 (fun y0 => K (EV.int .i64 y0) [])
 | _, _ => False⟩
noncomputable def l_zcp : List (Nat × Entry) := [(103, e_zcu)]
noncomputable def E_zcp : Env := ⟨look tys, look l_zcp, look [], gl, yat [], false⟩
theorem X_zcp.eq (a0 : Int) (K : EV → yaf → Prop) : yaZ E_zcp Tryz.f35 false [.int .u8 a0] [] K = zcp a0 (fun y0 => K (EV.int .i64 y0) []) := by
 rw [zcp.is]; exact (yag _ _ _ _ _ _).symm.trans (by kernel_rfl)
theorem X_zcp.ok : SoundE Tryz.prog gl 35 e_zcp := by
 refine ya8 (E := E_zcp) (fn := Tryz.f35) rfl tys_ok rfl (show ya4 _ l_zcp from ⟨X_zcu.ok, trivial⟩) mixed (by kernel_rfl) (by kernel_rfl) (by kernel_rfl) 0 (by kernel_rfl) false trivial ?_
 intro args H
 by_cases hx : ∃ (a0 : Int), args = [.int .u8 a0] ∧ H = []
 ·obtain ⟨a0, rfl, rfl⟩ := hx
  right; intro K
  exact iff_of_eq (X_zcp.eq a0 K).symm
 ·left; intro K h
  simp only [e_zcp] at h
  split at h
  ·exact hx ⟨_, rfl, rfl⟩
  ·exact h
noncomputable def e_zcl : Entry := ⟨[none], false, fun args H K => match args, H with
 | [.int .u8 a0], [] => zcl a0 (fun y0 => K (EV.int .i64 y0) [])
 | _, _ => False⟩
noncomputable def l_zcl : List (Nat × Entry) := [(103, e_zcu)]
noncomputable def E_zcl : Env := ⟨look tys, look l_zcl, look [], gl, yat [], false⟩
theorem X_zcl.eq (a0 : Int) (K : EV → yaf → Prop) : yaZ E_zcl Tryz.f40 false [.int .u8 a0] [] K = zcl a0 (fun y0 => K (EV.int .i64 y0) []) := by
 rw [zcl.is]; exact (yag _ _ _ _ _ _).symm.trans (by kernel_rfl)
theorem X_zcl.ok : SoundE Tryz.prog gl 40 e_zcl := by
 refine ya8 (E := E_zcl) (fn := Tryz.f40) rfl tys_ok rfl (show ya4 _ l_zcl from ⟨X_zcu.ok, trivial⟩) mixed (by kernel_rfl) (by kernel_rfl) (by kernel_rfl) 0 (by kernel_rfl) false trivial ?_
 intro args H
 by_cases hx : ∃ (a0 : Int), args = [.int .u8 a0] ∧ H = []
 ·obtain ⟨a0, rfl, rfl⟩ := hx
  right; intro K
  exact iff_of_eq (X_zcl.eq a0 K).symm
 ·left; intro K h
  simp only [e_zcl] at h
  split at h
  ·exact hx ⟨_, rfl, rfl⟩
  ·exact h
noncomputable def e_zck : Entry := ⟨[none], false, fun args H K => match args, H with
 | [.int .u8 a0], [] => zck a0 (fun y0 => K (EV.int .i64 y0) [])
 | _, _ => False⟩
noncomputable def E_zck : Env := ⟨look tys, look [], look [], gl, yat [], false⟩
theorem X_zck.eq (a0 : Int) (K : EV → yaf → Prop) : yaZ E_zck Tryz.f57 false [.int .u8 a0] [] K = zck a0 (fun y0 => K (EV.int .i64 y0) []) := by
 rw [zck.is]; exact (yag _ _ _ _ _ _).symm.trans (by kernel_rfl)
theorem X_zck.ok : SoundE Tryz.prog gl 57 e_zck := by
 refine ya8 (E := E_zck) (fn := Tryz.f57) rfl tys_ok rfl (show ya4 _ [] from trivial) mixed (by kernel_rfl) (by kernel_rfl) (by kernel_rfl) 0 (by kernel_rfl) false trivial ?_
 intro args H
 by_cases hx : ∃ (a0 : Int), args = [.int .u8 a0] ∧ H = []
 ·obtain ⟨a0, rfl, rfl⟩ := hx
  right; intro K
  exact iff_of_eq (X_zck.eq a0 K).symm
 ·left; intro K h
  simp only [e_zck] at h
  split at h
  ·exact hx ⟨_, rfl, rfl⟩
  ·exact h
noncomputable def e_zcm : Entry := ⟨[none], false, fun args H K => match args, H with
 | [.int .u8 a0], [] => zcm a0 (fun y0 => K (EV.int .i64 y0) [])
 | _, _ => False⟩
noncomputable def l_zcm : List (Nat × Entry) := [(40, e_zcl), (57, e_zck)]
noncomputable def E_zcm : Env := ⟨look tys, look l_zcm, look [], gl, yat [], false⟩
theorem X_zcm.eq (a0 : Int) (K : EV → yaf → Prop) : yaZ E_zcm Tryz.f39 false [.int .u8 a0] [] K = zcm a0 (fun y0 => K (EV.int .i64 y0) []) := by
 rw [zcm.is]; exact (yag _ _ _ _ _ _).symm.trans (by kernel_rfl)
theorem X_zcm.ok : SoundE Tryz.prog gl 39 e_zcm := by
 refine ya8 (E := E_zcm) (fn := Tryz.f39) rfl tys_ok rfl (show ya4 _ l_zcm from ⟨X_zcl.ok, X_zck.ok, trivial⟩) mixed (by kernel_rfl) (by kernel_rfl) (by kernel_rfl) 0 (by kernel_rfl) false trivial ?_
 intro args H
 by_cases hx : ∃ (a0 : Int), args = [.int .u8 a0] ∧ H = []
 ·obtain ⟨a0, rfl, rfl⟩ := hx
  right; intro K
  exact iff_of_eq (X_zcm.eq a0 K).symm
 ·left; intro K h
  simp only [e_zcm] at h
  split at h
  ·exact hx ⟨_, rfl, rfl⟩
  ·exact h
noncomputable def e_zcq : Entry := ⟨[none], false, fun args H K => match args, H with
 | [.int .u8 a0], [] => zcq a0 (fun y0 => K (EV.int .i64 y0) [])
 | _, _ => False⟩
noncomputable def l_zcq : List (Nat × Entry) := [(103, e_zcu)]
noncomputable def E_zcq : Env := ⟨look tys, look l_zcq, look [], gl, yat [], false⟩
theorem X_zcq.eq (a0 : Int) (K : EV → yaf → Prop) : yaZ E_zcq Tryz.f102 false [.int .u8 a0] [] K = zcq a0 (fun y0 => K (EV.int .i64 y0) []) := by
 rw [zcq.is]; exact (yag _ _ _ _ _ _).symm.trans (by kernel_rfl)
theorem X_zcq.ok : SoundE Tryz.prog gl 102 e_zcq := by
 refine ya8 (E := E_zcq) (fn := Tryz.f102) rfl tys_ok rfl (show ya4 _ l_zcq from ⟨X_zcu.ok, trivial⟩) mixed (by kernel_rfl) (by kernel_rfl) (by kernel_rfl) 0 (by kernel_rfl) false trivial ?_
 intro args H
 by_cases hx : ∃ (a0 : Int), args = [.int .u8 a0] ∧ H = []
 ·obtain ⟨a0, rfl, rfl⟩ := hx
  right; intro K
  exact iff_of_eq (X_zcq.eq a0 K).symm
 ·left; intro K h
  simp only [e_zcq] at h
  split at h
  ·exact hx ⟨_, rfl, rfl⟩
  ·exact h
noncomputable def e_zcn : Entry := ⟨[none, none], false, fun args H K => match args, H with
 | [.int .u8 a0, .agg [.int .u64 a1_0, .int .u64 a1_1]], [] => zcn a0 a1_0 a1_1 (fun y0 => K (EV.bool y0) [])
 | _, _ => False⟩
noncomputable def l_zcn : List (Nat × Entry) := [(102, e_zcq)]
noncomputable def E_zcn : Env := ⟨look tys, look l_zcn, look [], gl, yat [], false⟩
theorem X_zcn.eq (a0 : Int) (a1_0 : Int) (a1_1 : Int) (K : EV → yaf → Prop) : yaZ E_zcn Tryz.f97 false [.int .u8 a0, .agg [.int .u64 a1_0, .int .u64 a1_1]] [] K = zcn a0 a1_0 a1_1 (fun y0 => K (EV.bool y0) []) := by
 rw [zcn.is]; exact (yag _ _ _ _ _ _).symm.trans (by kernel_rfl)
theorem X_zcn.ok : SoundE Tryz.prog gl 97 e_zcn := by
 refine ya8 (E := E_zcn) (fn := Tryz.f97) rfl tys_ok rfl (show ya4 _ l_zcn from ⟨X_zcq.ok, trivial⟩) mixed (by kernel_rfl) (by kernel_rfl) (by kernel_rfl) 0 (by kernel_rfl) false trivial ?_
 intro args H
 by_cases hx : ∃ (a0 : Int) (a1_0 : Int) (a1_1 : Int), args = [.int .u8 a0, .agg [.int .u64 a1_0, .int .u64 a1_1]] ∧ H = []
 ·obtain ⟨a0, a1_0, a1_1, rfl, rfl⟩ := hx
  right; intro K
  exact iff_of_eq (X_zcn.eq a0 a1_0 a1_1 K).symm
 ·left; intro K h
  simp only [e_zcn] at h
  split at h
  ·exact hx ⟨_, _, _, rfl, rfl⟩
  ·exact h
noncomputable def e_zdb : Entry := ⟨[none, none], false, fun args H K => match args, H with
 | [.arr .u64 6 a0, .int .i64 a1], [] => zdb a0 a1 (fun y0 => K (EV.bool y0) [])
 | _, _ => False⟩
noncomputable def E_zdb : Env := ⟨look tys, look [], look [], gl, yat [], false⟩
theorem X_zdb.eq (a0 : Nat → Int) (a1 : Int) (K : EV → yaf → Prop) : yaZ E_zdb Tryz.f62 false [.arr .u64 6 a0, .int .i64 a1] [] K = zdb a0 a1 (fun y0 => K (EV.bool y0) []) := by
 rw [zdb.is]; exact (yag _ _ _ _ _ _).symm.trans (by kernel_rfl)
theorem X_zdb.ok : SoundE Tryz.prog gl 62 e_zdb := by
 refine ya8 (E := E_zdb) (fn := Tryz.f62) rfl tys_ok rfl (show ya4 _ [] from trivial) mixed (by kernel_rfl) (by kernel_rfl) (by kernel_rfl) 0 (by kernel_rfl) false trivial ?_
 intro args H
 by_cases hx : ∃ (a0 : Nat → Int) (a1 : Int), args = [.arr .u64 6 a0, .int .i64 a1] ∧ H = []
 ·obtain ⟨a0, a1, rfl, rfl⟩ := hx
  right; intro K
  exact iff_of_eq (X_zdb.eq a0 a1 K).symm
 ·left; intro K h
  simp only [e_zdb] at h
  split at h
  ·exact hx ⟨_, _, rfl, rfl⟩
  ·exact h
noncomputable def e_zda : Entry := ⟨[none, none], false, fun args H K => match args, H with
 | [.arr .u64 6 a0, .arr .u64 6 a1], [] => zda a0 a1 (fun y0 => K (EV.arr .u64 6 y0) [])
 | _, _ => False⟩
noncomputable def E_zda : Env := ⟨look tys, look [], look [(2, zda.l2.entry)], gl, yat [], false⟩
theorem zda.l2X.stepEq (R : List EV → yaf → Prop) (K : Ex → List EV → yaf → Prop) (x0 : Int) (x1 : Nat → Int) (x2 : Nat → Int) (x3 : Nat → Int) : yan (yap E_zda (yaa Tryz.f64 0) { (LV.mk 20 [(0, 20)] 16 0 false) with nx := live (.loop (yaa Tryz.f64 0)) (LV.mk 20 [(0, 20)] 16 0 false) }) (live (.loop (yaa Tryz.f64 0)) (LV.mk 20 [(0, 20)] 16 0 false)) (LV.mk 20 [(0, 20)] 16 0 false) 0 19 R [EV.ptr 0 [], EV.ptr 1 [], EV.ptr 2 [], EV.int .i64 x0] [some (EV.arr .u64 6 x1), some (EV.arr .u64 6 x2), some (EV.arr .u64 6 x3)] K = zda.l2.step (fun x0 x1 x2 x3 => R [EV.ptr 0 [], EV.ptr 1 [], EV.ptr 2 [], EV.int .i64 x0] [some (EV.arr .u64 6 x1), some (EV.arr .u64 6 x2), some (EV.arr .u64 6 x3)]) (fun y0 y1 => K (.exit 0) [EV.ptr 0 [], EV.ptr 1 []] [some (EV.arr .u64 6 y0), some (EV.arr .u64 6 y1)]) x0 x1 x2 x3 := (yaB _ _ _ _ _ _ _ _ _ _ _).symm.trans (by kernel_rfl)
theorem zda.l2X.eq (K : Ex → List EV → yaf → Prop) : ∀ (n : Nat) (x0 : Int) (x1 : Nat → Int) (x2 : Nat → Int) (x3 : Nat → Int), yas E_zda (yaa Tryz.f64 0) (LV.mk 20 [(0, 20)] 16 0 false) 0 19 K n [EV.ptr 0 [], EV.ptr 1 [], EV.ptr 2 [], EV.int .i64 x0] [some (EV.arr .u64 6 x1), some (EV.arr .u64 6 x2), some (EV.arr .u64 6 x3)] = zda.l2 (fun y0 y1 => K (.exit 0) [EV.ptr 0 [], EV.ptr 1 []] [some (EV.arr .u64 6 y0), some (EV.arr .u64 6 y1)]) n x0 x1 x2 x3
 | 0, _, _, _, _ => rfl
 | n + 1, x0, x1, x2, x3 => by
  have ih : (fun (x0 : Int) (x1 : Nat → Int) (x2 : Nat → Int) (x3 : Nat → Int) => yas E_zda (yaa Tryz.f64 0) (LV.mk 20 [(0, 20)] 16 0 false) 0 19 K n [EV.ptr 0 [], EV.ptr 1 [], EV.ptr 2 [], EV.int .i64 x0] [some (EV.arr .u64 6 x1), some (EV.arr .u64 6 x2), some (EV.arr .u64 6 x3)]) = zda.l2 (fun y0 y1 => K (.exit 0) [EV.ptr 0 [], EV.ptr 1 []] [some (EV.arr .u64 6 y0), some (EV.arr .u64 6 y1)]) n := by funext x0 x1 x2 x3; exact zda.l2X.eq K n x0 x1 x2 x3
  show yan _ _ _ _ _ (yas E_zda (yaa Tryz.f64 0) (LV.mk 20 [(0, 20)] 16 0 false) 0 19 K n) [EV.ptr 0 [], EV.ptr 1 [], EV.ptr 2 [], EV.int .i64 x0] [some (EV.arr .u64 6 x1), some (EV.arr .u64 6 x2), some (EV.arr .u64 6 x3)] K = zda.l2.step (zda.l2 (fun y0 y1 => K (.exit 0) [EV.ptr 0 [], EV.ptr 1 []] [some (EV.arr .u64 6 y0), some (EV.arr .u64 6 y1)]) n) (fun y0 y1 => K (.exit 0) [EV.ptr 0 [], EV.ptr 1 []] [some (EV.arr .u64 6 y0), some (EV.arr .u64 6 y1)]) x0 x1 x2 x3
  rw [← ih]
  exact zda.l2X.stepEq _ K x0 x1 x2 x3
theorem zda.l2X.ok : LoopEq E_zda (yaa Tryz.f64 0) := by
 intro L hL vs H
 have h1 : E_zda.lp (yak (yaa Tryz.f64 0)) = some zda.l2.entry := by kernel_rfl
 have h2 : L = zda.l2.entry := Option.some.inj (hL.symm.trans h1)
 subst h2
 by_cases hx : ∃ (x0 : Int) (x1 : Nat → Int) (x2 : Nat → Int) (x3 : Nat → Int), vs = [EV.ptr 0 [], EV.ptr 1 [], EV.ptr 2 [], EV.int .i64 x0] ∧ H = [some (EV.arr .u64 6 x1), some (EV.arr .u64 6 x2), some (EV.arr .u64 6 x3)]
 ·obtain ⟨x0, x1, x2, x3, rfl, rfl⟩ := hx
  right; intro K
  exact exists_congr fun n => iff_of_eq (zda.l2X.eq K n x0 x1 x2 x3).symm
 ·left; intro K h
  simp only [zda.l2.entry] at h
  split at h
  ·exact hx ⟨_, _, _, _, rfl, rfl⟩
  ·exact h
theorem X_zda.eq (a0 : Nat → Int) (a1 : Nat → Int) (K : EV → yaf → Prop) : yaZ E_zda Tryz.f64 false [.arr .u64 6 a0, .arr .u64 6 a1] [] K = zda a0 a1 (fun y0 => K (EV.arr .u64 6 y0) []) := by
 rw [zda.is]; exact (yag _ _ _ _ _ _).symm.trans (by kernel_rfl)
theorem X_zda.ok : SoundE Tryz.prog gl 64 e_zda := by
 refine ya8 (E := E_zda) (fn := Tryz.f64) rfl tys_ok rfl (show ya4 _ [] from trivial) mixed (by kernel_rfl) (by kernel_rfl) (by kernel_rfl) 1 (by kernel_rfl) false ⟨zda.l2X.ok, trivial⟩ ?_
 intro args H
 by_cases hx : ∃ (a0 : Nat → Int) (a1 : Nat → Int), args = [.arr .u64 6 a0, .arr .u64 6 a1] ∧ H = []
 ·obtain ⟨a0, a1, rfl, rfl⟩ := hx
  right; intro K
  exact iff_of_eq (X_zda.eq a0 a1 K).symm
 ·left; intro K h
  simp only [e_zda] at h
  split at h
  ·exact hx ⟨_, _, rfl, rfl⟩
  ·exact h
noncomputable def e_zdn : Entry := ⟨[none], false, fun args H K => match args, H with
 | [.int .i64 a0], [] => zdn a0 (fun y0 => K (EV.int .i64 y0) [])
 | _, _ => False⟩
noncomputable def E_zdn : Env := ⟨look tys, look [], look [], gl, yat [], false⟩
theorem X_zdn.eq (a0 : Int) (K : EV → yaf → Prop) : yaZ E_zdn Tryz.f110 false [.int .i64 a0] [] K = zdn a0 (fun y0 => K (EV.int .i64 y0) []) := by
 rw [zdn.is]; exact (yag _ _ _ _ _ _).symm.trans (by kernel_rfl)
theorem X_zdn.ok : SoundE Tryz.prog gl 110 e_zdn := by
 refine ya8 (E := E_zdn) (fn := Tryz.f110) rfl tys_ok rfl (show ya4 _ [] from trivial) mixed (by kernel_rfl) (by kernel_rfl) (by kernel_rfl) 0 (by kernel_rfl) false trivial ?_
 intro args H
 by_cases hx : ∃ (a0 : Int), args = [.int .i64 a0] ∧ H = []
 ·obtain ⟨a0, rfl, rfl⟩ := hx
  right; intro K
  exact iff_of_eq (X_zdn.eq a0 K).symm
 ·left; intro K h
  simp only [e_zdn] at h
  split at h
  ·exact hx ⟨_, rfl, rfl⟩
  ·exact h
noncomputable def e_zdr : Entry := ⟨[none], false, fun args H K => match args, H with
 | [.int .i64 a0], [] => zdr a0 (fun y0 => K (EV.int .u64 y0) [])
 | _, _ => False⟩
noncomputable def E_zdr : Env := ⟨look tys, look [], look [], gl, yat [], false⟩
theorem X_zdr.eq (a0 : Int) (K : EV → yaf → Prop) : yaZ E_zdr Tryz.f184 false [.int .i64 a0] [] K = zdr a0 (fun y0 => K (EV.int .u64 y0) []) := by
 rw [zdr.is]; exact (yag _ _ _ _ _ _).symm.trans (by kernel_rfl)
theorem X_zdr.ok : SoundE Tryz.prog gl 184 e_zdr := by
 refine ya8 (E := E_zdr) (fn := Tryz.f184) rfl tys_ok rfl (show ya4 _ [] from trivial) mixed (by kernel_rfl) (by kernel_rfl) (by kernel_rfl) 0 (by kernel_rfl) false trivial ?_
 intro args H
 by_cases hx : ∃ (a0 : Int), args = [.int .i64 a0] ∧ H = []
 ·obtain ⟨a0, rfl, rfl⟩ := hx
  right; intro K
  exact iff_of_eq (X_zdr.eq a0 K).symm
 ·left; intro K h
  simp only [e_zdr] at h
  split at h
  ·exact hx ⟨_, rfl, rfl⟩
  ·exact h
noncomputable def e_zdq : Entry := ⟨[none], false, fun args H K => match args, H with
 | [.int .i64 a0], [] => zdq a0 (fun y0 => K (EV.int .u64 y0) [])
 | _, _ => False⟩
noncomputable def l_zdq : List (Nat × Entry) := [(184, e_zdr)]
noncomputable def E_zdq : Env := ⟨look tys, look l_zdq, look [], gl, yat [], false⟩
theorem X_zdq.eq (a0 : Int) (K : EV → yaf → Prop) : yaZ E_zdq Tryz.f135 false [.int .i64 a0] [] K = zdq a0 (fun y0 => K (EV.int .u64 y0) []) := by
 rw [zdq.is]; exact (yag _ _ _ _ _ _).symm.trans (by kernel_rfl)
theorem X_zdq.ok : SoundE Tryz.prog gl 135 e_zdq := by
 refine ya8 (E := E_zdq) (fn := Tryz.f135) rfl tys_ok rfl (show ya4 _ l_zdq from ⟨X_zdr.ok, trivial⟩) mixed (by kernel_rfl) (by kernel_rfl) (by kernel_rfl) 0 (by kernel_rfl) false trivial ?_
 intro args H
 by_cases hx : ∃ (a0 : Int), args = [.int .i64 a0] ∧ H = []
 ·obtain ⟨a0, rfl, rfl⟩ := hx
  right; intro K
  exact iff_of_eq (X_zdq.eq a0 K).symm
 ·left; intro K h
  simp only [e_zdq] at h
  split at h
  ·exact hx ⟨_, rfl, rfl⟩
  ·exact h
noncomputable def e_zdf : Entry := ⟨[none], false, fun args H K => match args, H with
 | [.int .i64 a0], [] => zdf a0 (fun y0 => K (EV.arr .u64 6 y0) [])
 | _, _ => False⟩
noncomputable def l_zdf : List (Nat × Entry) := [(110, e_zdn), (135, e_zdq)]
noncomputable def E_zdf : Env := ⟨look tys, look l_zdf, look [(4, zdf.l4.entry)], gl, yat [], false⟩
theorem zdf.l4X.stepEq (R : List EV → yaf → Prop) (K : Ex → List EV → yaf → Prop) (x0 : Int) (x1 : Int) (x2 : Nat → Int) (x3 : Nat → Int) : yan (yap E_zdf (yaa Tryz.f65 0) { (LV.mk 12 [(0, 12)] 4 0 false) with nx := live (.loop (yaa Tryz.f65 0)) (LV.mk 12 [(0, 12)] 4 0 false) }) (live (.loop (yaa Tryz.f65 0)) (LV.mk 12 [(0, 12)] 4 0 false)) (LV.mk 12 [(0, 12)] 4 0 false) 0 19 R [EV.int .i64 x0, EV.ptr 0 [], EV.ptr 1 [], EV.int .i64 x1] [some (EV.arr .u64 6 x2), some (EV.arr .u64 6 x3)] K = zdf.l4.step (fun x0 x1 x2 x3 => R [EV.int .i64 x0, EV.ptr 0 [], EV.ptr 1 [], EV.int .i64 x1] [some (EV.arr .u64 6 x2), some (EV.arr .u64 6 x3)]) (fun y0 y1 => K (.exit 0) [EV.ptr 0 [], EV.ptr 1 []] [some (EV.arr .u64 6 y0), some (EV.arr .u64 6 y1)]) x0 x1 x2 x3 := (yaB _ _ _ _ _ _ _ _ _ _ _).symm.trans (by kernel_rfl)
theorem zdf.l4X.eq (K : Ex → List EV → yaf → Prop) : ∀ (n : Nat) (x0 : Int) (x1 : Int) (x2 : Nat → Int) (x3 : Nat → Int), yas E_zdf (yaa Tryz.f65 0) (LV.mk 12 [(0, 12)] 4 0 false) 0 19 K n [EV.int .i64 x0, EV.ptr 0 [], EV.ptr 1 [], EV.int .i64 x1] [some (EV.arr .u64 6 x2), some (EV.arr .u64 6 x3)] = zdf.l4 (fun y0 y1 => K (.exit 0) [EV.ptr 0 [], EV.ptr 1 []] [some (EV.arr .u64 6 y0), some (EV.arr .u64 6 y1)]) n x0 x1 x2 x3
 | 0, _, _, _, _ => rfl
 | n + 1, x0, x1, x2, x3 => by
  have ih : (fun (x0 : Int) (x1 : Int) (x2 : Nat → Int) (x3 : Nat → Int) => yas E_zdf (yaa Tryz.f65 0) (LV.mk 12 [(0, 12)] 4 0 false) 0 19 K n [EV.int .i64 x0, EV.ptr 0 [], EV.ptr 1 [], EV.int .i64 x1] [some (EV.arr .u64 6 x2), some (EV.arr .u64 6 x3)]) = zdf.l4 (fun y0 y1 => K (.exit 0) [EV.ptr 0 [], EV.ptr 1 []] [some (EV.arr .u64 6 y0), some (EV.arr .u64 6 y1)]) n := by funext x0 x1 x2 x3; exact zdf.l4X.eq K n x0 x1 x2 x3
  show yan _ _ _ _ _ (yas E_zdf (yaa Tryz.f65 0) (LV.mk 12 [(0, 12)] 4 0 false) 0 19 K n) [EV.int .i64 x0, EV.ptr 0 [], EV.ptr 1 [], EV.int .i64 x1] [some (EV.arr .u64 6 x2), some (EV.arr .u64 6 x3)] K = zdf.l4.step (zdf.l4 (fun y0 y1 => K (.exit 0) [EV.ptr 0 [], EV.ptr 1 []] [some (EV.arr .u64 6 y0), some (EV.arr .u64 6 y1)]) n) (fun y0 y1 => K (.exit 0) [EV.ptr 0 [], EV.ptr 1 []] [some (EV.arr .u64 6 y0), some (EV.arr .u64 6 y1)]) x0 x1 x2 x3
  rw [← ih]
  exact zdf.l4X.stepEq _ K x0 x1 x2 x3
theorem zdf.l4X.ok : LoopEq E_zdf (yaa Tryz.f65 0) := by
 intro L hL vs H
 have h1 : E_zdf.lp (yak (yaa Tryz.f65 0)) = some zdf.l4.entry := by kernel_rfl
 have h2 : L = zdf.l4.entry := Option.some.inj (hL.symm.trans h1)
 subst h2
 by_cases hx : ∃ (x0 : Int) (x1 : Int) (x2 : Nat → Int) (x3 : Nat → Int), vs = [EV.int .i64 x0, EV.ptr 0 [], EV.ptr 1 [], EV.int .i64 x1] ∧ H = [some (EV.arr .u64 6 x2), some (EV.arr .u64 6 x3)]
 ·obtain ⟨x0, x1, x2, x3, rfl, rfl⟩ := hx
  right; intro K
  exact exists_congr fun n => iff_of_eq (zdf.l4X.eq K n x0 x1 x2 x3).symm
 ·left; intro K h
  simp only [zdf.l4.entry] at h
  split at h
  ·exact hx ⟨_, _, _, _, rfl, rfl⟩
  ·exact h
theorem X_zdf.eq (a0 : Int) (K : EV → yaf → Prop) : yaZ E_zdf Tryz.f65 false [.int .i64 a0] [] K = zdf a0 (fun y0 => K (EV.arr .u64 6 y0) []) := by
 rw [zdf.is]; exact (yag _ _ _ _ _ _).symm.trans (by kernel_rfl)
theorem X_zdf.ok : SoundE Tryz.prog gl 65 e_zdf := by
 refine ya8 (E := E_zdf) (fn := Tryz.f65) rfl tys_ok rfl (show ya4 _ l_zdf from ⟨X_zdn.ok, X_zdq.ok, trivial⟩) mixed (by kernel_rfl) (by kernel_rfl) (by kernel_rfl) 1 (by kernel_rfl) false ⟨zdf.l4X.ok, trivial⟩ ?_
 intro args H
 by_cases hx : ∃ (a0 : Int), args = [.int .i64 a0] ∧ H = []
 ·obtain ⟨a0, rfl, rfl⟩ := hx
  right; intro K
  exact iff_of_eq (X_zdf.eq a0 K).symm
 ·left; intro K h
  simp only [e_zdf] at h
  split at h
  ·exact hx ⟨_, rfl, rfl⟩
  ·exact h
noncomputable def e_zdh : Entry := ⟨[none], false, fun args H K => match args, H with
 | [.agg [.int .u64 a0_0, .int .u64 a0_1]], [] => zdh a0_0 a0_1 (fun y0 => K (EV.arr .u64 6 y0) [])
 | _, _ => False⟩
noncomputable def E_zdh : Env := ⟨look tys, look [], look [], gl, yat [], false⟩
theorem X_zdh.eq (a0_0 : Int) (a0_1 : Int) (K : EV → yaf → Prop) : yaZ E_zdh Tryz.f101 false [.agg [.int .u64 a0_0, .int .u64 a0_1]] [] K = zdh a0_0 a0_1 (fun y0 => K (EV.arr .u64 6 y0) []) := by
 rw [zdh.is]; exact (yag _ _ _ _ _ _).symm.trans (by kernel_rfl)
theorem X_zdh.ok : SoundE Tryz.prog gl 101 e_zdh := by
 refine ya8 (E := E_zdh) (fn := Tryz.f101) rfl tys_ok rfl (show ya4 _ [] from trivial) mixed (by kernel_rfl) (by kernel_rfl) (by kernel_rfl) 0 (by kernel_rfl) false trivial ?_
 intro args H
 by_cases hx : ∃ (a0_0 : Int) (a0_1 : Int), args = [.agg [.int .u64 a0_0, .int .u64 a0_1]] ∧ H = []
 ·obtain ⟨a0_0, a0_1, rfl, rfl⟩ := hx
  right; intro K
  exact iff_of_eq (X_zdh.eq a0_0 a0_1 K).symm
 ·left; intro K h
  simp only [e_zdh] at h
  split at h
  ·exact hx ⟨_, _, rfl, rfl⟩
  ·exact h
noncomputable def e_zab : Entry := ⟨[none], false, fun args H K => match args, H with
 | [.int .u64 a0], [] => zab a0 (fun y0 => K (EV.int .i64 y0) [])
 | _, _ => False⟩
noncomputable def E_zab : Env := ⟨look tys, look [], look [], gl, yat [], false⟩
theorem X_zab.eq (a0 : Int) (K : EV → yaf → Prop) : yaZ E_zab Tryz.f199 false [.int .u64 a0] [] K = zab a0 (fun y0 => K (EV.int .i64 y0) []) := by
 rw [zab.is]; exact (yag _ _ _ _ _ _).symm.trans (by kernel_rfl)
theorem X_zab.ok : SoundE Tryz.prog gl 199 e_zab := by
 refine ya8 (E := E_zab) (fn := Tryz.f199) rfl tys_ok rfl (show ya4 _ [] from trivial) mixed (by kernel_rfl) (by kernel_rfl) (by kernel_rfl) 0 (by kernel_rfl) false trivial ?_
 intro args H
 by_cases hx : ∃ (a0 : Int), args = [.int .u64 a0] ∧ H = []
 ·obtain ⟨a0, rfl, rfl⟩ := hx
  right; intro K
  exact iff_of_eq (X_zab.eq a0 K).symm
 ·left; intro K h
  simp only [e_zab] at h
  split at h
  ·exact hx ⟨_, rfl, rfl⟩
  ·exact h
noncomputable def e_zdp : Entry := ⟨[none], false, fun args H K => match args, H with
 | [.int .u64 a0], [] => zdp a0 (fun y0 => K (EV.int .i64 y0) [])
 | _, _ => False⟩
noncomputable def l_zdp : List (Nat × Entry) := [(199, e_zab)]
noncomputable def E_zdp : Env := ⟨look tys, look l_zdp, look [], gl, yat [], false⟩
theorem X_zdp.eq (a0 : Int) (K : EV → yaf → Prop) : yaZ E_zdp Tryz.f173 false [.int .u64 a0] [] K = zdp a0 (fun y0 => K (EV.int .i64 y0) []) := by
 rw [zdp.is]; exact (yag _ _ _ _ _ _).symm.trans (by kernel_rfl)
theorem X_zdp.ok : SoundE Tryz.prog gl 173 e_zdp := by
 refine ya8 (E := E_zdp) (fn := Tryz.f173) rfl tys_ok rfl (show ya4 _ l_zdp from ⟨X_zab.ok, trivial⟩) mixed (by kernel_rfl) (by kernel_rfl) (by kernel_rfl) 0 (by kernel_rfl) false trivial ?_
 intro args H
 by_cases hx : ∃ (a0 : Int), args = [.int .u64 a0] ∧ H = []
 ·obtain ⟨a0, rfl, rfl⟩ := hx
  right; intro K
  exact iff_of_eq (X_zdp.eq a0 K).symm
 ·left; intro K h
  simp only [e_zdp] at h
  split at h
  ·exact hx ⟨_, rfl, rfl⟩
  ·exact h
noncomputable def e_zde : Entry := ⟨[none], false, fun args H K => match args, H with
 | [.arr .u64 6 a0], [] => zde a0 (fun y0 => K (EV.int .i64 y0) [])
 | _, _ => False⟩
noncomputable def l_zde : List (Nat × Entry) := [(173, e_zdp)]
noncomputable def E_zde : Env := ⟨look tys, look l_zde, look [(2, zde.l2.entry)], gl, yat [], false⟩
theorem zde.l2X.stepEq (R : List EV → yaf → Prop) (K : Ex → List EV → yaf → Prop) (x0 : Nat → Int) (x1 : Int) : yan (yap E_zde (yaa Tryz.f194 0) { (LV.mk 0 [(0, 0)] 4 0 false) with nx := live (.loop (yaa Tryz.f194 0)) (LV.mk 0 [(0, 0)] 4 0 false) }) (live (.loop (yaa Tryz.f194 0)) (LV.mk 0 [(0, 0)] 4 0 false)) (LV.mk 0 [(0, 0)] 4 0 false) 0 18 R [EV.arr .u64 6 x0, EV.int .i64 x1] [] K = zde.l2.step (fun x0 x1 => R [EV.arr .u64 6 x0, EV.int .i64 x1] []) (fun y0 => K .ret [EV.int .i64 y0] []) (K (.exit 0) [] []) x0 x1 := (yaB _ _ _ _ _ _ _ _ _ _ _).symm.trans (by kernel_rfl)
theorem zde.l2X.eq (K : Ex → List EV → yaf → Prop) : ∀ (n : Nat) (x0 : Nat → Int) (x1 : Int), yas E_zde (yaa Tryz.f194 0) (LV.mk 0 [(0, 0)] 4 0 false) 0 18 K n [EV.arr .u64 6 x0, EV.int .i64 x1] [] = zde.l2 (fun y0 => K .ret [EV.int .i64 y0] []) (K (.exit 0) [] []) n x0 x1
 | 0, _, _ => rfl
 | n + 1, x0, x1 => by
  have ih : (fun (x0 : Nat → Int) (x1 : Int) => yas E_zde (yaa Tryz.f194 0) (LV.mk 0 [(0, 0)] 4 0 false) 0 18 K n [EV.arr .u64 6 x0, EV.int .i64 x1] []) = zde.l2 (fun y0 => K .ret [EV.int .i64 y0] []) (K (.exit 0) [] []) n := by funext x0 x1; exact zde.l2X.eq K n x0 x1
  show yan _ _ _ _ _ (yas E_zde (yaa Tryz.f194 0) (LV.mk 0 [(0, 0)] 4 0 false) 0 18 K n) [EV.arr .u64 6 x0, EV.int .i64 x1] [] K = zde.l2.step (zde.l2 (fun y0 => K .ret [EV.int .i64 y0] []) (K (.exit 0) [] []) n) (fun y0 => K .ret [EV.int .i64 y0] []) (K (.exit 0) [] []) x0 x1
  rw [← ih]
  exact zde.l2X.stepEq _ K x0 x1
theorem zde.l2X.ok : LoopEq E_zde (yaa Tryz.f194 0) := by
 intro L hL vs H
 have h1 : E_zde.lp (yak (yaa Tryz.f194 0)) = some zde.l2.entry := by kernel_rfl
 have h2 : L = zde.l2.entry := Option.some.inj (hL.symm.trans h1)
 subst h2
 by_cases hx : ∃ (x0 : Nat → Int) (x1 : Int), vs = [EV.arr .u64 6 x0, EV.int .i64 x1] ∧ H = []
 ·obtain ⟨x0, x1, rfl, rfl⟩ := hx
  right; intro K
  exact exists_congr fun n => iff_of_eq (zde.l2X.eq K n x0 x1).symm
 ·left; intro K h
  simp only [zde.l2.entry] at h
  split at h
  ·exact hx ⟨_, _, rfl, rfl⟩
  ·exact h
theorem X_zde.eq (a0 : Nat → Int) (K : EV → yaf → Prop) : yaZ E_zde Tryz.f194 false [.arr .u64 6 a0] [] K = zde a0 (fun y0 => K (EV.int .i64 y0) []) := by
 rw [zde.is]; exact (yag _ _ _ _ _ _).symm.trans (by kernel_rfl)
theorem X_zde.ok : SoundE Tryz.prog gl 194 e_zde := by
 refine ya8 (E := E_zde) (fn := Tryz.f194) rfl tys_ok rfl (show ya4 _ l_zde from ⟨X_zdp.ok, trivial⟩) mixed (by kernel_rfl) (by kernel_rfl) (by kernel_rfl) 1 (by kernel_rfl) false ⟨zde.l2X.ok, trivial⟩ ?_
 intro args H
 by_cases hx : ∃ (a0 : Nat → Int), args = [.arr .u64 6 a0] ∧ H = []
 ·obtain ⟨a0, rfl, rfl⟩ := hx
  right; intro K
  exact iff_of_eq (X_zde.eq a0 K).symm
 ·left; intro K h
  simp only [e_zde] at h
  split at h
  ·exact hx ⟨_, rfl, rfl⟩
  ·exact h
noncomputable def e_zdk : Entry := ⟨[none, none], false, fun args H K => match args, H with
 | [.arr .u64 6 a0, .int .i64 a1], [] => zdk a0 a1 (fun y0 y1 => K (EV.tuple [EV.arr .u64 6 y0, EV.bool y1]) [])
 | _, _ => False⟩
noncomputable def l_zdk : List (Nat × Entry) := [(110, e_zdn), (194, e_zde)]
noncomputable def E_zdk : Env := ⟨look tys, look l_zdk, look [(5, zdk.l5.entry)], gl, yat [], false⟩
theorem zdk.l5X.stepEq (R : List EV → yaf → Prop) (K : Ex → List EV → yaf → Prop) (x0 : Bool) (x1 : Int) (x2 : Int) (x3 : Int) (x4 : Nat → Int) (x5 : Nat → Int) : yan (yap E_zdk (yaa Tryz.f163 0) { (LV.mk 48 [(0, 48)] 48 0 false) with nx := live (.loop (yaa Tryz.f163 0)) (LV.mk 48 [(0, 48)] 48 0 false) }) (live (.loop (yaa Tryz.f163 0)) (LV.mk 48 [(0, 48)] 48 0 false)) (LV.mk 48 [(0, 48)] 48 0 false) 0 60 R [EV.ptr 0 [], EV.ptr 1 [], EV.bool x0, EV.int .i64 x1, EV.int .u64 x2, EV.int .i64 x3] [some (EV.arr .u64 6 x4), some (EV.arr .u64 6 x5)] K = zdk.l5.step (fun x0 x1 x2 x3 x4 x5 => R [EV.ptr 0 [], EV.ptr 1 [], EV.bool x0, EV.int .i64 x1, EV.int .u64 x2, EV.int .i64 x3] [some (EV.arr .u64 6 x4), some (EV.arr .u64 6 x5)]) (fun y0 y1 => K (.exit 0) [EV.ptr 0 [], EV.bool y0] [some (EV.arr .u64 6 y1)]) x0 x1 x2 x3 x4 x5 := (yaB _ _ _ _ _ _ _ _ _ _ _).symm.trans (by kernel_rfl)
theorem zdk.l5X.eq (K : Ex → List EV → yaf → Prop) : ∀ (n : Nat) (x0 : Bool) (x1 : Int) (x2 : Int) (x3 : Int) (x4 : Nat → Int) (x5 : Nat → Int), yas E_zdk (yaa Tryz.f163 0) (LV.mk 48 [(0, 48)] 48 0 false) 0 60 K n [EV.ptr 0 [], EV.ptr 1 [], EV.bool x0, EV.int .i64 x1, EV.int .u64 x2, EV.int .i64 x3] [some (EV.arr .u64 6 x4), some (EV.arr .u64 6 x5)] = zdk.l5 (fun y0 y1 => K (.exit 0) [EV.ptr 0 [], EV.bool y0] [some (EV.arr .u64 6 y1)]) n x0 x1 x2 x3 x4 x5
 | 0, _, _, _, _, _, _ => rfl
 | n + 1, x0, x1, x2, x3, x4, x5 => by
  have ih : (fun (x0 : Bool) (x1 : Int) (x2 : Int) (x3 : Int) (x4 : Nat → Int) (x5 : Nat → Int) => yas E_zdk (yaa Tryz.f163 0) (LV.mk 48 [(0, 48)] 48 0 false) 0 60 K n [EV.ptr 0 [], EV.ptr 1 [], EV.bool x0, EV.int .i64 x1, EV.int .u64 x2, EV.int .i64 x3] [some (EV.arr .u64 6 x4), some (EV.arr .u64 6 x5)]) = zdk.l5 (fun y0 y1 => K (.exit 0) [EV.ptr 0 [], EV.bool y0] [some (EV.arr .u64 6 y1)]) n := by funext x0 x1 x2 x3 x4 x5; exact zdk.l5X.eq K n x0 x1 x2 x3 x4 x5
  show yan _ _ _ _ _ (yas E_zdk (yaa Tryz.f163 0) (LV.mk 48 [(0, 48)] 48 0 false) 0 60 K n) [EV.ptr 0 [], EV.ptr 1 [], EV.bool x0, EV.int .i64 x1, EV.int .u64 x2, EV.int .i64 x3] [some (EV.arr .u64 6 x4), some (EV.arr .u64 6 x5)] K = zdk.l5.step (zdk.l5 (fun y0 y1 => K (.exit 0) [EV.ptr 0 [], EV.bool y0] [some (EV.arr .u64 6 y1)]) n) (fun y0 y1 => K (.exit 0) [EV.ptr 0 [], EV.bool y0] [some (EV.arr .u64 6 y1)]) x0 x1 x2 x3 x4 x5
  rw [← ih]
  exact zdk.l5X.stepEq _ K x0 x1 x2 x3 x4 x5
theorem zdk.l5X.ok : LoopEq E_zdk (yaa Tryz.f163 0) := by
 intro L hL vs H
 have h1 : E_zdk.lp (yak (yaa Tryz.f163 0)) = some zdk.l5.entry := by kernel_rfl
 have h2 : L = zdk.l5.entry := Option.some.inj (hL.symm.trans h1)
 subst h2
 by_cases hx : ∃ (x0 : Bool) (x1 : Int) (x2 : Int) (x3 : Int) (x4 : Nat → Int) (x5 : Nat → Int), vs = [EV.ptr 0 [], EV.ptr 1 [], EV.bool x0, EV.int .i64 x1, EV.int .u64 x2, EV.int .i64 x3] ∧ H = [some (EV.arr .u64 6 x4), some (EV.arr .u64 6 x5)]
 ·obtain ⟨x0, x1, x2, x3, x4, x5, rfl, rfl⟩ := hx
  right; intro K
  exact exists_congr fun n => iff_of_eq (zdk.l5X.eq K n x0 x1 x2 x3 x4 x5).symm
 ·left; intro K h
  simp only [zdk.l5.entry] at h
  split at h
  ·exact hx ⟨_, _, _, _, _, _, rfl, rfl⟩
  ·exact h
theorem X_zdk.eq (a0 : Nat → Int) (a1 : Int) (K : EV → yaf → Prop) : yaZ E_zdk Tryz.f163 false [.arr .u64 6 a0, .int .i64 a1] [] K = zdk a0 a1 (fun y0 y1 => K (EV.tuple [EV.arr .u64 6 y0, EV.bool y1]) []) := by
 rw [zdk.is]; exact (yag _ _ _ _ _ _).symm.trans (by kernel_rfl)
theorem X_zdk.ok : SoundE Tryz.prog gl 163 e_zdk := by
 refine ya8 (E := E_zdk) (fn := Tryz.f163) rfl tys_ok rfl (show ya4 _ l_zdk from ⟨X_zdn.ok, X_zde.ok, trivial⟩) mixed (by kernel_rfl) (by kernel_rfl) (by kernel_rfl) 1 (by kernel_rfl) false ⟨zdk.l5X.ok, trivial⟩ ?_
 intro args H
 by_cases hx : ∃ (a0 : Nat → Int) (a1 : Int), args = [.arr .u64 6 a0, .int .i64 a1] ∧ H = []
 ·obtain ⟨a0, a1, rfl, rfl⟩ := hx
  right; intro K
  exact iff_of_eq (X_zdk.eq a0 a1 K).symm
 ·left; intro K h
  simp only [e_zdk] at h
  split at h
  ·exact hx ⟨_, _, rfl, rfl⟩
  ·exact h
noncomputable def e_zbd : Entry := ⟨[none, none], false, fun args H K => match args, H with
 | [.int .u8 a0, .agg [.int .u64 a1_0, .int .u64 a1_1]], [] => zbd a0 a1_0 a1_1 (fun y0 y1 y2 => K (EV.tuple [EV.bool y0, EV.int .i64 y1, EV.arr .u64 6 y2]) [])
 | _, _ => False⟩
noncomputable def l_zbd : List (Nat × Entry) := [(35, e_zcp), (62, e_zdb), (64, e_zda), (65, e_zdf), (101, e_zdh), (102, e_zcq), (163, e_zdk)]
noncomputable def E_zbd : Env := ⟨look tys, look l_zbd, look [], gl, yat [], false⟩
theorem X_zbd.eq (a0 : Int) (a1_0 : Int) (a1_1 : Int) (K : EV → yaf → Prop) : yaZ E_zbd Tryz.f98 false [.int .u8 a0, .agg [.int .u64 a1_0, .int .u64 a1_1]] [] K = zbd a0 a1_0 a1_1 (fun y0 y1 y2 => K (EV.tuple [EV.bool y0, EV.int .i64 y1, EV.arr .u64 6 y2]) []) := by
 rw [zbd.is]; exact (yag _ _ _ _ _ _).symm.trans (by kernel_rfl)
theorem X_zbd.ok : SoundE Tryz.prog gl 98 e_zbd := by
 refine ya8 (E := E_zbd) (fn := Tryz.f98) rfl tys_ok rfl (show ya4 _ l_zbd from ⟨X_zcp.ok, X_zdb.ok, X_zda.ok, X_zdf.ok, X_zdh.ok, X_zcq.ok, X_zdk.ok, trivial⟩) mixed (by kernel_rfl) (by kernel_rfl) (by kernel_rfl) 0 (by kernel_rfl) false trivial ?_
 intro args H
 by_cases hx : ∃ (a0 : Int) (a1_0 : Int) (a1_1 : Int), args = [.int .u8 a0, .agg [.int .u64 a1_0, .int .u64 a1_1]] ∧ H = []
 ·obtain ⟨a0, a1_0, a1_1, rfl, rfl⟩ := hx
  right; intro K
  exact iff_of_eq (X_zbd.eq a0 a1_0 a1_1 K).symm
 ·left; intro K h
  simp only [e_zbd] at h
  split at h
  ·exact hx ⟨_, _, _, rfl, rfl⟩
  ·exact h
noncomputable def e_zbc : Entry := ⟨[none, none], false, fun args H K => match args, H with
 | [.int .u8 a0, .agg [.int .u64 a1_0, .int .u64 a1_1]], [] => zbc a0 a1_0 a1_1 (fun y0 => K (EV.int .u8 y0) [])
 | _, _ => False⟩
noncomputable def l_zbc : List (Nat × Entry) := [(35, e_zcp), (40, e_zcl), (62, e_zdb), (98, e_zbd)]
noncomputable def E_zbc : Env := ⟨look tys, look l_zbc, look [], gl, yat [], false⟩
theorem X_zbc.eq (a0 : Int) (a1_0 : Int) (a1_1 : Int) (K : EV → yaf → Prop) : yaZ E_zbc Tryz.f99 false [.int .u8 a0, .agg [.int .u64 a1_0, .int .u64 a1_1]] [] K = zbc a0 a1_0 a1_1 (fun y0 => K (EV.int .u8 y0) []) := by
 rw [zbc.is]; exact (yag _ _ _ _ _ _).symm.trans (by kernel_rfl)
theorem X_zbc.ok : SoundE Tryz.prog gl 99 e_zbc := by
 refine ya8 (E := E_zbc) (fn := Tryz.f99) rfl tys_ok rfl (show ya4 _ l_zbc from ⟨X_zcp.ok, X_zcl.ok, X_zdb.ok, X_zbd.ok, trivial⟩) mixed (by kernel_rfl) (by kernel_rfl) (by kernel_rfl) 0 (by kernel_rfl) false trivial ?_
 intro args H
 by_cases hx : ∃ (a0 : Int) (a1_0 : Int) (a1_1 : Int), args = [.int .u8 a0, .agg [.int .u64 a1_0, .int .u64 a1_1]] ∧ H = []
 ·obtain ⟨a0, a1_0, a1_1, rfl, rfl⟩ := hx
  right; intro K
  exact iff_of_eq (X_zbc.eq a0 a1_0 a1_1 K).symm
 ·left; intro K h
  simp only [e_zbc] at h
  split at h
  ·exact hx ⟨_, _, _, rfl, rfl⟩
  ·exact h
noncomputable def e_zaz : Entry := ⟨[none, none], false, fun args H K => match args, H with
 | [.int .u8 a0, .agg [.int .u64 a1_0, .int .u64 a1_1]], [] => zaz a0 a1_0 a1_1 (fun y0 y1 y2 y3 y4 => K (EV.tuple [EV.agg [EV.int .u8 y0, EV.arr .u64 6 y1, EV.int .i64 y2, EV.arr .u64 6 y3], EV.int .i64 y4]) [])
 | _, _ => False⟩
noncomputable def l_zaz : List (Nat × Entry) := [(35, e_zcp), (39, e_zcm), (97, e_zcn), (98, e_zbd), (99, e_zbc)]
noncomputable def E_zaz : Env := ⟨look tys, look l_zaz, look [], gl, yat [], false⟩
theorem X_zaz.eq (a0 : Int) (a1_0 : Int) (a1_1 : Int) (K : EV → yaf → Prop) : yaZ E_zaz Tryz.f31 false [.int .u8 a0, .agg [.int .u64 a1_0, .int .u64 a1_1]] [] K = zaz a0 a1_0 a1_1 (fun y0 y1 y2 y3 y4 => K (EV.tuple [EV.agg [EV.int .u8 y0, EV.arr .u64 6 y1, EV.int .i64 y2, EV.arr .u64 6 y3], EV.int .i64 y4]) []) := by
 rw [zaz.is]; exact (yag _ _ _ _ _ _).symm.trans (by kernel_rfl)
theorem X_zaz.ok : SoundE Tryz.prog gl 31 e_zaz := by
 refine ya8 (E := E_zaz) (fn := Tryz.f31) rfl tys_ok rfl (show ya4 _ l_zaz from ⟨X_zcp.ok, X_zcm.ok, X_zcn.ok, X_zbd.ok, X_zbc.ok, trivial⟩) mixed (by kernel_rfl) (by kernel_rfl) (by kernel_rfl) 0 (by kernel_rfl) false trivial ?_
 intro args H
 by_cases hx : ∃ (a0 : Int) (a1_0 : Int) (a1_1 : Int), args = [.int .u8 a0, .agg [.int .u64 a1_0, .int .u64 a1_1]] ∧ H = []
 ·obtain ⟨a0, a1_0, a1_1, rfl, rfl⟩ := hx
  right; intro K
  exact iff_of_eq (X_zaz.eq a0 a1_0 a1_1 K).symm
 ·left; intro K h
  simp only [e_zaz] at h
  split at h
  ·exact hx ⟨_, _, _, rfl, rfl⟩
  ·exact h
noncomputable def e_zbi : Entry := ⟨[none], false, fun args H K => match args, H with
 | [.str a0], [] => zbi a0 (fun y0 => K (EV.int .i64 y0) [])
 | _, _ => False⟩
noncomputable def E_zbi : Env := ⟨look tys, look [], look [], gl, yat [], false⟩
theorem X_zbi.eq (a0 : List UInt8) (K : EV → yaf → Prop) : yaZ E_zbi Tryz.f114 false [.str a0] [] K = zbi a0 (fun y0 => K (EV.int .i64 y0) []) := by
 rw [zbi.is]; exact (yag _ _ _ _ _ _).symm.trans (by kernel_rfl)
theorem X_zbi.ok : SoundE Tryz.prog gl 114 e_zbi := by
 refine ya8 (E := E_zbi) (fn := Tryz.f114) rfl tys_ok rfl (show ya4 _ [] from trivial) mixed (by kernel_rfl) (by kernel_rfl) (by kernel_rfl) 0 (by kernel_rfl) false trivial ?_
 intro args H
 by_cases hx : ∃ (a0 : List UInt8), args = [.str a0] ∧ H = []
 ·obtain ⟨a0, rfl, rfl⟩ := hx
  right; intro K
  exact iff_of_eq (X_zbi.eq a0 K).symm
 ·left; intro K h
  simp only [e_zbi] at h
  split at h
  ·exact hx ⟨_, rfl, rfl⟩
  ·exact h
noncomputable def e_zaj : Entry := ⟨[none], false, fun args H K => match args, H with
 | [.int .i64 a0], [] => zaj a0 (fun y0 => K (EV.bool y0) [])
 | _, _ => False⟩
noncomputable def E_zaj : Env := ⟨look tys, look [], look [], gl, yat [], false⟩
theorem X_zaj.eq (a0 : Int) (K : EV → yaf → Prop) : yaZ E_zaj Tryz.f115 false [.int .i64 a0] [] K = zaj a0 (fun y0 => K (EV.bool y0) []) := by
 rw [zaj.is]; exact (yag _ _ _ _ _ _).symm.trans (by kernel_rfl)
theorem X_zaj.ok : SoundE Tryz.prog gl 115 e_zaj := by
 refine ya8 (E := E_zaj) (fn := Tryz.f115) rfl tys_ok rfl (show ya4 _ [] from trivial) mixed (by kernel_rfl) (by kernel_rfl) (by kernel_rfl) 0 (by kernel_rfl) false trivial ?_
 intro args H
 by_cases hx : ∃ (a0 : Int), args = [.int .i64 a0] ∧ H = []
 ·obtain ⟨a0, rfl, rfl⟩ := hx
  right; intro K
  exact iff_of_eq (X_zaj.eq a0 K).symm
 ·left; intro K h
  simp only [e_zaj] at h
  split at h
  ·exact hx ⟨_, rfl, rfl⟩
  ·exact h
noncomputable def e_zag : Entry := ⟨[], false, fun args H K => match args, H with
 | [], [] => zag  (fun y0 y1 y2 y3 => K (EV.agg [EV.bool y0, EV.str y1, EV.str y2, EV.int .i64 y3]) [])
 | _, _ => False⟩
noncomputable def E_zag : Env := ⟨look tys, look [], look [], gl, yat [], false⟩
theorem X_zag.eq (K : EV → yaf → Prop) : yaZ E_zag Tryz.f116 false [] [] K = zag  (fun y0 y1 y2 y3 => K (EV.agg [EV.bool y0, EV.str y1, EV.str y2, EV.int .i64 y3]) []) := by
 rw [zag.is]; exact (yag _ _ _ _ _ _).symm.trans (by kernel_rfl)
theorem X_zag.ok : SoundE Tryz.prog gl 116 e_zag := by
 refine ya8 (E := E_zag) (fn := Tryz.f116) rfl tys_ok rfl (show ya4 _ [] from trivial) mixed (by kernel_rfl) (by kernel_rfl) (by kernel_rfl) 0 (by kernel_rfl) false trivial ?_
 intro args H
 by_cases hx : args = [] ∧ H = []
 ·obtain ⟨rfl, rfl⟩ := hx
  right; intro K
  exact iff_of_eq (X_zag.eq  K).symm
 ·left; intro K h
  simp only [e_zag] at h
  split at h
  ·exact hx ⟨rfl, rfl⟩
  ·exact h
noncomputable def e_zbo : Entry := ⟨[none], false, fun args H K => match args, H with
 | [.str a0], [] => zbo a0 (fun y0 => K (EV.int .i64 y0) [])
 | _, _ => False⟩
noncomputable def l_zbo : List (Nat × Entry) := [(114, e_zbi), (173, e_zdp)]
noncomputable def E_zbo : Env := ⟨look tys, look l_zbo, look [(4, zbo.l4.entry)], gl, yat [], false⟩
theorem zbo.l4X.stepEq (R : List EV → yaf → Prop) (K : Ex → List EV → yaf → Prop) (x0 : List UInt8) (x1 : Int) : yan (yap E_zbo (yaa Tryz.f117 0) { (LV.mk 0 [(0, 0)] 4 0 false) with nx := live (.loop (yaa Tryz.f117 0)) (LV.mk 0 [(0, 0)] 4 0 false) }) (live (.loop (yaa Tryz.f117 0)) (LV.mk 0 [(0, 0)] 4 0 false)) (LV.mk 0 [(0, 0)] 4 0 false) 0 30 R [EV.str x0, EV.int .i64 x1] [] K = zbo.l4.step (fun x0 x1 => R [EV.str x0, EV.int .i64 x1] []) (fun y0 => K .ret [EV.int .i64 y0] []) (K (.exit 0) [] []) x0 x1 := (yaB _ _ _ _ _ _ _ _ _ _ _).symm.trans (by kernel_rfl)
theorem zbo.l4X.eq (K : Ex → List EV → yaf → Prop) : ∀ (n : Nat) (x0 : List UInt8) (x1 : Int), yas E_zbo (yaa Tryz.f117 0) (LV.mk 0 [(0, 0)] 4 0 false) 0 30 K n [EV.str x0, EV.int .i64 x1] [] = zbo.l4 (fun y0 => K .ret [EV.int .i64 y0] []) (K (.exit 0) [] []) n x0 x1
 | 0, _, _ => rfl
 | n + 1, x0, x1 => by
  have ih : (fun (x0 : List UInt8) (x1 : Int) => yas E_zbo (yaa Tryz.f117 0) (LV.mk 0 [(0, 0)] 4 0 false) 0 30 K n [EV.str x0, EV.int .i64 x1] []) = zbo.l4 (fun y0 => K .ret [EV.int .i64 y0] []) (K (.exit 0) [] []) n := by funext x0 x1; exact zbo.l4X.eq K n x0 x1
  show yan _ _ _ _ _ (yas E_zbo (yaa Tryz.f117 0) (LV.mk 0 [(0, 0)] 4 0 false) 0 30 K n) [EV.str x0, EV.int .i64 x1] [] K = zbo.l4.step (zbo.l4 (fun y0 => K .ret [EV.int .i64 y0] []) (K (.exit 0) [] []) n) (fun y0 => K .ret [EV.int .i64 y0] []) (K (.exit 0) [] []) x0 x1
  rw [← ih]
  exact zbo.l4X.stepEq _ K x0 x1
theorem zbo.l4X.ok : LoopEq E_zbo (yaa Tryz.f117 0) := by
 intro L hL vs H
 have h1 : E_zbo.lp (yak (yaa Tryz.f117 0)) = some zbo.l4.entry := by kernel_rfl
 have h2 : L = zbo.l4.entry := Option.some.inj (hL.symm.trans h1)
 subst h2
 by_cases hx : ∃ (x0 : List UInt8) (x1 : Int), vs = [EV.str x0, EV.int .i64 x1] ∧ H = []
 ·obtain ⟨x0, x1, rfl, rfl⟩ := hx
  right; intro K
  exact exists_congr fun n => iff_of_eq (zbo.l4X.eq K n x0 x1).symm
 ·left; intro K h
  simp only [zbo.l4.entry] at h
  split at h
  ·exact hx ⟨_, _, rfl, rfl⟩
  ·exact h
theorem X_zbo.eq (a0 : List UInt8) (K : EV → yaf → Prop) : yaZ E_zbo Tryz.f117 false [.str a0] [] K = zbo a0 (fun y0 => K (EV.int .i64 y0) []) := by
 rw [zbo.is]; exact (yag _ _ _ _ _ _).symm.trans (by kernel_rfl)
theorem X_zbo.ok : SoundE Tryz.prog gl 117 e_zbo := by
 refine ya8 (E := E_zbo) (fn := Tryz.f117) rfl tys_ok rfl (show ya4 _ l_zbo from ⟨X_zbi.ok, X_zdp.ok, trivial⟩) mixed (by kernel_rfl) (by kernel_rfl) (by kernel_rfl) 1 (by kernel_rfl) false ⟨zbo.l4X.ok, trivial⟩ ?_
 intro args H
 by_cases hx : ∃ (a0 : List UInt8), args = [.str a0] ∧ H = []
 ·obtain ⟨a0, rfl, rfl⟩ := hx
  right; intro K
  exact iff_of_eq (X_zbo.eq a0 K).symm
 ·left; intro K h
  simp only [e_zbo] at h
  split at h
  ·exact hx ⟨_, rfl, rfl⟩
  ·exact h
noncomputable def e_zbv : Entry := ⟨[none], true, fun args H K => match args, H with
 | [.rsI .u32 a0n a0], [] => zbv a0n a0 (fun y0 y1 => K (EV.rsI .u32 y0 y1) [])
 | _, _ => False⟩
noncomputable def e_zbu : Entry := ⟨[none], true, fun args H K => match args, H with
 | [.slice 0 0 a0l (some a0c) 1], [some (.arr .u32 a0n a0)] => zbu a0l a0c a0n a0 (fun y0 y1 y2 y3 => K (EV.slice 0 0 y0 (some y1) 1) [some (EV.arr .u32 y2 y3)])
 | _, _ => False⟩
noncomputable def e_zbt : Entry := ⟨[none], true, fun args H K => match args, H with
 | [.slice 0 0 a0l none 1], [some (.arr .u32 a0n a0)] => zbt a0l a0n a0 (fun y0 y1 y2 => K (EV.slice 0 0 y0 none 1) [some (EV.arr .u32 y1 y2)])
 | _, _ => False⟩
noncomputable def e_nat_cut : Entry := Entry.pick (fun args H => match args, H with | [.rsI .u32 a0n a0], [] => true | _, _ => false) e_zbv (Entry.pick (fun args H => match args, H with | [.slice 0 0 a0l (some a0c) 1], [some (.arr .u32 a0n a0)] => true | _, _ => false) e_zbu (e_zbt))
noncomputable def E_zbv : Env := ⟨look tys, look [], look [(1, zbv.l1.entry)], gl, yat [], false⟩
theorem zbv.l1X.stepEq (R : List EV → yaf → Prop) (K : Ex → List EV → yaf → Prop) (x0 : Nat) (x1 : Nat → Int) : yan (yap E_zbv (yaa Tryz.f177 0) { (LV.mk 1 [(0, 1)] 4 0 false) with nx := live (.loop (yaa Tryz.f177 0)) (LV.mk 1 [(0, 1)] 4 0 false) }) (live (.loop (yaa Tryz.f177 0)) (LV.mk 1 [(0, 1)] 4 0 false)) (LV.mk 1 [(0, 1)] 4 0 false) 0 21 R [EV.rsI .u32 x0 x1] [] K = zbv.l1.step (fun x0 x1 => R [EV.rsI .u32 x0 x1] []) (fun y0 y1 => K (.exit 0) [EV.rsI .u32 y0 y1] []) x0 x1 := (yaB _ _ _ _ _ _ _ _ _ _ _).symm.trans (by kernel_rfl)
theorem zbv.l1X.eq (K : Ex → List EV → yaf → Prop) : ∀ (n : Nat) (x0 : Nat) (x1 : Nat → Int), yas E_zbv (yaa Tryz.f177 0) (LV.mk 1 [(0, 1)] 4 0 false) 0 21 K n [EV.rsI .u32 x0 x1] [] = zbv.l1 (fun y0 y1 => K (.exit 0) [EV.rsI .u32 y0 y1] []) n x0 x1
 | 0, _, _ => rfl
 | n + 1, x0, x1 => by
  have ih : (fun (x0 : Nat) (x1 : Nat → Int) => yas E_zbv (yaa Tryz.f177 0) (LV.mk 1 [(0, 1)] 4 0 false) 0 21 K n [EV.rsI .u32 x0 x1] []) = zbv.l1 (fun y0 y1 => K (.exit 0) [EV.rsI .u32 y0 y1] []) n := by funext x0 x1; exact zbv.l1X.eq K n x0 x1
  show yan _ _ _ _ _ (yas E_zbv (yaa Tryz.f177 0) (LV.mk 1 [(0, 1)] 4 0 false) 0 21 K n) [EV.rsI .u32 x0 x1] [] K = zbv.l1.step (zbv.l1 (fun y0 y1 => K (.exit 0) [EV.rsI .u32 y0 y1] []) n) (fun y0 y1 => K (.exit 0) [EV.rsI .u32 y0 y1] []) x0 x1
  rw [← ih]
  exact zbv.l1X.stepEq _ K x0 x1
theorem zbv.l1X.ok : LoopEq E_zbv (yaa Tryz.f177 0) := by
 intro L hL vs H
 have h1 : E_zbv.lp (yak (yaa Tryz.f177 0)) = some zbv.l1.entry := by kernel_rfl
 have h2 : L = zbv.l1.entry := Option.some.inj (hL.symm.trans h1)
 subst h2
 by_cases hx : ∃ (x0 : Nat) (x1 : Nat → Int), vs = [EV.rsI .u32 x0 x1] ∧ H = []
 ·obtain ⟨x0, x1, rfl, rfl⟩ := hx
  right; intro K
  exact exists_congr fun n => iff_of_eq (zbv.l1X.eq K n x0 x1).symm
 ·left; intro K h
  simp only [zbv.l1.entry] at h
  split at h
  ·exact hx ⟨_, _, rfl, rfl⟩
  ·exact h
theorem X_zbv.eq (a0n : Nat) (a0 : Nat → Int) (K : EV → yaf → Prop) : yaZ E_zbv Tryz.f177 true [.rsI .u32 a0n a0] [] K = zbv a0n a0 (fun y0 y1 => K (EV.rsI .u32 y0 y1) []) := by
 rw [zbv.is]; exact (yag _ _ _ _ _ _).symm.trans (by kernel_rfl)
theorem X_zbv.ok : SoundE Tryz.prog gl 177 e_zbv := by
 refine ya8 (E := E_zbv) (fn := Tryz.f177) rfl tys_ok rfl (show ya4 _ [] from trivial) mixed (by kernel_rfl) (by kernel_rfl) (by kernel_rfl) 1 (by kernel_rfl) true ⟨zbv.l1X.ok, trivial⟩ ?_
 intro args H
 by_cases hx : ∃ (a0n : Nat) (a0 : Nat → Int), args = [.rsI .u32 a0n a0] ∧ H = []
 ·obtain ⟨a0n, a0, rfl, rfl⟩ := hx
  right; intro K
  exact iff_of_eq (X_zbv.eq a0n a0 K).symm
 ·left; intro K h
  simp only [e_zbv] at h
  split at h
  ·exact hx ⟨_, _, rfl, rfl⟩
  ·exact h
noncomputable def E_zbu : Env := ⟨look tys, look [], look [(1, zbu.l1.entry)], gl, yat [], false⟩
theorem zbu.l1X.stepEq (R : List EV → yaf → Prop) (K : Ex → List EV → yaf → Prop) (x0 : Nat) (x1 : Nat) (x2 : Nat) (x3 : Nat → Int) : yan (yap E_zbu (yaa Tryz.f177 0) { (LV.mk 1 [(0, 1)] 4 1 false) with nx := live (.loop (yaa Tryz.f177 0)) (LV.mk 1 [(0, 1)] 4 1 false) }) (live (.loop (yaa Tryz.f177 0)) (LV.mk 1 [(0, 1)] 4 1 false)) (LV.mk 1 [(0, 1)] 4 1 false) 1 21 R [EV.slice 0 0 x0 (some x1) 1] [some (EV.arr .u32 x2 x3)] K = zbu.l1.step (fun x0 x1 x2 x3 => R [EV.slice 0 0 x0 (some x1) 1] [some (EV.arr .u32 x2 x3)]) (fun y0 y1 y2 y3 => K (.exit 0) [EV.slice 0 0 y0 (some y1) 1] [some (EV.arr .u32 y2 y3)]) x0 x1 x2 x3 := (yaB _ _ _ _ _ _ _ _ _ _ _).symm.trans (by kernel_rfl)
theorem zbu.l1X.eq (K : Ex → List EV → yaf → Prop) : ∀ (n : Nat) (x0 : Nat) (x1 : Nat) (x2 : Nat) (x3 : Nat → Int), yas E_zbu (yaa Tryz.f177 0) (LV.mk 1 [(0, 1)] 4 1 false) 1 21 K n [EV.slice 0 0 x0 (some x1) 1] [some (EV.arr .u32 x2 x3)] = zbu.l1 (fun y0 y1 y2 y3 => K (.exit 0) [EV.slice 0 0 y0 (some y1) 1] [some (EV.arr .u32 y2 y3)]) n x0 x1 x2 x3
 | 0, _, _, _, _ => rfl
 | n + 1, x0, x1, x2, x3 => by
  have ih : (fun (x0 : Nat) (x1 : Nat) (x2 : Nat) (x3 : Nat → Int) => yas E_zbu (yaa Tryz.f177 0) (LV.mk 1 [(0, 1)] 4 1 false) 1 21 K n [EV.slice 0 0 x0 (some x1) 1] [some (EV.arr .u32 x2 x3)]) = zbu.l1 (fun y0 y1 y2 y3 => K (.exit 0) [EV.slice 0 0 y0 (some y1) 1] [some (EV.arr .u32 y2 y3)]) n := by funext x0 x1 x2 x3; exact zbu.l1X.eq K n x0 x1 x2 x3
  show yan _ _ _ _ _ (yas E_zbu (yaa Tryz.f177 0) (LV.mk 1 [(0, 1)] 4 1 false) 1 21 K n) [EV.slice 0 0 x0 (some x1) 1] [some (EV.arr .u32 x2 x3)] K = zbu.l1.step (zbu.l1 (fun y0 y1 y2 y3 => K (.exit 0) [EV.slice 0 0 y0 (some y1) 1] [some (EV.arr .u32 y2 y3)]) n) (fun y0 y1 y2 y3 => K (.exit 0) [EV.slice 0 0 y0 (some y1) 1] [some (EV.arr .u32 y2 y3)]) x0 x1 x2 x3
  rw [← ih]
  exact zbu.l1X.stepEq _ K x0 x1 x2 x3
theorem zbu.l1X.ok : LoopEq E_zbu (yaa Tryz.f177 0) := by
 intro L hL vs H
 have h1 : E_zbu.lp (yak (yaa Tryz.f177 0)) = some zbu.l1.entry := by kernel_rfl
 have h2 : L = zbu.l1.entry := Option.some.inj (hL.symm.trans h1)
 subst h2
 by_cases hx : ∃ (x0 : Nat) (x1 : Nat) (x2 : Nat) (x3 : Nat → Int), vs = [EV.slice 0 0 x0 (some x1) 1] ∧ H = [some (EV.arr .u32 x2 x3)]
 ·obtain ⟨x0, x1, x2, x3, rfl, rfl⟩ := hx
  right; intro K
  exact exists_congr fun n => iff_of_eq (zbu.l1X.eq K n x0 x1 x2 x3).symm
 ·left; intro K h
  simp only [zbu.l1.entry] at h
  split at h
  ·exact hx ⟨_, _, _, _, rfl, rfl⟩
  ·exact h
theorem X_zbu.eq (a0l : Nat) (a0c : Nat) (a0n : Nat) (a0 : Nat → Int) (K : EV → yaf → Prop) : yaZ E_zbu Tryz.f177 true [.slice 0 0 a0l (some a0c) 1] [some (.arr .u32 a0n a0)] K = zbu a0l a0c a0n a0 (fun y0 y1 y2 y3 => K (EV.slice 0 0 y0 (some y1) 1) [some (EV.arr .u32 y2 y3)]) := by
 rw [zbu.is]; exact (yag _ _ _ _ _ _).symm.trans (by kernel_rfl)
theorem X_zbu.ok : SoundE Tryz.prog gl 177 e_zbu := by
 refine ya8 (E := E_zbu) (fn := Tryz.f177) rfl tys_ok rfl (show ya4 _ [] from trivial) mixed (by kernel_rfl) (by kernel_rfl) (by kernel_rfl) 1 (by kernel_rfl) true ⟨zbu.l1X.ok, trivial⟩ ?_
 intro args H
 by_cases hx : ∃ (a0l : Nat) (a0c : Nat) (a0n : Nat) (a0 : Nat → Int), args = [.slice 0 0 a0l (some a0c) 1] ∧ H = [some (.arr .u32 a0n a0)]
 ·obtain ⟨a0l, a0c, a0n, a0, rfl, rfl⟩ := hx
  right; intro K
  exact iff_of_eq (X_zbu.eq a0l a0c a0n a0 K).symm
 ·left; intro K h
  simp only [e_zbu] at h
  split at h
  ·exact hx ⟨_, _, _, _, rfl, rfl⟩
  ·exact h
noncomputable def E_zbt : Env := ⟨look tys, look [], look [(1, zbt.l1.entry)], gl, yat [], false⟩
theorem zbt.l1X.stepEq (R : List EV → yaf → Prop) (K : Ex → List EV → yaf → Prop) (x0 : Nat) (x1 : Nat) (x2 : Nat → Int) : yan (yap E_zbt (yaa Tryz.f177 0) { (LV.mk 1 [(0, 1)] 4 1 false) with nx := live (.loop (yaa Tryz.f177 0)) (LV.mk 1 [(0, 1)] 4 1 false) }) (live (.loop (yaa Tryz.f177 0)) (LV.mk 1 [(0, 1)] 4 1 false)) (LV.mk 1 [(0, 1)] 4 1 false) 1 21 R [EV.slice 0 0 x0 none 1] [some (EV.arr .u32 x1 x2)] K = zbt.l1.step (fun x0 x1 x2 => R [EV.slice 0 0 x0 none 1] [some (EV.arr .u32 x1 x2)]) (fun y0 y1 y2 => K (.exit 0) [EV.slice 0 0 y0 none 1] [some (EV.arr .u32 y1 y2)]) x0 x1 x2 := (yaB _ _ _ _ _ _ _ _ _ _ _).symm.trans (by kernel_rfl)
theorem zbt.l1X.eq (K : Ex → List EV → yaf → Prop) : ∀ (n : Nat) (x0 : Nat) (x1 : Nat) (x2 : Nat → Int), yas E_zbt (yaa Tryz.f177 0) (LV.mk 1 [(0, 1)] 4 1 false) 1 21 K n [EV.slice 0 0 x0 none 1] [some (EV.arr .u32 x1 x2)] = zbt.l1 (fun y0 y1 y2 => K (.exit 0) [EV.slice 0 0 y0 none 1] [some (EV.arr .u32 y1 y2)]) n x0 x1 x2
 | 0, _, _, _ => rfl
 | n + 1, x0, x1, x2 => by
  have ih : (fun (x0 : Nat) (x1 : Nat) (x2 : Nat → Int) => yas E_zbt (yaa Tryz.f177 0) (LV.mk 1 [(0, 1)] 4 1 false) 1 21 K n [EV.slice 0 0 x0 none 1] [some (EV.arr .u32 x1 x2)]) = zbt.l1 (fun y0 y1 y2 => K (.exit 0) [EV.slice 0 0 y0 none 1] [some (EV.arr .u32 y1 y2)]) n := by funext x0 x1 x2; exact zbt.l1X.eq K n x0 x1 x2
  show yan _ _ _ _ _ (yas E_zbt (yaa Tryz.f177 0) (LV.mk 1 [(0, 1)] 4 1 false) 1 21 K n) [EV.slice 0 0 x0 none 1] [some (EV.arr .u32 x1 x2)] K = zbt.l1.step (zbt.l1 (fun y0 y1 y2 => K (.exit 0) [EV.slice 0 0 y0 none 1] [some (EV.arr .u32 y1 y2)]) n) (fun y0 y1 y2 => K (.exit 0) [EV.slice 0 0 y0 none 1] [some (EV.arr .u32 y1 y2)]) x0 x1 x2
  rw [← ih]
  exact zbt.l1X.stepEq _ K x0 x1 x2
theorem zbt.l1X.ok : LoopEq E_zbt (yaa Tryz.f177 0) := by
 intro L hL vs H
 have h1 : E_zbt.lp (yak (yaa Tryz.f177 0)) = some zbt.l1.entry := by kernel_rfl
 have h2 : L = zbt.l1.entry := Option.some.inj (hL.symm.trans h1)
 subst h2
 by_cases hx : ∃ (x0 : Nat) (x1 : Nat) (x2 : Nat → Int), vs = [EV.slice 0 0 x0 none 1] ∧ H = [some (EV.arr .u32 x1 x2)]
 ·obtain ⟨x0, x1, x2, rfl, rfl⟩ := hx
  right; intro K
  exact exists_congr fun n => iff_of_eq (zbt.l1X.eq K n x0 x1 x2).symm
 ·left; intro K h
  simp only [zbt.l1.entry] at h
  split at h
  ·exact hx ⟨_, _, _, rfl, rfl⟩
  ·exact h
theorem X_zbt.eq (a0l : Nat) (a0n : Nat) (a0 : Nat → Int) (K : EV → yaf → Prop) : yaZ E_zbt Tryz.f177 true [.slice 0 0 a0l none 1] [some (.arr .u32 a0n a0)] K = zbt a0l a0n a0 (fun y0 y1 y2 => K (EV.slice 0 0 y0 none 1) [some (EV.arr .u32 y1 y2)]) := by
 rw [zbt.is]; exact (yag _ _ _ _ _ _).symm.trans (by kernel_rfl)
theorem X_zbt.ok : SoundE Tryz.prog gl 177 e_zbt := by
 refine ya8 (E := E_zbt) (fn := Tryz.f177) rfl tys_ok rfl (show ya4 _ [] from trivial) mixed (by kernel_rfl) (by kernel_rfl) (by kernel_rfl) 1 (by kernel_rfl) true ⟨zbt.l1X.ok, trivial⟩ ?_
 intro args H
 by_cases hx : ∃ (a0l : Nat) (a0n : Nat) (a0 : Nat → Int), args = [.slice 0 0 a0l none 1] ∧ H = [some (.arr .u32 a0n a0)]
 ·obtain ⟨a0l, a0n, a0, rfl, rfl⟩ := hx
  right; intro K
  exact iff_of_eq (X_zbt.eq a0l a0n a0 K).symm
 ·left; intro K h
  simp only [e_zbt] at h
  split at h
  ·exact hx ⟨_, _, _, rfl, rfl⟩
  ·exact h
theorem X_nat_cut.ok : SoundE Tryz.prog gl 177 e_nat_cut := SoundE.pick X_zbv.ok (SoundE.pick X_zbu.ok (X_zbt.ok))
noncomputable def e_zbx : Entry := ⟨[some .u32], false, fun args H K => match args, H with
 | [.rsI .u32 a0n a0], [] => zbx a0n a0 (fun y0 => K (EV.str y0) [])
 | _, _ => False⟩
noncomputable def l_zbx : List (Nat × Entry) := [(177, e_nat_cut)]
noncomputable def E_zbx : Env := ⟨look tys, look l_zbx, look [(4, zbx.l4.entry), (8, zbx.l8.entry)], gl, yat [], false⟩
theorem zbx.l4X.stepEq (R : List EV → yaf → Prop) (K : Ex → List EV → yaf → Prop) (x0 : Nat) (x1 : Nat → Int) (x2 : Nat) (x3 : Nat) (x4 : Int) (x5 : Int) (x6 : Nat) (x7 : Nat → Int) : yan (yap E_zbx (yaa Tryz.f121 0) { (LV.mk 8 [(0, 8)] 4 0 false) with nx := live (.loop (yaa Tryz.f121 0)) (LV.mk 8 [(0, 8)] 4 0 false) }) (live (.loop (yaa Tryz.f121 0)) (LV.mk 8 [(0, 8)] 4 0 false)) (LV.mk 8 [(0, 8)] 4 0 false) 0 48 R [EV.rsI .u32 x0 x1, EV.slice 0 0 x2 (some x3) 1, EV.int .i64 x4, EV.int .i64 x5] [some (EV.arr .u8 x6 x7)] K = zbx.l4.step (fun x0 x1 x2 x3 x4 x5 x6 x7 => R [EV.rsI .u32 x0 x1, EV.slice 0 0 x2 (some x3) 1, EV.int .i64 x4, EV.int .i64 x5] [some (EV.arr .u8 x6 x7)]) (fun y0 y1 y2 y3 => K (.exit 0) [EV.slice 0 0 y0 (some y1) 1] [some (EV.arr .u8 y2 y3)]) x0 x1 x2 x3 x4 x5 x6 x7 := (yaB _ _ _ _ _ _ _ _ _ _ _).symm.trans (by kernel_rfl)
theorem zbx.l4X.eq (K : Ex → List EV → yaf → Prop) : ∀ (n : Nat) (x0 : Nat) (x1 : Nat → Int) (x2 : Nat) (x3 : Nat) (x4 : Int) (x5 : Int) (x6 : Nat) (x7 : Nat → Int), yas E_zbx (yaa Tryz.f121 0) (LV.mk 8 [(0, 8)] 4 0 false) 0 48 K n [EV.rsI .u32 x0 x1, EV.slice 0 0 x2 (some x3) 1, EV.int .i64 x4, EV.int .i64 x5] [some (EV.arr .u8 x6 x7)] = zbx.l4 (fun y0 y1 y2 y3 => K (.exit 0) [EV.slice 0 0 y0 (some y1) 1] [some (EV.arr .u8 y2 y3)]) n x0 x1 x2 x3 x4 x5 x6 x7
 | 0, _, _, _, _, _, _, _, _ => rfl
 | n + 1, x0, x1, x2, x3, x4, x5, x6, x7 => by
  have ih : (fun (x0 : Nat) (x1 : Nat → Int) (x2 : Nat) (x3 : Nat) (x4 : Int) (x5 : Int) (x6 : Nat) (x7 : Nat → Int) => yas E_zbx (yaa Tryz.f121 0) (LV.mk 8 [(0, 8)] 4 0 false) 0 48 K n [EV.rsI .u32 x0 x1, EV.slice 0 0 x2 (some x3) 1, EV.int .i64 x4, EV.int .i64 x5] [some (EV.arr .u8 x6 x7)]) = zbx.l4 (fun y0 y1 y2 y3 => K (.exit 0) [EV.slice 0 0 y0 (some y1) 1] [some (EV.arr .u8 y2 y3)]) n := by funext x0 x1 x2 x3 x4 x5 x6 x7; exact zbx.l4X.eq K n x0 x1 x2 x3 x4 x5 x6 x7
  show yan _ _ _ _ _ (yas E_zbx (yaa Tryz.f121 0) (LV.mk 8 [(0, 8)] 4 0 false) 0 48 K n) [EV.rsI .u32 x0 x1, EV.slice 0 0 x2 (some x3) 1, EV.int .i64 x4, EV.int .i64 x5] [some (EV.arr .u8 x6 x7)] K = zbx.l4.step (zbx.l4 (fun y0 y1 y2 y3 => K (.exit 0) [EV.slice 0 0 y0 (some y1) 1] [some (EV.arr .u8 y2 y3)]) n) (fun y0 y1 y2 y3 => K (.exit 0) [EV.slice 0 0 y0 (some y1) 1] [some (EV.arr .u8 y2 y3)]) x0 x1 x2 x3 x4 x5 x6 x7
  rw [← ih]
  exact zbx.l4X.stepEq _ K x0 x1 x2 x3 x4 x5 x6 x7
theorem zbx.l4X.ok : LoopEq E_zbx (yaa Tryz.f121 0) := by
 intro L hL vs H
 have h1 : E_zbx.lp (yak (yaa Tryz.f121 0)) = some zbx.l4.entry := by kernel_rfl
 have h2 : L = zbx.l4.entry := Option.some.inj (hL.symm.trans h1)
 subst h2
 by_cases hx : ∃ (x0 : Nat) (x1 : Nat → Int) (x2 : Nat) (x3 : Nat) (x4 : Int) (x5 : Int) (x6 : Nat) (x7 : Nat → Int), vs = [EV.rsI .u32 x0 x1, EV.slice 0 0 x2 (some x3) 1, EV.int .i64 x4, EV.int .i64 x5] ∧ H = [some (EV.arr .u8 x6 x7)]
 ·obtain ⟨x0, x1, x2, x3, x4, x5, x6, x7, rfl, rfl⟩ := hx
  right; intro K
  exact exists_congr fun n => iff_of_eq (zbx.l4X.eq K n x0 x1 x2 x3 x4 x5 x6 x7).symm
 ·left; intro K h
  simp only [zbx.l4.entry] at h
  split at h
  ·exact hx ⟨_, _, _, _, _, _, _, _, rfl, rfl⟩
  ·exact h
theorem zbx.l8X.stepEq (R : List EV → yaf → Prop) (K : Ex → List EV → yaf → Prop) (x0 : Nat) (x1 : Nat) (x2 : Nat) (x3 : Nat) (x4 : Nat → Int) : yan (yap E_zbx (yaa Tryz.f121 1) { (LV.mk 8 [(2, 8)] 4 0 false) with nx := live (.loop (yaa Tryz.f121 1)) (LV.mk 8 [(2, 8)] 4 0 false) }) (live (.loop (yaa Tryz.f121 1)) (LV.mk 8 [(2, 8)] 4 0 false)) (LV.mk 8 [(2, 8)] 4 0 false) 0 48 R [EV.slice 0 x0 x1 (some x2) 1] [some (EV.arr .u8 x3 x4)] K = zbx.l8.step (fun x0 x1 x2 x3 x4 => R [EV.slice 0 x0 x1 (some x2) 1] [some (EV.arr .u8 x3 x4)]) (fun y0 y1 y2 y3 y4 => K (.exit 2) [EV.slice 0 y0 y1 (some y2) 1] [some (EV.arr .u8 y3 y4)]) x0 x1 x2 x3 x4 := (yaB _ _ _ _ _ _ _ _ _ _ _).symm.trans (by kernel_rfl)
theorem zbx.l8X.eq (K : Ex → List EV → yaf → Prop) : ∀ (n : Nat) (x0 : Nat) (x1 : Nat) (x2 : Nat) (x3 : Nat) (x4 : Nat → Int), yas E_zbx (yaa Tryz.f121 1) (LV.mk 8 [(2, 8)] 4 0 false) 0 48 K n [EV.slice 0 x0 x1 (some x2) 1] [some (EV.arr .u8 x3 x4)] = zbx.l8 (fun y0 y1 y2 y3 y4 => K (.exit 2) [EV.slice 0 y0 y1 (some y2) 1] [some (EV.arr .u8 y3 y4)]) n x0 x1 x2 x3 x4
 | 0, _, _, _, _, _ => rfl
 | n + 1, x0, x1, x2, x3, x4 => by
  have ih : (fun (x0 : Nat) (x1 : Nat) (x2 : Nat) (x3 : Nat) (x4 : Nat → Int) => yas E_zbx (yaa Tryz.f121 1) (LV.mk 8 [(2, 8)] 4 0 false) 0 48 K n [EV.slice 0 x0 x1 (some x2) 1] [some (EV.arr .u8 x3 x4)]) = zbx.l8 (fun y0 y1 y2 y3 y4 => K (.exit 2) [EV.slice 0 y0 y1 (some y2) 1] [some (EV.arr .u8 y3 y4)]) n := by funext x0 x1 x2 x3 x4; exact zbx.l8X.eq K n x0 x1 x2 x3 x4
  show yan _ _ _ _ _ (yas E_zbx (yaa Tryz.f121 1) (LV.mk 8 [(2, 8)] 4 0 false) 0 48 K n) [EV.slice 0 x0 x1 (some x2) 1] [some (EV.arr .u8 x3 x4)] K = zbx.l8.step (zbx.l8 (fun y0 y1 y2 y3 y4 => K (.exit 2) [EV.slice 0 y0 y1 (some y2) 1] [some (EV.arr .u8 y3 y4)]) n) (fun y0 y1 y2 y3 y4 => K (.exit 2) [EV.slice 0 y0 y1 (some y2) 1] [some (EV.arr .u8 y3 y4)]) x0 x1 x2 x3 x4
  rw [← ih]
  exact zbx.l8X.stepEq _ K x0 x1 x2 x3 x4
theorem zbx.l8X.ok : LoopEq E_zbx (yaa Tryz.f121 1) := by
 intro L hL vs H
 have h1 : E_zbx.lp (yak (yaa Tryz.f121 1)) = some zbx.l8.entry := by kernel_rfl
 have h2 : L = zbx.l8.entry := Option.some.inj (hL.symm.trans h1)
 subst h2
 by_cases hx : ∃ (x0 : Nat) (x1 : Nat) (x2 : Nat) (x3 : Nat) (x4 : Nat → Int), vs = [EV.slice 0 x0 x1 (some x2) 1] ∧ H = [some (EV.arr .u8 x3 x4)]
 ·obtain ⟨x0, x1, x2, x3, x4, rfl, rfl⟩ := hx
  right; intro K
  exact exists_congr fun n => iff_of_eq (zbx.l8X.eq K n x0 x1 x2 x3 x4).symm
 ·left; intro K h
  simp only [zbx.l8.entry] at h
  split at h
  ·exact hx ⟨_, _, _, _, _, rfl, rfl⟩
  ·exact h
theorem X_zbx.eq (a0n : Nat) (a0 : Nat → Int) (K : EV → yaf → Prop) : yaZ E_zbx Tryz.f121 false [.rsI .u32 a0n a0] [] K = zbx a0n a0 (fun y0 => K (EV.str y0) []) := by
 rw [zbx.is]; exact (yag _ _ _ _ _ _).symm.trans (by kernel_rfl)
theorem X_zbx.ok : SoundE Tryz.prog gl 121 e_zbx := by
 refine ya8 (E := E_zbx) (fn := Tryz.f121) rfl tys_ok rfl (show ya4 _ l_zbx from ⟨X_nat_cut.ok, trivial⟩) mixed (by kernel_rfl) (by kernel_rfl) (by kernel_rfl) 2 (by kernel_rfl) false ⟨zbx.l4X.ok, zbx.l8X.ok, trivial⟩ ?_
 intro args H
 by_cases hx : ∃ (a0n : Nat) (a0 : Nat → Int), args = [.rsI .u32 a0n a0] ∧ H = []
 ·obtain ⟨a0n, a0, rfl, rfl⟩ := hx
  right; intro K
  exact iff_of_eq (X_zbx.eq a0n a0 K).symm
 ·left; intro K h
  simp only [e_zbx] at h
  split at h
  ·exact hx ⟨_, _, rfl, rfl⟩
  ·exact h
noncomputable def e_zcc : Entry := ⟨[none], false, fun args H K => match args, H with
 | [.str a0], [] => zcc a0 (fun y0 y1 => K (EV.rsI .u32 y0 y1) [])
 | _, _ => False⟩
noncomputable def E_zcc : Env := ⟨look tys, look [], look [(3, zcc.l3.entry)], gl, yat [], false⟩
theorem zcc.l3X.stepEq (R : List EV → yaf → Prop) (K : Ex → List EV → yaf → Prop) (x0 : List UInt8) (x1 : Nat) (x2 : Nat) (x3 : Int) (x4 : Int) (x5 : Nat) (x6 : Nat → Int) : yan (yap E_zcc (yaa Tryz.f132 0) { (LV.mk 8 [(0, 8)] 4 0 false) with nx := live (.loop (yaa Tryz.f132 0)) (LV.mk 8 [(0, 8)] 4 0 false) }) (live (.loop (yaa Tryz.f132 0)) (LV.mk 8 [(0, 8)] 4 0 false)) (LV.mk 8 [(0, 8)] 4 0 false) 0 37 R [EV.str x0, EV.slice 0 0 x1 (some x2) 1, EV.int .i64 x3, EV.int .i64 x4] [some (EV.arr .u32 x5 x6)] K = zcc.l3.step (fun x0 x1 x2 x3 x4 x5 x6 => R [EV.str x0, EV.slice 0 0 x1 (some x2) 1, EV.int .i64 x3, EV.int .i64 x4] [some (EV.arr .u32 x5 x6)]) (fun y0 y1 y2 y3 => K (.exit 0) [EV.slice 0 0 y0 (some y1) 1] [some (EV.arr .u32 y2 y3)]) x0 x1 x2 x3 x4 x5 x6 := (yaB _ _ _ _ _ _ _ _ _ _ _).symm.trans (by kernel_rfl)
theorem zcc.l3X.eq (K : Ex → List EV → yaf → Prop) : ∀ (n : Nat) (x0 : List UInt8) (x1 : Nat) (x2 : Nat) (x3 : Int) (x4 : Int) (x5 : Nat) (x6 : Nat → Int), yas E_zcc (yaa Tryz.f132 0) (LV.mk 8 [(0, 8)] 4 0 false) 0 37 K n [EV.str x0, EV.slice 0 0 x1 (some x2) 1, EV.int .i64 x3, EV.int .i64 x4] [some (EV.arr .u32 x5 x6)] = zcc.l3 (fun y0 y1 y2 y3 => K (.exit 0) [EV.slice 0 0 y0 (some y1) 1] [some (EV.arr .u32 y2 y3)]) n x0 x1 x2 x3 x4 x5 x6
 | 0, _, _, _, _, _, _, _ => rfl
 | n + 1, x0, x1, x2, x3, x4, x5, x6 => by
  have ih : (fun (x0 : List UInt8) (x1 : Nat) (x2 : Nat) (x3 : Int) (x4 : Int) (x5 : Nat) (x6 : Nat → Int) => yas E_zcc (yaa Tryz.f132 0) (LV.mk 8 [(0, 8)] 4 0 false) 0 37 K n [EV.str x0, EV.slice 0 0 x1 (some x2) 1, EV.int .i64 x3, EV.int .i64 x4] [some (EV.arr .u32 x5 x6)]) = zcc.l3 (fun y0 y1 y2 y3 => K (.exit 0) [EV.slice 0 0 y0 (some y1) 1] [some (EV.arr .u32 y2 y3)]) n := by funext x0 x1 x2 x3 x4 x5 x6; exact zcc.l3X.eq K n x0 x1 x2 x3 x4 x5 x6
  show yan _ _ _ _ _ (yas E_zcc (yaa Tryz.f132 0) (LV.mk 8 [(0, 8)] 4 0 false) 0 37 K n) [EV.str x0, EV.slice 0 0 x1 (some x2) 1, EV.int .i64 x3, EV.int .i64 x4] [some (EV.arr .u32 x5 x6)] K = zcc.l3.step (zcc.l3 (fun y0 y1 y2 y3 => K (.exit 0) [EV.slice 0 0 y0 (some y1) 1] [some (EV.arr .u32 y2 y3)]) n) (fun y0 y1 y2 y3 => K (.exit 0) [EV.slice 0 0 y0 (some y1) 1] [some (EV.arr .u32 y2 y3)]) x0 x1 x2 x3 x4 x5 x6
  rw [← ih]
  exact zcc.l3X.stepEq _ K x0 x1 x2 x3 x4 x5 x6
theorem zcc.l3X.ok : LoopEq E_zcc (yaa Tryz.f132 0) := by
 intro L hL vs H
 have h1 : E_zcc.lp (yak (yaa Tryz.f132 0)) = some zcc.l3.entry := by kernel_rfl
 have h2 : L = zcc.l3.entry := Option.some.inj (hL.symm.trans h1)
 subst h2
 by_cases hx : ∃ (x0 : List UInt8) (x1 : Nat) (x2 : Nat) (x3 : Int) (x4 : Int) (x5 : Nat) (x6 : Nat → Int), vs = [EV.str x0, EV.slice 0 0 x1 (some x2) 1, EV.int .i64 x3, EV.int .i64 x4] ∧ H = [some (EV.arr .u32 x5 x6)]
 ·obtain ⟨x0, x1, x2, x3, x4, x5, x6, rfl, rfl⟩ := hx
  right; intro K
  exact exists_congr fun n => iff_of_eq (zcc.l3X.eq K n x0 x1 x2 x3 x4 x5 x6).symm
 ·left; intro K h
  simp only [zcc.l3.entry] at h
  split at h
  ·exact hx ⟨_, _, _, _, _, _, _, rfl, rfl⟩
  ·exact h
theorem X_zcc.eq (a0 : List UInt8) (K : EV → yaf → Prop) : yaZ E_zcc Tryz.f132 false [.str a0] [] K = zcc a0 (fun y0 y1 => K (EV.rsI .u32 y0 y1) []) := by
 rw [zcc.is]; exact (yag _ _ _ _ _ _).symm.trans (by kernel_rfl)
theorem X_zcc.ok : SoundE Tryz.prog gl 132 e_zcc := by
 refine ya8 (E := E_zcc) (fn := Tryz.f132) rfl tys_ok rfl (show ya4 _ [] from trivial) mixed (by kernel_rfl) (by kernel_rfl) (by kernel_rfl) 1 (by kernel_rfl) false ⟨zcc.l3X.ok, trivial⟩ ?_
 intro args H
 by_cases hx : ∃ (a0 : List UInt8), args = [.str a0] ∧ H = []
 ·obtain ⟨a0, rfl, rfl⟩ := hx
  right; intro K
  exact iff_of_eq (X_zcc.eq a0 K).symm
 ·left; intro K h
  simp only [e_zcc] at h
  split at h
  ·exact hx ⟨_, rfl, rfl⟩
  ·exact h
noncomputable def e_zbw : Entry := ⟨[some .u32, none], false, fun args H K => match args, H with
 | [.rsI .u32 a0n a0, .int .i64 a1], [] => zbw a0n a0 a1 (fun y0 y1 => K (EV.rsI .u32 y0 y1) [])
 | _, _ => False⟩
noncomputable def l_zbw : List (Nat × Entry) := [(177, e_nat_cut)]
noncomputable def E_zbw : Env := ⟨look tys, look l_zbw, look [(5, zbw.l5.entry)], gl, yat [], false⟩
theorem zbw.l5X.stepEq (R : List EV → yaf → Prop) (K : Ex → List EV → yaf → Prop) (x0 : Nat) (x1 : Nat → Int) (x2 : Int) (x3 : Nat) (x4 : Nat) (x5 : Int) (x6 : Int) (x7 : Nat) (x8 : Nat → Int) : yan (yap E_zbw (yaa Tryz.f174 0) { (LV.mk 32 [(0, 32)] 16 0 false) with nx := live (.loop (yaa Tryz.f174 0)) (LV.mk 32 [(0, 32)] 16 0 false) }) (live (.loop (yaa Tryz.f174 0)) (LV.mk 32 [(0, 32)] 16 0 false)) (LV.mk 32 [(0, 32)] 16 0 false) 0 64 R [EV.rsI .u32 x0 x1, EV.int .i64 x2, EV.slice 0 0 x3 (some x4) 1, EV.int .i64 x5, EV.int .i64 x6] [some (EV.arr .u32 x7 x8)] K = zbw.l5.step (fun x0 x1 x2 x3 x4 x5 x6 x7 x8 => R [EV.rsI .u32 x0 x1, EV.int .i64 x2, EV.slice 0 0 x3 (some x4) 1, EV.int .i64 x5, EV.int .i64 x6] [some (EV.arr .u32 x7 x8)]) (fun y0 y1 y2 y3 => K (.exit 0) [EV.slice 0 0 y0 (some y1) 1] [some (EV.arr .u32 y2 y3)]) x0 x1 x2 x3 x4 x5 x6 x7 x8 := (yaB _ _ _ _ _ _ _ _ _ _ _).symm.trans (by kernel_rfl)
theorem zbw.l5X.eq (K : Ex → List EV → yaf → Prop) : ∀ (n : Nat) (x0 : Nat) (x1 : Nat → Int) (x2 : Int) (x3 : Nat) (x4 : Nat) (x5 : Int) (x6 : Int) (x7 : Nat) (x8 : Nat → Int), yas E_zbw (yaa Tryz.f174 0) (LV.mk 32 [(0, 32)] 16 0 false) 0 64 K n [EV.rsI .u32 x0 x1, EV.int .i64 x2, EV.slice 0 0 x3 (some x4) 1, EV.int .i64 x5, EV.int .i64 x6] [some (EV.arr .u32 x7 x8)] = zbw.l5 (fun y0 y1 y2 y3 => K (.exit 0) [EV.slice 0 0 y0 (some y1) 1] [some (EV.arr .u32 y2 y3)]) n x0 x1 x2 x3 x4 x5 x6 x7 x8
 | 0, _, _, _, _, _, _, _, _, _ => rfl
 | n + 1, x0, x1, x2, x3, x4, x5, x6, x7, x8 => by
  have ih : (fun (x0 : Nat) (x1 : Nat → Int) (x2 : Int) (x3 : Nat) (x4 : Nat) (x5 : Int) (x6 : Int) (x7 : Nat) (x8 : Nat → Int) => yas E_zbw (yaa Tryz.f174 0) (LV.mk 32 [(0, 32)] 16 0 false) 0 64 K n [EV.rsI .u32 x0 x1, EV.int .i64 x2, EV.slice 0 0 x3 (some x4) 1, EV.int .i64 x5, EV.int .i64 x6] [some (EV.arr .u32 x7 x8)]) = zbw.l5 (fun y0 y1 y2 y3 => K (.exit 0) [EV.slice 0 0 y0 (some y1) 1] [some (EV.arr .u32 y2 y3)]) n := by funext x0 x1 x2 x3 x4 x5 x6 x7 x8; exact zbw.l5X.eq K n x0 x1 x2 x3 x4 x5 x6 x7 x8
  show yan _ _ _ _ _ (yas E_zbw (yaa Tryz.f174 0) (LV.mk 32 [(0, 32)] 16 0 false) 0 64 K n) [EV.rsI .u32 x0 x1, EV.int .i64 x2, EV.slice 0 0 x3 (some x4) 1, EV.int .i64 x5, EV.int .i64 x6] [some (EV.arr .u32 x7 x8)] K = zbw.l5.step (zbw.l5 (fun y0 y1 y2 y3 => K (.exit 0) [EV.slice 0 0 y0 (some y1) 1] [some (EV.arr .u32 y2 y3)]) n) (fun y0 y1 y2 y3 => K (.exit 0) [EV.slice 0 0 y0 (some y1) 1] [some (EV.arr .u32 y2 y3)]) x0 x1 x2 x3 x4 x5 x6 x7 x8
  rw [← ih]
  exact zbw.l5X.stepEq _ K x0 x1 x2 x3 x4 x5 x6 x7 x8
theorem zbw.l5X.ok : LoopEq E_zbw (yaa Tryz.f174 0) := by
 intro L hL vs H
 have h1 : E_zbw.lp (yak (yaa Tryz.f174 0)) = some zbw.l5.entry := by kernel_rfl
 have h2 : L = zbw.l5.entry := Option.some.inj (hL.symm.trans h1)
 subst h2
 by_cases hx : ∃ (x0 : Nat) (x1 : Nat → Int) (x2 : Int) (x3 : Nat) (x4 : Nat) (x5 : Int) (x6 : Int) (x7 : Nat) (x8 : Nat → Int), vs = [EV.rsI .u32 x0 x1, EV.int .i64 x2, EV.slice 0 0 x3 (some x4) 1, EV.int .i64 x5, EV.int .i64 x6] ∧ H = [some (EV.arr .u32 x7 x8)]
 ·obtain ⟨x0, x1, x2, x3, x4, x5, x6, x7, x8, rfl, rfl⟩ := hx
  right; intro K
  exact exists_congr fun n => iff_of_eq (zbw.l5X.eq K n x0 x1 x2 x3 x4 x5 x6 x7 x8).symm
 ·left; intro K h
  simp only [zbw.l5.entry] at h
  split at h
  ·exact hx ⟨_, _, _, _, _, _, _, _, _, rfl, rfl⟩
  ·exact h
theorem X_zbw.eq (a0n : Nat) (a0 : Nat → Int) (a1 : Int) (K : EV → yaf → Prop) : yaZ E_zbw Tryz.f174 false [.rsI .u32 a0n a0, .int .i64 a1] [] K = zbw a0n a0 a1 (fun y0 y1 => K (EV.rsI .u32 y0 y1) []) := by
 rw [zbw.is]; exact (yag _ _ _ _ _ _).symm.trans (by kernel_rfl)
theorem X_zbw.ok : SoundE Tryz.prog gl 174 e_zbw := by
 refine ya8 (E := E_zbw) (fn := Tryz.f174) rfl tys_ok rfl (show ya4 _ l_zbw from ⟨X_nat_cut.ok, trivial⟩) mixed (by kernel_rfl) (by kernel_rfl) (by kernel_rfl) 1 (by kernel_rfl) false ⟨zbw.l5X.ok, trivial⟩ ?_
 intro args H
 by_cases hx : ∃ (a0n : Nat) (a0 : Nat → Int) (a1 : Int), args = [.rsI .u32 a0n a0, .int .i64 a1] ∧ H = []
 ·obtain ⟨a0n, a0, a1, rfl, rfl⟩ := hx
  right; intro K
  exact iff_of_eq (X_zbw.eq a0n a0 a1 K).symm
 ·left; intro K h
  simp only [e_zbw] at h
  split at h
  ·exact hx ⟨_, _, _, rfl, rfl⟩
  ·exact h
noncomputable def e_zbq : Entry := ⟨[none, none], false, fun args H K => match args, H with
 | [.str a0, .int .i64 a1], [] => zbq a0 a1 (fun y0 y1 y2 => K (EV.tuple [EV.str y0, EV.bool y1, EV.int .i64 y2]) [])
 | _, _ => False⟩
noncomputable def l_zbq : List (Nat × Entry) := [(114, e_zbi), (117, e_zbo), (121, e_zbx), (132, e_zcc), (174, e_zbw)]
noncomputable def E_zbq : Env := ⟨look tys, look l_zbq, look [], gl, yat [], false⟩
theorem X_zbq.eq (a0 : List UInt8) (a1 : Int) (K : EV → yaf → Prop) : yaZ E_zbq Tryz.f118 false [.str a0, .int .i64 a1] [] K = zbq a0 a1 (fun y0 y1 y2 => K (EV.tuple [EV.str y0, EV.bool y1, EV.int .i64 y2]) []) := by
 rw [zbq.is]; exact (yag _ _ _ _ _ _).symm.trans (by kernel_rfl)
theorem X_zbq.ok : SoundE Tryz.prog gl 118 e_zbq := by
 refine ya8 (E := E_zbq) (fn := Tryz.f118) rfl tys_ok rfl (show ya4 _ l_zbq from ⟨X_zbi.ok, X_zbo.ok, X_zbx.ok, X_zcc.ok, X_zbw.ok, trivial⟩) mixed (by kernel_rfl) (by kernel_rfl) (by kernel_rfl) 0 (by kernel_rfl) false trivial ?_
 intro args H
 by_cases hx : ∃ (a0 : List UInt8) (a1 : Int), args = [.str a0, .int .i64 a1] ∧ H = []
 ·obtain ⟨a0, a1, rfl, rfl⟩ := hx
  right; intro K
  exact iff_of_eq (X_zbq.eq a0 a1 K).symm
 ·left; intro K h
  simp only [e_zbq] at h
  split at h
  ·exact hx ⟨_, _, rfl, rfl⟩
  ·exact h
noncomputable def e_zbz : Entry := ⟨[none, none], false, fun args H K => match args, H with
 | [.str a0, .str a1], [] => zbz a0 a1 (fun y0 => K (EV.bool y0) [])
 | _, _ => False⟩
noncomputable def l_zbz : List (Nat × Entry) := [(114, e_zbi)]
noncomputable def E_zbz : Env := ⟨look tys, look l_zbz, look [], gl, yat [], false⟩
theorem X_zbz.eq (a0 : List UInt8) (a1 : List UInt8) (K : EV → yaf → Prop) : yaZ E_zbz Tryz.f175 false [.str a0, .str a1] [] K = zbz a0 a1 (fun y0 => K (EV.bool y0) []) := by
 rw [zbz.is]; exact (yag _ _ _ _ _ _).symm.trans (by kernel_rfl)
theorem X_zbz.ok : SoundE Tryz.prog gl 175 e_zbz := by
 refine ya8 (E := E_zbz) (fn := Tryz.f175) rfl tys_ok rfl (show ya4 _ l_zbz from ⟨X_zbi.ok, trivial⟩) mixed (by kernel_rfl) (by kernel_rfl) (by kernel_rfl) 0 (by kernel_rfl) false trivial ?_
 intro args H
 by_cases hx : ∃ (a0 : List UInt8) (a1 : List UInt8), args = [.str a0, .str a1] ∧ H = []
 ·obtain ⟨a0, a1, rfl, rfl⟩ := hx
  right; intro K
  exact iff_of_eq (X_zbz.eq a0 a1 K).symm
 ·left; intro K h
  simp only [e_zbz] at h
  split at h
  ·exact hx ⟨_, _, rfl, rfl⟩
  ·exact h
noncomputable def e_zaa : Entry := ⟨[none], false, fun args H K => match args, H with
 | [.int .u64 a0], [] => zaa a0 (fun y0 => K (EV.int .i64 y0) [])
 | _, _ => False⟩
noncomputable def E_zaa : Env := ⟨look tys, look [], look [], gl, yat [], false⟩
theorem X_zaa.eq (a0 : Int) (K : EV → yaf → Prop) : yaZ E_zaa Tryz.f165 false [.int .u64 a0] [] K = zaa a0 (fun y0 => K (EV.int .i64 y0) []) := by
 rw [zaa.is]; exact (yag _ _ _ _ _ _).symm.trans (by kernel_rfl)
theorem X_zaa.ok : SoundE Tryz.prog gl 165 e_zaa := by
 refine ya8 (E := E_zaa) (fn := Tryz.f165) rfl tys_ok rfl (show ya4 _ [] from trivial) mixed (by kernel_rfl) (by kernel_rfl) (by kernel_rfl) 0 (by kernel_rfl) false trivial ?_
 intro args H
 by_cases hx : ∃ (a0 : Int), args = [.int .u64 a0] ∧ H = []
 ·obtain ⟨a0, rfl, rfl⟩ := hx
  right; intro K
  exact iff_of_eq (X_zaa.eq a0 K).symm
 ·left; intro K h
  simp only [e_zaa] at h
  split at h
  ·exact hx ⟨_, rfl, rfl⟩
  ·exact h
noncomputable def e_zdo : Entry := ⟨[none], false, fun args H K => match args, H with
 | [.int .u64 a0], [] => zdo a0 (fun y0 => K (EV.int .i64 y0) [])
 | _, _ => False⟩
noncomputable def l_zdo : List (Nat × Entry) := [(165, e_zaa)]
noncomputable def E_zdo : Env := ⟨look tys, look l_zdo, look [], gl, yat [], false⟩
theorem X_zdo.eq (a0 : Int) (K : EV → yaf → Prop) : yaZ E_zdo Tryz.f105 false [.int .u64 a0] [] K = zdo a0 (fun y0 => K (EV.int .i64 y0) []) := by
 rw [zdo.is]; exact (yag _ _ _ _ _ _).symm.trans (by kernel_rfl)
theorem X_zdo.ok : SoundE Tryz.prog gl 105 e_zdo := by
 refine ya8 (E := E_zdo) (fn := Tryz.f105) rfl tys_ok rfl (show ya4 _ l_zdo from ⟨X_zaa.ok, trivial⟩) mixed (by kernel_rfl) (by kernel_rfl) (by kernel_rfl) 0 (by kernel_rfl) false trivial ?_
 intro args H
 by_cases hx : ∃ (a0 : Int), args = [.int .u64 a0] ∧ H = []
 ·obtain ⟨a0, rfl, rfl⟩ := hx
  right; intro K
  exact iff_of_eq (X_zdo.eq a0 K).symm
 ·left; intro K h
  simp only [e_zdo] at h
  split at h
  ·exact hx ⟨_, rfl, rfl⟩
  ·exact h
noncomputable def e_zcb : Entry := ⟨[some .u32, none], true, fun args H K => match args, H with
 | [.rsI .u32 a0n a0, .int .i64 a1], [] => zcb a0n a0 a1 (K (EV.nilSlice) []) (fun y0 y1 y2 y3 => K (EV.slice 0 0 y0 (some y1) 1) [some (EV.arr .u32 y2 y3)])
 | _, _ => False⟩
noncomputable def l_zcb : List (Nat × Entry) := [(177, e_nat_cut)]
noncomputable def E_zcb : Env := ⟨look tys, look l_zcb, look [(5, zcb.l5.entry)], gl, yat [], false⟩
theorem zcb.l5X.stepEq (R : List EV → yaf → Prop) (K : Ex → List EV → yaf → Prop) (x0 : Int) (x1 : Nat) (x2 : Nat) (x3 : Nat) (x4 : Nat → Int) (x5 : Int) (x6 : Int) (x7 : Nat) (x8 : Nat → Int) : yan (yap E_zcb (yaa Tryz.f183 0) { (LV.mk 32 [(0, 32)] 16 0 false) with nx := live (.loop (yaa Tryz.f183 0)) (LV.mk 32 [(0, 32)] 16 0 false) }) (live (.loop (yaa Tryz.f183 0)) (LV.mk 32 [(0, 32)] 16 0 false)) (LV.mk 32 [(0, 32)] 16 0 false) 0 59 R [EV.int .i64 x0, EV.slice 0 0 x1 (some x2) 1, EV.rsI .u32 x3 x4, EV.int .i64 x5, EV.int .i64 x6] [some (EV.arr .u32 x7 x8)] K = zcb.l5.step (fun x0 x1 x2 x3 x4 x5 x6 x7 x8 => R [EV.int .i64 x0, EV.slice 0 0 x1 (some x2) 1, EV.rsI .u32 x3 x4, EV.int .i64 x5, EV.int .i64 x6] [some (EV.arr .u32 x7 x8)]) (fun y0 y1 y2 y3 => K (.exit 0) [EV.slice 0 0 y0 (some y1) 1] [some (EV.arr .u32 y2 y3)]) x0 x1 x2 x3 x4 x5 x6 x7 x8 := (yaB _ _ _ _ _ _ _ _ _ _ _).symm.trans (by kernel_rfl)
theorem zcb.l5X.eq (K : Ex → List EV → yaf → Prop) : ∀ (n : Nat) (x0 : Int) (x1 : Nat) (x2 : Nat) (x3 : Nat) (x4 : Nat → Int) (x5 : Int) (x6 : Int) (x7 : Nat) (x8 : Nat → Int), yas E_zcb (yaa Tryz.f183 0) (LV.mk 32 [(0, 32)] 16 0 false) 0 59 K n [EV.int .i64 x0, EV.slice 0 0 x1 (some x2) 1, EV.rsI .u32 x3 x4, EV.int .i64 x5, EV.int .i64 x6] [some (EV.arr .u32 x7 x8)] = zcb.l5 (fun y0 y1 y2 y3 => K (.exit 0) [EV.slice 0 0 y0 (some y1) 1] [some (EV.arr .u32 y2 y3)]) n x0 x1 x2 x3 x4 x5 x6 x7 x8
 | 0, _, _, _, _, _, _, _, _, _ => rfl
 | n + 1, x0, x1, x2, x3, x4, x5, x6, x7, x8 => by
  have ih : (fun (x0 : Int) (x1 : Nat) (x2 : Nat) (x3 : Nat) (x4 : Nat → Int) (x5 : Int) (x6 : Int) (x7 : Nat) (x8 : Nat → Int) => yas E_zcb (yaa Tryz.f183 0) (LV.mk 32 [(0, 32)] 16 0 false) 0 59 K n [EV.int .i64 x0, EV.slice 0 0 x1 (some x2) 1, EV.rsI .u32 x3 x4, EV.int .i64 x5, EV.int .i64 x6] [some (EV.arr .u32 x7 x8)]) = zcb.l5 (fun y0 y1 y2 y3 => K (.exit 0) [EV.slice 0 0 y0 (some y1) 1] [some (EV.arr .u32 y2 y3)]) n := by funext x0 x1 x2 x3 x4 x5 x6 x7 x8; exact zcb.l5X.eq K n x0 x1 x2 x3 x4 x5 x6 x7 x8
  show yan _ _ _ _ _ (yas E_zcb (yaa Tryz.f183 0) (LV.mk 32 [(0, 32)] 16 0 false) 0 59 K n) [EV.int .i64 x0, EV.slice 0 0 x1 (some x2) 1, EV.rsI .u32 x3 x4, EV.int .i64 x5, EV.int .i64 x6] [some (EV.arr .u32 x7 x8)] K = zcb.l5.step (zcb.l5 (fun y0 y1 y2 y3 => K (.exit 0) [EV.slice 0 0 y0 (some y1) 1] [some (EV.arr .u32 y2 y3)]) n) (fun y0 y1 y2 y3 => K (.exit 0) [EV.slice 0 0 y0 (some y1) 1] [some (EV.arr .u32 y2 y3)]) x0 x1 x2 x3 x4 x5 x6 x7 x8
  rw [← ih]
  exact zcb.l5X.stepEq _ K x0 x1 x2 x3 x4 x5 x6 x7 x8
theorem zcb.l5X.ok : LoopEq E_zcb (yaa Tryz.f183 0) := by
 intro L hL vs H
 have h1 : E_zcb.lp (yak (yaa Tryz.f183 0)) = some zcb.l5.entry := by kernel_rfl
 have h2 : L = zcb.l5.entry := Option.some.inj (hL.symm.trans h1)
 subst h2
 by_cases hx : ∃ (x0 : Int) (x1 : Nat) (x2 : Nat) (x3 : Nat) (x4 : Nat → Int) (x5 : Int) (x6 : Int) (x7 : Nat) (x8 : Nat → Int), vs = [EV.int .i64 x0, EV.slice 0 0 x1 (some x2) 1, EV.rsI .u32 x3 x4, EV.int .i64 x5, EV.int .i64 x6] ∧ H = [some (EV.arr .u32 x7 x8)]
 ·obtain ⟨x0, x1, x2, x3, x4, x5, x6, x7, x8, rfl, rfl⟩ := hx
  right; intro K
  exact exists_congr fun n => iff_of_eq (zcb.l5X.eq K n x0 x1 x2 x3 x4 x5 x6 x7 x8).symm
 ·left; intro K h
  simp only [zcb.l5.entry] at h
  split at h
  ·exact hx ⟨_, _, _, _, _, _, _, _, _, rfl, rfl⟩
  ·exact h
theorem X_zcb.eq (a0n : Nat) (a0 : Nat → Int) (a1 : Int) (K : EV → yaf → Prop) : yaZ E_zcb Tryz.f183 true [.rsI .u32 a0n a0, .int .i64 a1] [] K = zcb a0n a0 a1 (K (EV.nilSlice) []) (fun y0 y1 y2 y3 => K (EV.slice 0 0 y0 (some y1) 1) [some (EV.arr .u32 y2 y3)]) := by
 rw [zcb.is]; exact (yag _ _ _ _ _ _).symm.trans (by kernel_rfl)
theorem X_zcb.ok : SoundE Tryz.prog gl 183 e_zcb := by
 refine ya8 (E := E_zcb) (fn := Tryz.f183) rfl tys_ok rfl (show ya4 _ l_zcb from ⟨X_nat_cut.ok, trivial⟩) mixed (by kernel_rfl) (by kernel_rfl) (by kernel_rfl) 1 (by kernel_rfl) true ⟨zcb.l5X.ok, trivial⟩ ?_
 intro args H
 by_cases hx : ∃ (a0n : Nat) (a0 : Nat → Int) (a1 : Int), args = [.rsI .u32 a0n a0, .int .i64 a1] ∧ H = []
 ·obtain ⟨a0n, a0, a1, rfl, rfl⟩ := hx
  right; intro K
  exact iff_of_eq (X_zcb.eq a0n a0 a1 K).symm
 ·left; intro K h
  simp only [e_zcb] at h
  split at h
  ·exact hx ⟨_, _, _, rfl, rfl⟩
  ·exact h
noncomputable def e_nat_upN : Entry := Entry.nonil e_zcb
theorem X_nat_upN.ok : SoundE Tryz.prog gl 183 e_nat_upN := SoundE.nonil X_zcb.ok
noncomputable def e_zbs : Entry := ⟨[some .u32, some .u32], false, fun args H K => match args, H with
 | [.rsI .u32 a0n a0, .rsI .u32 a1n a1], [] => zbs a0n a0 a1n a1 (fun y0 => K (EV.int .i64 y0) [])
 | _, _ => False⟩
noncomputable def E_zbs : Env := ⟨look tys, look [], look [(6, zbs.l6.entry)], gl, yat [], false⟩
theorem zbs.l6X.stepEq (R : List EV → yaf → Prop) (K : Ex → List EV → yaf → Prop) (x0 : Nat) (x1 : Nat → Int) (x2 : Nat) (x3 : Nat → Int) (x4 : Int) : yan (yap E_zbs (yaa Tryz.f200 0) { (LV.mk 0 [(1, 0)] 16 0 false) with nx := live (.loop (yaa Tryz.f200 0)) (LV.mk 0 [(1, 0)] 16 0 false) }) (live (.loop (yaa Tryz.f200 0)) (LV.mk 0 [(1, 0)] 16 0 false)) (LV.mk 0 [(1, 0)] 16 0 false) 0 45 R [EV.rsI .u32 x0 x1, EV.rsI .u32 x2 x3, EV.int .i64 x4] [] K = zbs.l6.step (fun x0 x1 x2 x3 x4 => R [EV.rsI .u32 x0 x1, EV.rsI .u32 x2 x3, EV.int .i64 x4] []) (fun y0 => K .ret [EV.int .i64 y0] []) (K (.exit 1) [] []) x0 x1 x2 x3 x4 := (yaB _ _ _ _ _ _ _ _ _ _ _).symm.trans (by kernel_rfl)
theorem zbs.l6X.eq (K : Ex → List EV → yaf → Prop) : ∀ (n : Nat) (x0 : Nat) (x1 : Nat → Int) (x2 : Nat) (x3 : Nat → Int) (x4 : Int), yas E_zbs (yaa Tryz.f200 0) (LV.mk 0 [(1, 0)] 16 0 false) 0 45 K n [EV.rsI .u32 x0 x1, EV.rsI .u32 x2 x3, EV.int .i64 x4] [] = zbs.l6 (fun y0 => K .ret [EV.int .i64 y0] []) (K (.exit 1) [] []) n x0 x1 x2 x3 x4
 | 0, _, _, _, _, _ => rfl
 | n + 1, x0, x1, x2, x3, x4 => by
  have ih : (fun (x0 : Nat) (x1 : Nat → Int) (x2 : Nat) (x3 : Nat → Int) (x4 : Int) => yas E_zbs (yaa Tryz.f200 0) (LV.mk 0 [(1, 0)] 16 0 false) 0 45 K n [EV.rsI .u32 x0 x1, EV.rsI .u32 x2 x3, EV.int .i64 x4] []) = zbs.l6 (fun y0 => K .ret [EV.int .i64 y0] []) (K (.exit 1) [] []) n := by funext x0 x1 x2 x3 x4; exact zbs.l6X.eq K n x0 x1 x2 x3 x4
  show yan _ _ _ _ _ (yas E_zbs (yaa Tryz.f200 0) (LV.mk 0 [(1, 0)] 16 0 false) 0 45 K n) [EV.rsI .u32 x0 x1, EV.rsI .u32 x2 x3, EV.int .i64 x4] [] K = zbs.l6.step (zbs.l6 (fun y0 => K .ret [EV.int .i64 y0] []) (K (.exit 1) [] []) n) (fun y0 => K .ret [EV.int .i64 y0] []) (K (.exit 1) [] []) x0 x1 x2 x3 x4
  rw [← ih]
  exact zbs.l6X.stepEq _ K x0 x1 x2 x3 x4
theorem zbs.l6X.ok : LoopEq E_zbs (yaa Tryz.f200 0) := by
 intro L hL vs H
 have h1 : E_zbs.lp (yak (yaa Tryz.f200 0)) = some zbs.l6.entry := by kernel_rfl
 have h2 : L = zbs.l6.entry := Option.some.inj (hL.symm.trans h1)
 subst h2
 by_cases hx : ∃ (x0 : Nat) (x1 : Nat → Int) (x2 : Nat) (x3 : Nat → Int) (x4 : Int), vs = [EV.rsI .u32 x0 x1, EV.rsI .u32 x2 x3, EV.int .i64 x4] ∧ H = []
 ·obtain ⟨x0, x1, x2, x3, x4, rfl, rfl⟩ := hx
  right; intro K
  exact exists_congr fun n => iff_of_eq (zbs.l6X.eq K n x0 x1 x2 x3 x4).symm
 ·left; intro K h
  simp only [zbs.l6.entry] at h
  split at h
  ·exact hx ⟨_, _, _, _, _, rfl, rfl⟩
  ·exact h
theorem X_zbs.eq (a0n : Nat) (a0 : Nat → Int) (a1n : Nat) (a1 : Nat → Int) (K : EV → yaf → Prop) : yaZ E_zbs Tryz.f200 false [.rsI .u32 a0n a0, .rsI .u32 a1n a1] [] K = zbs a0n a0 a1n a1 (fun y0 => K (EV.int .i64 y0) []) := by
 rw [zbs.is]; exact (yag _ _ _ _ _ _).symm.trans (by kernel_rfl)
theorem X_zbs.ok : SoundE Tryz.prog gl 200 e_zbs := by
 refine ya8 (E := E_zbs) (fn := Tryz.f200) rfl tys_ok rfl (show ya4 _ [] from trivial) mixed (by kernel_rfl) (by kernel_rfl) (by kernel_rfl) 1 (by kernel_rfl) false ⟨zbs.l6X.ok, trivial⟩ ?_
 intro args H
 by_cases hx : ∃ (a0n : Nat) (a0 : Nat → Int) (a1n : Nat) (a1 : Nat → Int), args = [.rsI .u32 a0n a0, .rsI .u32 a1n a1] ∧ H = []
 ·obtain ⟨a0n, a0, a1n, a1, rfl, rfl⟩ := hx
  right; intro K
  exact iff_of_eq (X_zbs.eq a0n a0 a1n a1 K).symm
 ·left; intro K h
  simp only [e_zbs] at h
  split at h
  ·exact hx ⟨_, _, _, _, rfl, rfl⟩
  ·exact h
noncomputable def e_zby : Entry := ⟨[some .u32, some .u32], false, fun args H K => match args, H with
 | [.rsI .u32 a0n a0, .rsI .u32 a1n a1], [] => zby a0n a0 a1n a1 (fun y0 y1 y2 y3 => K (EV.tuple [EV.rsI .u32 y0 y1, EV.rsI .u32 y2 y3]) [])
 | _, _ => False⟩
noncomputable def l_zby : List (Nat × Entry) := [(105, e_zdo), (174, e_zbw), (177, e_nat_cut), (183, e_nat_upN), (200, e_zbs)]
noncomputable def E_zby : Env := ⟨look tys, look l_zby, look [(7, zby.l7.entry), (16, zby.l16.entry), (20, zby.l20.entry), (24, zby.l24.entry), (31, zby.l31.entry), (45, zby.l45.entry)], gl, yat [], true⟩
theorem zby.l7X.stepEq (R : List EV → yaf → Prop) (K : Ex → List EV → yaf → Prop) (x0 : Nat) (x1 : Nat → Int) (x2 : Nat) (x3 : Nat → Int) (x4 : Nat) (x5 : Int) (x6 : Int) (x7 : Nat) (x8 : Nat → Int) : yan (yap E_zby (yaa Tryz.f176 0) { (LV.mk 80 [(0, 80)] 48 0 true) with nx := live (.loop (yaa Tryz.f176 0)) (LV.mk 80 [(0, 80)] 48 0 true) }) (live (.loop (yaa Tryz.f176 0)) (LV.mk 80 [(0, 80)] 48 0 true)) (LV.mk 80 [(0, 80)] 48 0 true) 0 285 R [EV.rsI .u32 x0 x1, EV.rsI .u32 x2 x3, EV.slice 0 0 x4 none 1, EV.int .u64 x5, EV.int .i64 x6] [some (EV.arr .u32 x7 x8)] K = zby.l7.step (fun x0 x1 x2 x3 x4 x5 x6 x7 x8 => R [EV.rsI .u32 x0 x1, EV.rsI .u32 x2 x3, EV.slice 0 0 x4 none 1, EV.int .u64 x5, EV.int .i64 x6] [some (EV.arr .u32 x7 x8)]) (fun y0 y1 y2 y3 => K (.exit 0) [EV.slice 0 0 y0 none 1, EV.int .u64 y1] [some (EV.arr .u32 y2 y3)]) x0 x1 x2 x3 x4 x5 x6 x7 x8 := (yaB _ _ _ _ _ _ _ _ _ _ _).symm.trans (by kernel_rfl)
theorem zby.l7X.eq (K : Ex → List EV → yaf → Prop) : ∀ (n : Nat) (x0 : Nat) (x1 : Nat → Int) (x2 : Nat) (x3 : Nat → Int) (x4 : Nat) (x5 : Int) (x6 : Int) (x7 : Nat) (x8 : Nat → Int), yas E_zby (yaa Tryz.f176 0) (LV.mk 80 [(0, 80)] 48 0 true) 0 285 K n [EV.rsI .u32 x0 x1, EV.rsI .u32 x2 x3, EV.slice 0 0 x4 none 1, EV.int .u64 x5, EV.int .i64 x6] [some (EV.arr .u32 x7 x8)] = zby.l7 (fun y0 y1 y2 y3 => K (.exit 0) [EV.slice 0 0 y0 none 1, EV.int .u64 y1] [some (EV.arr .u32 y2 y3)]) n x0 x1 x2 x3 x4 x5 x6 x7 x8
 | 0, _, _, _, _, _, _, _, _, _ => rfl
 | n + 1, x0, x1, x2, x3, x4, x5, x6, x7, x8 => by
  have ih : (fun (x0 : Nat) (x1 : Nat → Int) (x2 : Nat) (x3 : Nat → Int) (x4 : Nat) (x5 : Int) (x6 : Int) (x7 : Nat) (x8 : Nat → Int) => yas E_zby (yaa Tryz.f176 0) (LV.mk 80 [(0, 80)] 48 0 true) 0 285 K n [EV.rsI .u32 x0 x1, EV.rsI .u32 x2 x3, EV.slice 0 0 x4 none 1, EV.int .u64 x5, EV.int .i64 x6] [some (EV.arr .u32 x7 x8)]) = zby.l7 (fun y0 y1 y2 y3 => K (.exit 0) [EV.slice 0 0 y0 none 1, EV.int .u64 y1] [some (EV.arr .u32 y2 y3)]) n := by funext x0 x1 x2 x3 x4 x5 x6 x7 x8; exact zby.l7X.eq K n x0 x1 x2 x3 x4 x5 x6 x7 x8
  show yan _ _ _ _ _ (yas E_zby (yaa Tryz.f176 0) (LV.mk 80 [(0, 80)] 48 0 true) 0 285 K n) [EV.rsI .u32 x0 x1, EV.rsI .u32 x2 x3, EV.slice 0 0 x4 none 1, EV.int .u64 x5, EV.int .i64 x6] [some (EV.arr .u32 x7 x8)] K = zby.l7.step (zby.l7 (fun y0 y1 y2 y3 => K (.exit 0) [EV.slice 0 0 y0 none 1, EV.int .u64 y1] [some (EV.arr .u32 y2 y3)]) n) (fun y0 y1 y2 y3 => K (.exit 0) [EV.slice 0 0 y0 none 1, EV.int .u64 y1] [some (EV.arr .u32 y2 y3)]) x0 x1 x2 x3 x4 x5 x6 x7 x8
  rw [← ih]
  exact zby.l7X.stepEq _ K x0 x1 x2 x3 x4 x5 x6 x7 x8
theorem zby.l7X.ok : LoopEq E_zby (yaa Tryz.f176 0) := by
 intro L hL vs H
 have h1 : E_zby.lp (yak (yaa Tryz.f176 0)) = some zby.l7.entry := by kernel_rfl
 have h2 : L = zby.l7.entry := Option.some.inj (hL.symm.trans h1)
 subst h2
 by_cases hx : ∃ (x0 : Nat) (x1 : Nat → Int) (x2 : Nat) (x3 : Nat → Int) (x4 : Nat) (x5 : Int) (x6 : Int) (x7 : Nat) (x8 : Nat → Int), vs = [EV.rsI .u32 x0 x1, EV.rsI .u32 x2 x3, EV.slice 0 0 x4 none 1, EV.int .u64 x5, EV.int .i64 x6] ∧ H = [some (EV.arr .u32 x7 x8)]
 ·obtain ⟨x0, x1, x2, x3, x4, x5, x6, x7, x8, rfl, rfl⟩ := hx
  right; intro K
  exact exists_congr fun n => iff_of_eq (zby.l7X.eq K n x0 x1 x2 x3 x4 x5 x6 x7 x8).symm
 ·left; intro K h
  simp only [zby.l7.entry] at h
  split at h
  ·exact hx ⟨_, _, _, _, _, _, _, _, _, rfl, rfl⟩
  ·exact h
theorem zby.l16X.stepEq (R : List EV → yaf → Prop) (K : Ex → List EV → yaf → Prop) (x0 : Nat) (x1 : Nat → Int) (x2 : Nat) (x3 : Int) (x4 : Nat) (x5 : Nat) (x6 : Nat) (x7 : Nat → Int) (x8 : Nat) (x9 : Nat → Int) (x10 : Nat) (x11 : Nat → Int) : yan (yap E_zby (yaa Tryz.f176 1) { (LV.mk 1808 [(2, 1808)] 48 0 true) with nx := live (.loop (yaa Tryz.f176 1)) (LV.mk 1808 [(2, 1808)] 48 0 true) }) (live (.loop (yaa Tryz.f176 1)) (LV.mk 1808 [(2, 1808)] 48 0 true)) (LV.mk 1808 [(2, 1808)] 48 0 true) 0 285 R [EV.rsI .u32 x0 x1, EV.slice 0 0 x2 none 1, EV.int .i64 x3, EV.slice 1 0 x4 none 1, EV.slice 2 0 x5 none 1] [some (EV.arr .u32 x6 x7), some (EV.arr .u32 x8 x9), some (EV.arr .u32 x10 x11)] K = zby.l16.step (fun x0 x1 x2 x3 x4 x5 x6 x7 x8 x9 x10 x11 => R [EV.rsI .u32 x0 x1, EV.slice 0 0 x2 none 1, EV.int .i64 x3, EV.slice 1 0 x4 none 1, EV.slice 2 0 x5 none 1] [some (EV.arr .u32 x6 x7), some (EV.arr .u32 x8 x9), some (EV.arr .u32 x10 x11)]) (fun y0 y1 y2 y3 y4 y5 y6 y7 y8 y9 => K (.exit 2) [EV.slice 0 0 y0 none 1, EV.int .i64 y1, EV.slice 1 0 y2 none 1, EV.slice 2 0 y3 none 1] [some (EV.arr .u32 y4 y5), some (EV.arr .u32 y6 y7), some (EV.arr .u32 y8 y9)]) x0 x1 x2 x3 x4 x5 x6 x7 x8 x9 x10 x11 := (yaB _ _ _ _ _ _ _ _ _ _ _).symm.trans (by kernel_rfl)
theorem zby.l16X.eq (K : Ex → List EV → yaf → Prop) : ∀ (n : Nat) (x0 : Nat) (x1 : Nat → Int) (x2 : Nat) (x3 : Int) (x4 : Nat) (x5 : Nat) (x6 : Nat) (x7 : Nat → Int) (x8 : Nat) (x9 : Nat → Int) (x10 : Nat) (x11 : Nat → Int), yas E_zby (yaa Tryz.f176 1) (LV.mk 1808 [(2, 1808)] 48 0 true) 0 285 K n [EV.rsI .u32 x0 x1, EV.slice 0 0 x2 none 1, EV.int .i64 x3, EV.slice 1 0 x4 none 1, EV.slice 2 0 x5 none 1] [some (EV.arr .u32 x6 x7), some (EV.arr .u32 x8 x9), some (EV.arr .u32 x10 x11)] = zby.l16 (fun y0 y1 y2 y3 y4 y5 y6 y7 y8 y9 => K (.exit 2) [EV.slice 0 0 y0 none 1, EV.int .i64 y1, EV.slice 1 0 y2 none 1, EV.slice 2 0 y3 none 1] [some (EV.arr .u32 y4 y5), some (EV.arr .u32 y6 y7), some (EV.arr .u32 y8 y9)]) n x0 x1 x2 x3 x4 x5 x6 x7 x8 x9 x10 x11
 | 0, _, _, _, _, _, _, _, _, _, _, _, _ => rfl
 | n + 1, x0, x1, x2, x3, x4, x5, x6, x7, x8, x9, x10, x11 => by
  have ih : (fun (x0 : Nat) (x1 : Nat → Int) (x2 : Nat) (x3 : Int) (x4 : Nat) (x5 : Nat) (x6 : Nat) (x7 : Nat → Int) (x8 : Nat) (x9 : Nat → Int) (x10 : Nat) (x11 : Nat → Int) => yas E_zby (yaa Tryz.f176 1) (LV.mk 1808 [(2, 1808)] 48 0 true) 0 285 K n [EV.rsI .u32 x0 x1, EV.slice 0 0 x2 none 1, EV.int .i64 x3, EV.slice 1 0 x4 none 1, EV.slice 2 0 x5 none 1] [some (EV.arr .u32 x6 x7), some (EV.arr .u32 x8 x9), some (EV.arr .u32 x10 x11)]) = zby.l16 (fun y0 y1 y2 y3 y4 y5 y6 y7 y8 y9 => K (.exit 2) [EV.slice 0 0 y0 none 1, EV.int .i64 y1, EV.slice 1 0 y2 none 1, EV.slice 2 0 y3 none 1] [some (EV.arr .u32 y4 y5), some (EV.arr .u32 y6 y7), some (EV.arr .u32 y8 y9)]) n := by funext x0 x1 x2 x3 x4 x5 x6 x7 x8 x9 x10 x11; exact zby.l16X.eq K n x0 x1 x2 x3 x4 x5 x6 x7 x8 x9 x10 x11
  show yan _ _ _ _ _ (yas E_zby (yaa Tryz.f176 1) (LV.mk 1808 [(2, 1808)] 48 0 true) 0 285 K n) [EV.rsI .u32 x0 x1, EV.slice 0 0 x2 none 1, EV.int .i64 x3, EV.slice 1 0 x4 none 1, EV.slice 2 0 x5 none 1] [some (EV.arr .u32 x6 x7), some (EV.arr .u32 x8 x9), some (EV.arr .u32 x10 x11)] K = zby.l16.step (zby.l16 (fun y0 y1 y2 y3 y4 y5 y6 y7 y8 y9 => K (.exit 2) [EV.slice 0 0 y0 none 1, EV.int .i64 y1, EV.slice 1 0 y2 none 1, EV.slice 2 0 y3 none 1] [some (EV.arr .u32 y4 y5), some (EV.arr .u32 y6 y7), some (EV.arr .u32 y8 y9)]) n) (fun y0 y1 y2 y3 y4 y5 y6 y7 y8 y9 => K (.exit 2) [EV.slice 0 0 y0 none 1, EV.int .i64 y1, EV.slice 1 0 y2 none 1, EV.slice 2 0 y3 none 1] [some (EV.arr .u32 y4 y5), some (EV.arr .u32 y6 y7), some (EV.arr .u32 y8 y9)]) x0 x1 x2 x3 x4 x5 x6 x7 x8 x9 x10 x11
  rw [← ih]
  exact zby.l16X.stepEq _ K x0 x1 x2 x3 x4 x5 x6 x7 x8 x9 x10 x11
theorem zby.l16X.ok : LoopEq E_zby (yaa Tryz.f176 1) := by
 intro L hL vs H
 have h1 : E_zby.lp (yak (yaa Tryz.f176 1)) = some zby.l16.entry := by kernel_rfl
 have h2 : L = zby.l16.entry := Option.some.inj (hL.symm.trans h1)
 subst h2
 by_cases hx : ∃ (x0 : Nat) (x1 : Nat → Int) (x2 : Nat) (x3 : Int) (x4 : Nat) (x5 : Nat) (x6 : Nat) (x7 : Nat → Int) (x8 : Nat) (x9 : Nat → Int) (x10 : Nat) (x11 : Nat → Int), vs = [EV.rsI .u32 x0 x1, EV.slice 0 0 x2 none 1, EV.int .i64 x3, EV.slice 1 0 x4 none 1, EV.slice 2 0 x5 none 1] ∧ H = [some (EV.arr .u32 x6 x7), some (EV.arr .u32 x8 x9), some (EV.arr .u32 x10 x11)]
 ·obtain ⟨x0, x1, x2, x3, x4, x5, x6, x7, x8, x9, x10, x11, rfl, rfl⟩ := hx
  right; intro K
  exact exists_congr fun n => iff_of_eq (zby.l16X.eq K n x0 x1 x2 x3 x4 x5 x6 x7 x8 x9 x10 x11).symm
 ·left; intro K h
  simp only [zby.l16.entry] at h
  split at h
  ·exact hx ⟨_, _, _, _, _, _, _, _, _, _, _, _, rfl, rfl⟩
  ·exact h
theorem zby.l20X.stepEq (R : List EV → yaf → Prop) (K : Ex → List EV → yaf → Prop) (x0 : Nat) (x1 : Int) (x2 : Nat) (x3 : Nat) (x4 : Int) (x5 : Int) (x6 : Nat) (x7 : Nat → Int) (x8 : Nat) (x9 : Nat → Int) (x10 : Nat) (x11 : Nat → Int) : yan (yap E_zby (yaa Tryz.f176 2) { (LV.mk 1296 [(4, 1296)] 48 0 true) with nx := live (.loop (yaa Tryz.f176 2)) (LV.mk 1296 [(4, 1296)] 48 0 true) }) (live (.loop (yaa Tryz.f176 2)) (LV.mk 1296 [(4, 1296)] 48 0 true)) (LV.mk 1296 [(4, 1296)] 48 0 true) 0 285 R [EV.slice 0 0 x0 none 1, EV.int .i64 x1, EV.slice 1 0 x2 none 1, EV.slice 2 0 x3 none 1, EV.int .i64 x4, EV.int .i64 x5] [some (EV.arr .u32 x6 x7), some (EV.arr .u32 x8 x9), some (EV.arr .u32 x10 x11)] K = zby.l20.step (fun x0 x1 x2 x3 x4 x5 x6 x7 x8 x9 x10 x11 => R [EV.slice 0 0 x0 none 1, EV.int .i64 x1, EV.slice 1 0 x2 none 1, EV.slice 2 0 x3 none 1, EV.int .i64 x4, EV.int .i64 x5] [some (EV.arr .u32 x6 x7), some (EV.arr .u32 x8 x9), some (EV.arr .u32 x10 x11)]) (fun y0 y1 y2 y3 y4 y5 y6 => K (.exit 4) [EV.slice 0 0 y0 none 1, EV.int .i64 y1, EV.slice 1 0 y2 none 1] [some (EV.arr .u32 y3 y4), some (EV.arr .u32 y5 y6)]) x0 x1 x2 x3 x4 x5 x6 x7 x8 x9 x10 x11 := (yaB _ _ _ _ _ _ _ _ _ _ _).symm.trans (by kernel_rfl)
theorem zby.l20X.eq (K : Ex → List EV → yaf → Prop) : ∀ (n : Nat) (x0 : Nat) (x1 : Int) (x2 : Nat) (x3 : Nat) (x4 : Int) (x5 : Int) (x6 : Nat) (x7 : Nat → Int) (x8 : Nat) (x9 : Nat → Int) (x10 : Nat) (x11 : Nat → Int), yas E_zby (yaa Tryz.f176 2) (LV.mk 1296 [(4, 1296)] 48 0 true) 0 285 K n [EV.slice 0 0 x0 none 1, EV.int .i64 x1, EV.slice 1 0 x2 none 1, EV.slice 2 0 x3 none 1, EV.int .i64 x4, EV.int .i64 x5] [some (EV.arr .u32 x6 x7), some (EV.arr .u32 x8 x9), some (EV.arr .u32 x10 x11)] = zby.l20 (fun y0 y1 y2 y3 y4 y5 y6 => K (.exit 4) [EV.slice 0 0 y0 none 1, EV.int .i64 y1, EV.slice 1 0 y2 none 1] [some (EV.arr .u32 y3 y4), some (EV.arr .u32 y5 y6)]) n x0 x1 x2 x3 x4 x5 x6 x7 x8 x9 x10 x11
 | 0, _, _, _, _, _, _, _, _, _, _, _, _ => rfl
 | n + 1, x0, x1, x2, x3, x4, x5, x6, x7, x8, x9, x10, x11 => by
  have ih : (fun (x0 : Nat) (x1 : Int) (x2 : Nat) (x3 : Nat) (x4 : Int) (x5 : Int) (x6 : Nat) (x7 : Nat → Int) (x8 : Nat) (x9 : Nat → Int) (x10 : Nat) (x11 : Nat → Int) => yas E_zby (yaa Tryz.f176 2) (LV.mk 1296 [(4, 1296)] 48 0 true) 0 285 K n [EV.slice 0 0 x0 none 1, EV.int .i64 x1, EV.slice 1 0 x2 none 1, EV.slice 2 0 x3 none 1, EV.int .i64 x4, EV.int .i64 x5] [some (EV.arr .u32 x6 x7), some (EV.arr .u32 x8 x9), some (EV.arr .u32 x10 x11)]) = zby.l20 (fun y0 y1 y2 y3 y4 y5 y6 => K (.exit 4) [EV.slice 0 0 y0 none 1, EV.int .i64 y1, EV.slice 1 0 y2 none 1] [some (EV.arr .u32 y3 y4), some (EV.arr .u32 y5 y6)]) n := by funext x0 x1 x2 x3 x4 x5 x6 x7 x8 x9 x10 x11; exact zby.l20X.eq K n x0 x1 x2 x3 x4 x5 x6 x7 x8 x9 x10 x11
  show yan _ _ _ _ _ (yas E_zby (yaa Tryz.f176 2) (LV.mk 1296 [(4, 1296)] 48 0 true) 0 285 K n) [EV.slice 0 0 x0 none 1, EV.int .i64 x1, EV.slice 1 0 x2 none 1, EV.slice 2 0 x3 none 1, EV.int .i64 x4, EV.int .i64 x5] [some (EV.arr .u32 x6 x7), some (EV.arr .u32 x8 x9), some (EV.arr .u32 x10 x11)] K = zby.l20.step (zby.l20 (fun y0 y1 y2 y3 y4 y5 y6 => K (.exit 4) [EV.slice 0 0 y0 none 1, EV.int .i64 y1, EV.slice 1 0 y2 none 1] [some (EV.arr .u32 y3 y4), some (EV.arr .u32 y5 y6)]) n) (fun y0 y1 y2 y3 y4 y5 y6 => K (.exit 4) [EV.slice 0 0 y0 none 1, EV.int .i64 y1, EV.slice 1 0 y2 none 1] [some (EV.arr .u32 y3 y4), some (EV.arr .u32 y5 y6)]) x0 x1 x2 x3 x4 x5 x6 x7 x8 x9 x10 x11
  rw [← ih]
  exact zby.l20X.stepEq _ K x0 x1 x2 x3 x4 x5 x6 x7 x8 x9 x10 x11
theorem zby.l20X.ok : LoopEq E_zby (yaa Tryz.f176 2) := by
 intro L hL vs H
 have h1 : E_zby.lp (yak (yaa Tryz.f176 2)) = some zby.l20.entry := by kernel_rfl
 have h2 : L = zby.l20.entry := Option.some.inj (hL.symm.trans h1)
 subst h2
 by_cases hx : ∃ (x0 : Nat) (x1 : Int) (x2 : Nat) (x3 : Nat) (x4 : Int) (x5 : Int) (x6 : Nat) (x7 : Nat → Int) (x8 : Nat) (x9 : Nat → Int) (x10 : Nat) (x11 : Nat → Int), vs = [EV.slice 0 0 x0 none 1, EV.int .i64 x1, EV.slice 1 0 x2 none 1, EV.slice 2 0 x3 none 1, EV.int .i64 x4, EV.int .i64 x5] ∧ H = [some (EV.arr .u32 x6 x7), some (EV.arr .u32 x8 x9), some (EV.arr .u32 x10 x11)]
 ·obtain ⟨x0, x1, x2, x3, x4, x5, x6, x7, x8, x9, x10, x11, rfl, rfl⟩ := hx
  right; intro K
  exact exists_congr fun n => iff_of_eq (zby.l20X.eq K n x0 x1 x2 x3 x4 x5 x6 x7 x8 x9 x10 x11).symm
 ·left; intro K h
  simp only [zby.l20.entry] at h
  split at h
  ·exact hx ⟨_, _, _, _, _, _, _, _, _, _, _, _, rfl, rfl⟩
  ·exact h
theorem zby.l24X.stepEq (R : List EV → yaf → Prop) (K : Ex → List EV → yaf → Prop) (x0 : Nat) (x1 : Int) (x2 : Nat) (x3 : Nat) (x4 : Int) (x5 : Int) (x6 : Int) (x7 : Int) (x8 : Nat) (x9 : Nat → Int) (x10 : Nat) (x11 : Nat → Int) (x12 : Nat) (x13 : Nat → Int) : yan (yap E_zby (yaa Tryz.f176 3) { (LV.mk 24336 [(6, 24336), (5, 7952), (4, 1296)] 48 0 true) with nx := live (.loop (yaa Tryz.f176 3)) (LV.mk 24336 [(6, 24336), (5, 7952), (4, 1296)] 48 0 true) }) (live (.loop (yaa Tryz.f176 3)) (LV.mk 24336 [(6, 24336), (5, 7952), (4, 1296)] 48 0 true)) (LV.mk 24336 [(6, 24336), (5, 7952), (4, 1296)] 48 0 true) 0 285 R [EV.slice 0 0 x0 none 1, EV.int .i64 x1, EV.slice 1 0 x2 none 1, EV.slice 2 0 x3 none 1, EV.int .i64 x4, EV.int .i64 x5, EV.int .u64 x6, EV.int .u64 x7] [some (EV.arr .u32 x8 x9), some (EV.arr .u32 x10 x11), some (EV.arr .u32 x12 x13)] K = zby.l24.step (fun x0 x1 x2 x3 x4 x5 x6 x7 x8 x9 x10 x11 x12 x13 => R [EV.slice 0 0 x0 none 1, EV.int .i64 x1, EV.slice 1 0 x2 none 1, EV.slice 2 0 x3 none 1, EV.int .i64 x4, EV.int .i64 x5, EV.int .u64 x6, EV.int .u64 x7] [some (EV.arr .u32 x8 x9), some (EV.arr .u32 x10 x11), some (EV.arr .u32 x12 x13)]) (fun y0 y1 y2 y3 y4 y5 y6 y7 y8 y9 y10 y11 y12 => K (.exit 6) [EV.slice 0 0 y0 none 1, EV.int .i64 y1, EV.slice 1 0 y2 none 1, EV.slice 2 0 y3 none 1, EV.int .i64 y4, EV.int .i64 y5, EV.int .u64 y6] [some (EV.arr .u32 y7 y8), some (EV.arr .u32 y9 y10), some (EV.arr .u32 y11 y12)]) x0 x1 x2 x3 x4 x5 x6 x7 x8 x9 x10 x11 x12 x13 := (yaB _ _ _ _ _ _ _ _ _ _ _).symm.trans (by kernel_rfl)
theorem zby.l24X.eq (K : Ex → List EV → yaf → Prop) : ∀ (n : Nat) (x0 : Nat) (x1 : Int) (x2 : Nat) (x3 : Nat) (x4 : Int) (x5 : Int) (x6 : Int) (x7 : Int) (x8 : Nat) (x9 : Nat → Int) (x10 : Nat) (x11 : Nat → Int) (x12 : Nat) (x13 : Nat → Int), yas E_zby (yaa Tryz.f176 3) (LV.mk 24336 [(6, 24336), (5, 7952), (4, 1296)] 48 0 true) 0 285 K n [EV.slice 0 0 x0 none 1, EV.int .i64 x1, EV.slice 1 0 x2 none 1, EV.slice 2 0 x3 none 1, EV.int .i64 x4, EV.int .i64 x5, EV.int .u64 x6, EV.int .u64 x7] [some (EV.arr .u32 x8 x9), some (EV.arr .u32 x10 x11), some (EV.arr .u32 x12 x13)] = zby.l24 (fun y0 y1 y2 y3 y4 y5 y6 y7 y8 y9 y10 y11 y12 => K (.exit 6) [EV.slice 0 0 y0 none 1, EV.int .i64 y1, EV.slice 1 0 y2 none 1, EV.slice 2 0 y3 none 1, EV.int .i64 y4, EV.int .i64 y5, EV.int .u64 y6] [some (EV.arr .u32 y7 y8), some (EV.arr .u32 y9 y10), some (EV.arr .u32 y11 y12)]) n x0 x1 x2 x3 x4 x5 x6 x7 x8 x9 x10 x11 x12 x13
 | 0, _, _, _, _, _, _, _, _, _, _, _, _, _, _ => rfl
 | n + 1, x0, x1, x2, x3, x4, x5, x6, x7, x8, x9, x10, x11, x12, x13 => by
  have ih : (fun (x0 : Nat) (x1 : Int) (x2 : Nat) (x3 : Nat) (x4 : Int) (x5 : Int) (x6 : Int) (x7 : Int) (x8 : Nat) (x9 : Nat → Int) (x10 : Nat) (x11 : Nat → Int) (x12 : Nat) (x13 : Nat → Int) => yas E_zby (yaa Tryz.f176 3) (LV.mk 24336 [(6, 24336), (5, 7952), (4, 1296)] 48 0 true) 0 285 K n [EV.slice 0 0 x0 none 1, EV.int .i64 x1, EV.slice 1 0 x2 none 1, EV.slice 2 0 x3 none 1, EV.int .i64 x4, EV.int .i64 x5, EV.int .u64 x6, EV.int .u64 x7] [some (EV.arr .u32 x8 x9), some (EV.arr .u32 x10 x11), some (EV.arr .u32 x12 x13)]) = zby.l24 (fun y0 y1 y2 y3 y4 y5 y6 y7 y8 y9 y10 y11 y12 => K (.exit 6) [EV.slice 0 0 y0 none 1, EV.int .i64 y1, EV.slice 1 0 y2 none 1, EV.slice 2 0 y3 none 1, EV.int .i64 y4, EV.int .i64 y5, EV.int .u64 y6] [some (EV.arr .u32 y7 y8), some (EV.arr .u32 y9 y10), some (EV.arr .u32 y11 y12)]) n := by funext x0 x1 x2 x3 x4 x5 x6 x7 x8 x9 x10 x11 x12 x13; exact zby.l24X.eq K n x0 x1 x2 x3 x4 x5 x6 x7 x8 x9 x10 x11 x12 x13
  show yan _ _ _ _ _ (yas E_zby (yaa Tryz.f176 3) (LV.mk 24336 [(6, 24336), (5, 7952), (4, 1296)] 48 0 true) 0 285 K n) [EV.slice 0 0 x0 none 1, EV.int .i64 x1, EV.slice 1 0 x2 none 1, EV.slice 2 0 x3 none 1, EV.int .i64 x4, EV.int .i64 x5, EV.int .u64 x6, EV.int .u64 x7] [some (EV.arr .u32 x8 x9), some (EV.arr .u32 x10 x11), some (EV.arr .u32 x12 x13)] K = zby.l24.step (zby.l24 (fun y0 y1 y2 y3 y4 y5 y6 y7 y8 y9 y10 y11 y12 => K (.exit 6) [EV.slice 0 0 y0 none 1, EV.int .i64 y1, EV.slice 1 0 y2 none 1, EV.slice 2 0 y3 none 1, EV.int .i64 y4, EV.int .i64 y5, EV.int .u64 y6] [some (EV.arr .u32 y7 y8), some (EV.arr .u32 y9 y10), some (EV.arr .u32 y11 y12)]) n) (fun y0 y1 y2 y3 y4 y5 y6 y7 y8 y9 y10 y11 y12 => K (.exit 6) [EV.slice 0 0 y0 none 1, EV.int .i64 y1, EV.slice 1 0 y2 none 1, EV.slice 2 0 y3 none 1, EV.int .i64 y4, EV.int .i64 y5, EV.int .u64 y6] [some (EV.arr .u32 y7 y8), some (EV.arr .u32 y9 y10), some (EV.arr .u32 y11 y12)]) x0 x1 x2 x3 x4 x5 x6 x7 x8 x9 x10 x11 x12 x13
  rw [← ih]
  exact zby.l24X.stepEq _ K x0 x1 x2 x3 x4 x5 x6 x7 x8 x9 x10 x11 x12 x13
theorem zby.l24X.ok : LoopEq E_zby (yaa Tryz.f176 3) := by
 intro L hL vs H
 have h1 : E_zby.lp (yak (yaa Tryz.f176 3)) = some zby.l24.entry := by kernel_rfl
 have h2 : L = zby.l24.entry := Option.some.inj (hL.symm.trans h1)
 subst h2
 by_cases hx : ∃ (x0 : Nat) (x1 : Int) (x2 : Nat) (x3 : Nat) (x4 : Int) (x5 : Int) (x6 : Int) (x7 : Int) (x8 : Nat) (x9 : Nat → Int) (x10 : Nat) (x11 : Nat → Int) (x12 : Nat) (x13 : Nat → Int), vs = [EV.slice 0 0 x0 none 1, EV.int .i64 x1, EV.slice 1 0 x2 none 1, EV.slice 2 0 x3 none 1, EV.int .i64 x4, EV.int .i64 x5, EV.int .u64 x6, EV.int .u64 x7] ∧ H = [some (EV.arr .u32 x8 x9), some (EV.arr .u32 x10 x11), some (EV.arr .u32 x12 x13)]
 ·obtain ⟨x0, x1, x2, x3, x4, x5, x6, x7, x8, x9, x10, x11, x12, x13, rfl, rfl⟩ := hx
  right; intro K
  exact exists_congr fun n => iff_of_eq (zby.l24X.eq K n x0 x1 x2 x3 x4 x5 x6 x7 x8 x9 x10 x11 x12 x13).symm
 ·left; intro K h
  simp only [zby.l24.entry] at h
  split at h
  ·exact hx ⟨_, _, _, _, _, _, _, _, _, _, _, _, _, _, rfl, rfl⟩
  ·exact h
theorem zby.l31X.stepEq (R : List EV → yaf → Prop) (K : Ex → List EV → yaf → Prop) (x0 : Nat) (x1 : Int) (x2 : Nat) (x3 : Nat) (x4 : Int) (x5 : Int) (x6 : Int) (x7 : Int) (x8 : Int) (x9 : Int) (x10 : Int) (x11 : Nat) (x12 : Nat → Int) (x13 : Nat) (x14 : Nat → Int) (x15 : Nat) (x16 : Nat → Int) : yan (yap E_zby (yaa Tryz.f176 4) { (LV.mk 220944 [(8, 220944), (5, 7952), (4, 1296)] 48 0 true) with nx := live (.loop (yaa Tryz.f176 4)) (LV.mk 220944 [(8, 220944), (5, 7952), (4, 1296)] 48 0 true) }) (live (.loop (yaa Tryz.f176 4)) (LV.mk 220944 [(8, 220944), (5, 7952), (4, 1296)] 48 0 true)) (LV.mk 220944 [(8, 220944), (5, 7952), (4, 1296)] 48 0 true) 0 285 R [EV.slice 0 0 x0 none 1, EV.int .i64 x1, EV.slice 1 0 x2 none 1, EV.slice 2 0 x3 none 1, EV.int .i64 x4, EV.int .i64 x5, EV.int .u64 x6, EV.int .u64 x7, EV.int .i64 x8, EV.int .i64 x9, EV.int .i64 x10] [some (EV.arr .u32 x11 x12), some (EV.arr .u32 x13 x14), some (EV.arr .u32 x15 x16)] K = zby.l31.step (fun x0 x1 x2 x3 x4 x5 x6 x7 x8 x9 x10 x11 x12 x13 x14 x15 x16 => R [EV.slice 0 0 x0 none 1, EV.int .i64 x1, EV.slice 1 0 x2 none 1, EV.slice 2 0 x3 none 1, EV.int .i64 x4, EV.int .i64 x5, EV.int .u64 x6, EV.int .u64 x7, EV.int .i64 x8, EV.int .i64 x9, EV.int .i64 x10] [some (EV.arr .u32 x11 x12), some (EV.arr .u32 x13 x14), some (EV.arr .u32 x15 x16)]) (fun y0 y1 y2 y3 y4 y5 y6 y7 y8 y9 y10 y11 y12 y13 y14 => K (.exit 8) [EV.slice 0 0 y0 none 1, EV.int .i64 y1, EV.slice 1 0 y2 none 1, EV.slice 2 0 y3 none 1, EV.int .i64 y4, EV.int .i64 y5, EV.int .u64 y6, EV.int .u64 y7, EV.int .i64 y8] [some (EV.arr .u32 y9 y10), some (EV.arr .u32 y11 y12), some (EV.arr .u32 y13 y14)]) x0 x1 x2 x3 x4 x5 x6 x7 x8 x9 x10 x11 x12 x13 x14 x15 x16 := (yaB _ _ _ _ _ _ _ _ _ _ _).symm.trans (by kernel_rfl)
theorem zby.l31X.eq (K : Ex → List EV → yaf → Prop) : ∀ (n : Nat) (x0 : Nat) (x1 : Int) (x2 : Nat) (x3 : Nat) (x4 : Int) (x5 : Int) (x6 : Int) (x7 : Int) (x8 : Int) (x9 : Int) (x10 : Int) (x11 : Nat) (x12 : Nat → Int) (x13 : Nat) (x14 : Nat → Int) (x15 : Nat) (x16 : Nat → Int), yas E_zby (yaa Tryz.f176 4) (LV.mk 220944 [(8, 220944), (5, 7952), (4, 1296)] 48 0 true) 0 285 K n [EV.slice 0 0 x0 none 1, EV.int .i64 x1, EV.slice 1 0 x2 none 1, EV.slice 2 0 x3 none 1, EV.int .i64 x4, EV.int .i64 x5, EV.int .u64 x6, EV.int .u64 x7, EV.int .i64 x8, EV.int .i64 x9, EV.int .i64 x10] [some (EV.arr .u32 x11 x12), some (EV.arr .u32 x13 x14), some (EV.arr .u32 x15 x16)] = zby.l31 (fun y0 y1 y2 y3 y4 y5 y6 y7 y8 y9 y10 y11 y12 y13 y14 => K (.exit 8) [EV.slice 0 0 y0 none 1, EV.int .i64 y1, EV.slice 1 0 y2 none 1, EV.slice 2 0 y3 none 1, EV.int .i64 y4, EV.int .i64 y5, EV.int .u64 y6, EV.int .u64 y7, EV.int .i64 y8] [some (EV.arr .u32 y9 y10), some (EV.arr .u32 y11 y12), some (EV.arr .u32 y13 y14)]) n x0 x1 x2 x3 x4 x5 x6 x7 x8 x9 x10 x11 x12 x13 x14 x15 x16
 | 0, _, _, _, _, _, _, _, _, _, _, _, _, _, _, _, _, _ => rfl
 | n + 1, x0, x1, x2, x3, x4, x5, x6, x7, x8, x9, x10, x11, x12, x13, x14, x15, x16 => by
  have ih : (fun (x0 : Nat) (x1 : Int) (x2 : Nat) (x3 : Nat) (x4 : Int) (x5 : Int) (x6 : Int) (x7 : Int) (x8 : Int) (x9 : Int) (x10 : Int) (x11 : Nat) (x12 : Nat → Int) (x13 : Nat) (x14 : Nat → Int) (x15 : Nat) (x16 : Nat → Int) => yas E_zby (yaa Tryz.f176 4) (LV.mk 220944 [(8, 220944), (5, 7952), (4, 1296)] 48 0 true) 0 285 K n [EV.slice 0 0 x0 none 1, EV.int .i64 x1, EV.slice 1 0 x2 none 1, EV.slice 2 0 x3 none 1, EV.int .i64 x4, EV.int .i64 x5, EV.int .u64 x6, EV.int .u64 x7, EV.int .i64 x8, EV.int .i64 x9, EV.int .i64 x10] [some (EV.arr .u32 x11 x12), some (EV.arr .u32 x13 x14), some (EV.arr .u32 x15 x16)]) = zby.l31 (fun y0 y1 y2 y3 y4 y5 y6 y7 y8 y9 y10 y11 y12 y13 y14 => K (.exit 8) [EV.slice 0 0 y0 none 1, EV.int .i64 y1, EV.slice 1 0 y2 none 1, EV.slice 2 0 y3 none 1, EV.int .i64 y4, EV.int .i64 y5, EV.int .u64 y6, EV.int .u64 y7, EV.int .i64 y8] [some (EV.arr .u32 y9 y10), some (EV.arr .u32 y11 y12), some (EV.arr .u32 y13 y14)]) n := by funext x0 x1 x2 x3 x4 x5 x6 x7 x8 x9 x10 x11 x12 x13 x14 x15 x16; exact zby.l31X.eq K n x0 x1 x2 x3 x4 x5 x6 x7 x8 x9 x10 x11 x12 x13 x14 x15 x16
  show yan _ _ _ _ _ (yas E_zby (yaa Tryz.f176 4) (LV.mk 220944 [(8, 220944), (5, 7952), (4, 1296)] 48 0 true) 0 285 K n) [EV.slice 0 0 x0 none 1, EV.int .i64 x1, EV.slice 1 0 x2 none 1, EV.slice 2 0 x3 none 1, EV.int .i64 x4, EV.int .i64 x5, EV.int .u64 x6, EV.int .u64 x7, EV.int .i64 x8, EV.int .i64 x9, EV.int .i64 x10] [some (EV.arr .u32 x11 x12), some (EV.arr .u32 x13 x14), some (EV.arr .u32 x15 x16)] K = zby.l31.step (zby.l31 (fun y0 y1 y2 y3 y4 y5 y6 y7 y8 y9 y10 y11 y12 y13 y14 => K (.exit 8) [EV.slice 0 0 y0 none 1, EV.int .i64 y1, EV.slice 1 0 y2 none 1, EV.slice 2 0 y3 none 1, EV.int .i64 y4, EV.int .i64 y5, EV.int .u64 y6, EV.int .u64 y7, EV.int .i64 y8] [some (EV.arr .u32 y9 y10), some (EV.arr .u32 y11 y12), some (EV.arr .u32 y13 y14)]) n) (fun y0 y1 y2 y3 y4 y5 y6 y7 y8 y9 y10 y11 y12 y13 y14 => K (.exit 8) [EV.slice 0 0 y0 none 1, EV.int .i64 y1, EV.slice 1 0 y2 none 1, EV.slice 2 0 y3 none 1, EV.int .i64 y4, EV.int .i64 y5, EV.int .u64 y6, EV.int .u64 y7, EV.int .i64 y8] [some (EV.arr .u32 y9 y10), some (EV.arr .u32 y11 y12), some (EV.arr .u32 y13 y14)]) x0 x1 x2 x3 x4 x5 x6 x7 x8 x9 x10 x11 x12 x13 x14 x15 x16
  rw [← ih]
  exact zby.l31X.stepEq _ K x0 x1 x2 x3 x4 x5 x6 x7 x8 x9 x10 x11 x12 x13 x14 x15 x16
theorem zby.l31X.ok : LoopEq E_zby (yaa Tryz.f176 4) := by
 intro L hL vs H
 have h1 : E_zby.lp (yak (yaa Tryz.f176 4)) = some zby.l31.entry := by kernel_rfl
 have h2 : L = zby.l31.entry := Option.some.inj (hL.symm.trans h1)
 subst h2
 by_cases hx : ∃ (x0 : Nat) (x1 : Int) (x2 : Nat) (x3 : Nat) (x4 : Int) (x5 : Int) (x6 : Int) (x7 : Int) (x8 : Int) (x9 : Int) (x10 : Int) (x11 : Nat) (x12 : Nat → Int) (x13 : Nat) (x14 : Nat → Int) (x15 : Nat) (x16 : Nat → Int), vs = [EV.slice 0 0 x0 none 1, EV.int .i64 x1, EV.slice 1 0 x2 none 1, EV.slice 2 0 x3 none 1, EV.int .i64 x4, EV.int .i64 x5, EV.int .u64 x6, EV.int .u64 x7, EV.int .i64 x8, EV.int .i64 x9, EV.int .i64 x10] ∧ H = [some (EV.arr .u32 x11 x12), some (EV.arr .u32 x13 x14), some (EV.arr .u32 x15 x16)]
 ·obtain ⟨x0, x1, x2, x3, x4, x5, x6, x7, x8, x9, x10, x11, x12, x13, x14, x15, x16, rfl, rfl⟩ := hx
  right; intro K
  exact exists_congr fun n => iff_of_eq (zby.l31X.eq K n x0 x1 x2 x3 x4 x5 x6 x7 x8 x9 x10 x11 x12 x13 x14 x15 x16).symm
 ·left; intro K h
  simp only [zby.l31.entry] at h
  split at h
  ·exact hx ⟨_, _, _, _, _, _, _, _, _, _, _, _, _, _, _, _, _, rfl, rfl⟩
  ·exact h
theorem zby.l45X.stepEq (R : List EV → yaf → Prop) (K : Ex → List EV → yaf → Prop) (x0 : Nat) (x1 : Int) (x2 : Nat) (x3 : Nat) (x4 : Int) (x5 : Int) (x6 : Int) (x7 : Int) (x8 : Int) (x9 : Int) (x10 : Nat) (x11 : Nat → Int) (x12 : Nat) (x13 : Nat → Int) (x14 : Nat) (x15 : Nat → Int) : yan (yap E_zby (yaa Tryz.f176 5) { (LV.mk 89872 [(10, 89872), (5, 7952), (4, 1296)] 48 0 true) with nx := live (.loop (yaa Tryz.f176 5)) (LV.mk 89872 [(10, 89872), (5, 7952), (4, 1296)] 48 0 true) }) (live (.loop (yaa Tryz.f176 5)) (LV.mk 89872 [(10, 89872), (5, 7952), (4, 1296)] 48 0 true)) (LV.mk 89872 [(10, 89872), (5, 7952), (4, 1296)] 48 0 true) 0 285 R [EV.slice 0 0 x0 none 1, EV.int .i64 x1, EV.slice 1 0 x2 none 1, EV.slice 2 0 x3 none 1, EV.int .i64 x4, EV.int .i64 x5, EV.int .u64 x6, EV.int .u64 x7, EV.int .i64 x8, EV.int .i64 x9] [some (EV.arr .u32 x10 x11), some (EV.arr .u32 x12 x13), some (EV.arr .u32 x14 x15)] K = zby.l45.step (fun x0 x1 x2 x3 x4 x5 x6 x7 x8 x9 x10 x11 x12 x13 x14 x15 => R [EV.slice 0 0 x0 none 1, EV.int .i64 x1, EV.slice 1 0 x2 none 1, EV.slice 2 0 x3 none 1, EV.int .i64 x4, EV.int .i64 x5, EV.int .u64 x6, EV.int .u64 x7, EV.int .i64 x8, EV.int .i64 x9] [some (EV.arr .u32 x10 x11), some (EV.arr .u32 x12 x13), some (EV.arr .u32 x14 x15)]) (fun y0 y1 y2 y3 y4 y5 y6 y7 y8 y9 y10 y11 y12 y13 => K (.exit 10) [EV.slice 0 0 y0 none 1, EV.int .i64 y1, EV.slice 1 0 y2 none 1, EV.slice 2 0 y3 none 1, EV.int .i64 y4, EV.int .i64 y5, EV.int .u64 y6, EV.int .u64 y7] [some (EV.arr .u32 y8 y9), some (EV.arr .u32 y10 y11), some (EV.arr .u32 y12 y13)]) x0 x1 x2 x3 x4 x5 x6 x7 x8 x9 x10 x11 x12 x13 x14 x15 := (yaB _ _ _ _ _ _ _ _ _ _ _).symm.trans (by kernel_rfl)
theorem zby.l45X.eq (K : Ex → List EV → yaf → Prop) : ∀ (n : Nat) (x0 : Nat) (x1 : Int) (x2 : Nat) (x3 : Nat) (x4 : Int) (x5 : Int) (x6 : Int) (x7 : Int) (x8 : Int) (x9 : Int) (x10 : Nat) (x11 : Nat → Int) (x12 : Nat) (x13 : Nat → Int) (x14 : Nat) (x15 : Nat → Int), yas E_zby (yaa Tryz.f176 5) (LV.mk 89872 [(10, 89872), (5, 7952), (4, 1296)] 48 0 true) 0 285 K n [EV.slice 0 0 x0 none 1, EV.int .i64 x1, EV.slice 1 0 x2 none 1, EV.slice 2 0 x3 none 1, EV.int .i64 x4, EV.int .i64 x5, EV.int .u64 x6, EV.int .u64 x7, EV.int .i64 x8, EV.int .i64 x9] [some (EV.arr .u32 x10 x11), some (EV.arr .u32 x12 x13), some (EV.arr .u32 x14 x15)] = zby.l45 (fun y0 y1 y2 y3 y4 y5 y6 y7 y8 y9 y10 y11 y12 y13 => K (.exit 10) [EV.slice 0 0 y0 none 1, EV.int .i64 y1, EV.slice 1 0 y2 none 1, EV.slice 2 0 y3 none 1, EV.int .i64 y4, EV.int .i64 y5, EV.int .u64 y6, EV.int .u64 y7] [some (EV.arr .u32 y8 y9), some (EV.arr .u32 y10 y11), some (EV.arr .u32 y12 y13)]) n x0 x1 x2 x3 x4 x5 x6 x7 x8 x9 x10 x11 x12 x13 x14 x15
 | 0, _, _, _, _, _, _, _, _, _, _, _, _, _, _, _, _ => rfl
 | n + 1, x0, x1, x2, x3, x4, x5, x6, x7, x8, x9, x10, x11, x12, x13, x14, x15 => by
  have ih : (fun (x0 : Nat) (x1 : Int) (x2 : Nat) (x3 : Nat) (x4 : Int) (x5 : Int) (x6 : Int) (x7 : Int) (x8 : Int) (x9 : Int) (x10 : Nat) (x11 : Nat → Int) (x12 : Nat) (x13 : Nat → Int) (x14 : Nat) (x15 : Nat → Int) => yas E_zby (yaa Tryz.f176 5) (LV.mk 89872 [(10, 89872), (5, 7952), (4, 1296)] 48 0 true) 0 285 K n [EV.slice 0 0 x0 none 1, EV.int .i64 x1, EV.slice 1 0 x2 none 1, EV.slice 2 0 x3 none 1, EV.int .i64 x4, EV.int .i64 x5, EV.int .u64 x6, EV.int .u64 x7, EV.int .i64 x8, EV.int .i64 x9] [some (EV.arr .u32 x10 x11), some (EV.arr .u32 x12 x13), some (EV.arr .u32 x14 x15)]) = zby.l45 (fun y0 y1 y2 y3 y4 y5 y6 y7 y8 y9 y10 y11 y12 y13 => K (.exit 10) [EV.slice 0 0 y0 none 1, EV.int .i64 y1, EV.slice 1 0 y2 none 1, EV.slice 2 0 y3 none 1, EV.int .i64 y4, EV.int .i64 y5, EV.int .u64 y6, EV.int .u64 y7] [some (EV.arr .u32 y8 y9), some (EV.arr .u32 y10 y11), some (EV.arr .u32 y12 y13)]) n := by funext x0 x1 x2 x3 x4 x5 x6 x7 x8 x9 x10 x11 x12 x13 x14 x15; exact zby.l45X.eq K n x0 x1 x2 x3 x4 x5 x6 x7 x8 x9 x10 x11 x12 x13 x14 x15
  show yan _ _ _ _ _ (yas E_zby (yaa Tryz.f176 5) (LV.mk 89872 [(10, 89872), (5, 7952), (4, 1296)] 48 0 true) 0 285 K n) [EV.slice 0 0 x0 none 1, EV.int .i64 x1, EV.slice 1 0 x2 none 1, EV.slice 2 0 x3 none 1, EV.int .i64 x4, EV.int .i64 x5, EV.int .u64 x6, EV.int .u64 x7, EV.int .i64 x8, EV.int .i64 x9] [some (EV.arr .u32 x10 x11), some (EV.arr .u32 x12 x13), some (EV.arr .u32 x14 x15)] K = zby.l45.step (zby.l45 (fun y0 y1 y2 y3 y4 y5 y6 y7 y8 y9 y10 y11 y12 y13 => K (.exit 10) [EV.slice 0 0 y0 none 1, EV.int .i64 y1, EV.slice 1 0 y2 none 1, EV.slice 2 0 y3 none 1, EV.int .i64 y4, EV.int .i64 y5, EV.int .u64 y6, EV.int .u64 y7] [some (EV.arr .u32 y8 y9), some (EV.arr .u32 y10 y11), some (EV.arr .u32 y12 y13)]) n) (fun y0 y1 y2 y3 y4 y5 y6 y7 y8 y9 y10 y11 y12 y13 => K (.exit 10) [EV.slice 0 0 y0 none 1, EV.int .i64 y1, EV.slice 1 0 y2 none 1, EV.slice 2 0 y3 none 1, EV.int .i64 y4, EV.int .i64 y5, EV.int .u64 y6, EV.int .u64 y7] [some (EV.arr .u32 y8 y9), some (EV.arr .u32 y10 y11), some (EV.arr .u32 y12 y13)]) x0 x1 x2 x3 x4 x5 x6 x7 x8 x9 x10 x11 x12 x13 x14 x15
  rw [← ih]
  exact zby.l45X.stepEq _ K x0 x1 x2 x3 x4 x5 x6 x7 x8 x9 x10 x11 x12 x13 x14 x15
theorem zby.l45X.ok : LoopEq E_zby (yaa Tryz.f176 5) := by
 intro L hL vs H
 have h1 : E_zby.lp (yak (yaa Tryz.f176 5)) = some zby.l45.entry := by kernel_rfl
 have h2 : L = zby.l45.entry := Option.some.inj (hL.symm.trans h1)
 subst h2
 by_cases hx : ∃ (x0 : Nat) (x1 : Int) (x2 : Nat) (x3 : Nat) (x4 : Int) (x5 : Int) (x6 : Int) (x7 : Int) (x8 : Int) (x9 : Int) (x10 : Nat) (x11 : Nat → Int) (x12 : Nat) (x13 : Nat → Int) (x14 : Nat) (x15 : Nat → Int), vs = [EV.slice 0 0 x0 none 1, EV.int .i64 x1, EV.slice 1 0 x2 none 1, EV.slice 2 0 x3 none 1, EV.int .i64 x4, EV.int .i64 x5, EV.int .u64 x6, EV.int .u64 x7, EV.int .i64 x8, EV.int .i64 x9] ∧ H = [some (EV.arr .u32 x10 x11), some (EV.arr .u32 x12 x13), some (EV.arr .u32 x14 x15)]
 ·obtain ⟨x0, x1, x2, x3, x4, x5, x6, x7, x8, x9, x10, x11, x12, x13, x14, x15, rfl, rfl⟩ := hx
  right; intro K
  exact exists_congr fun n => iff_of_eq (zby.l45X.eq K n x0 x1 x2 x3 x4 x5 x6 x7 x8 x9 x10 x11 x12 x13 x14 x15).symm
 ·left; intro K h
  simp only [zby.l45.entry] at h
  split at h
  ·exact hx ⟨_, _, _, _, _, _, _, _, _, _, _, _, _, _, _, _, rfl, rfl⟩
  ·exact h
theorem X_zby.eq (a0n : Nat) (a0 : Nat → Int) (a1n : Nat) (a1 : Nat → Int) (K : EV → yaf → Prop) : yaZ E_zby Tryz.f176 false [.rsI .u32 a0n a0, .rsI .u32 a1n a1] [] K = zby a0n a0 a1n a1 (fun y0 y1 y2 y3 => K (EV.tuple [EV.rsI .u32 y0 y1, EV.rsI .u32 y2 y3]) []) := by
 rw [zby.is]; exact (yag _ _ _ _ _ _).symm.trans (by kernel_rfl)
theorem X_zby.ok : SoundE Tryz.prog gl 176 e_zby := by
 refine ya8 (E := E_zby) (fn := Tryz.f176) rfl tys_ok rfl (show ya4 _ l_zby from ⟨X_zdo.ok, X_zbw.ok, X_nat_cut.ok, X_nat_upN.ok, X_zbs.ok, trivial⟩) mixed (by kernel_rfl) (by kernel_rfl) (by kernel_rfl) 6 (by kernel_rfl) false ⟨zby.l7X.ok, zby.l16X.ok, zby.l20X.ok, zby.l24X.ok, zby.l31X.ok, zby.l45X.ok, trivial⟩ ?_
 intro args H
 by_cases hx : ∃ (a0n : Nat) (a0 : Nat → Int) (a1n : Nat) (a1 : Nat → Int), args = [.rsI .u32 a0n a0, .rsI .u32 a1n a1] ∧ H = []
 ·obtain ⟨a0n, a0, a1n, a1, rfl, rfl⟩ := hx
  right; intro K
  exact iff_of_eq (X_zby.eq a0n a0 a1n a1 K).symm
 ·left; intro K h
  simp only [e_zby] at h
  split at h
  ·exact hx ⟨_, _, _, _, rfl, rfl⟩
  ·exact h
end Go.Ev.S
