/- The functions of the seat: that the evaluator has them as they are. -/
import Derived.Test.YtfglhfahphncdaaGreatDoorProg
import Derived.Test.YtfglhfahphncdaaGreatDoorEvC
import Derived.Test.YtfglhfahphncdaaGreatDoorDA
import Derived.Test.YtfglhfahphncdaaGreatDoorLA
import Derived.KernelRfl
set_option maxRecDepth 100000
set_option linter.unusedVariables false
set_option linter.unusedSimpArgs false
namespace Go.Ev.S
open Go Go.Proofs Go.Ev
def tys : List (Nat × TI) := [
 (1, ⟨.func, 1, 8, .nilFunc⟩),
 (2, ⟨.int .i64, 1, 8, .int .i64 0⟩),
 (3, ⟨.int .i64, 1, 8, .int .i64 0⟩),
 (4, ⟨.bool, 1, 1, .bool false⟩),
 (5, ⟨.int .u8, 1, 1, .int .u8 0⟩),
 (6, ⟨.int .u8, 1, 1, .int .u8 0⟩),
 (7, ⟨.struct [(0, 2), (1, 3), (2, 4), (3, 6)], 4, 24, .agg [.int .i64 0, .int .i64 0, .bool false, .int .u8 0]⟩),
 (8, ⟨.struct [(0, 2), (1, 3), (2, 4), (3, 6)], 4, 24, .agg [.int .i64 0, .int .i64 0, .bool false, .int .u8 0]⟩),
 (9, ⟨.str, 1, 16, .str []⟩),
 (10, ⟨.str, 1, 16, .str []⟩),
 (11, ⟨.str, 1, 16, .str []⟩),
 (12, ⟨.int .u64, 1, 8, .int .u64 0⟩),
 (15, ⟨.ptr, 1, 8, .nilPtr⟩),
 (16, ⟨.ptr, 1, 8, .nilPtr⟩),
 (17, ⟨.ptr, 1, 8, .nilPtr⟩),
 (20, ⟨.iface, 1, 16, .nilIface⟩),
 (21, ⟨.int .i32, 1, 4, .int .i32 0⟩),
 (22, ⟨.int .u8, 1, 1, .int .u8 0⟩),
 (23, ⟨.int .u8, 1, 1, .int .u8 0⟩),
 (24, ⟨.int .u64, 1, 8, .int .u64 0⟩),
 (25, ⟨.array 6 24, 6, 48, .arr .u64 6 (fun _ => 0)⟩),
 (26, ⟨.array 6 24, 6, 48, .arr .u64 6 (fun _ => 0)⟩),
 (27, ⟨.struct [(0, 4), (1, 26), (7, 3), (8, 4)], 9, 72, .agg [.bool false, .arr .u64 6 (fun _ => 0), .int .i64 0, .bool false]⟩),
 (28, ⟨.struct [(0, 4), (1, 26), (7, 3), (8, 4)], 9, 72, .agg [.bool false, .arr .u64 6 (fun _ => 0), .int .i64 0, .bool false]⟩),
 (29, ⟨.struct [(0, 24), (1, 24)], 2, 16, .agg [.int .u64 0, .int .u64 0]⟩),
 (30, ⟨.struct [(0, 24), (1, 24)], 2, 16, .agg [.int .u64 0, .int .u64 0]⟩),
 (31, ⟨.int .u8, 1, 1, .int .u8 0⟩),
 (32, ⟨.int .i64, 1, 8, .int .i64 0⟩),
 (34, ⟨.func, 1, 8, .nilFunc⟩),
 (36, ⟨.func, 1, 8, .nilFunc⟩),
 (37, ⟨.func, 1, 8, .nilFunc⟩),
 (38, ⟨.func, 1, 8, .nilFunc⟩),
 (39, ⟨.str, 1, 16, .str []⟩),
 (40, ⟨.struct [(0, 4), (1, 39), (2, 39), (3, 3)], 4, 48, .agg [.bool false, .str [], .str [], .int .i64 0]⟩),
 (41, ⟨.struct [(0, 4), (1, 39), (2, 39), (3, 3)], 4, 48, .agg [.bool false, .str [], .str [], .int .i64 0]⟩),
 (43, ⟨.func, 1, 8, .nilFunc⟩),
 (44, ⟨.func, 1, 8, .nilFunc⟩),
 (46, ⟨.func, 1, 8, .nilFunc⟩),
 (48, ⟨.func, 1, 8, .nilFunc⟩),
 (49, ⟨.func, 1, 8, .nilFunc⟩),
 (50, ⟨.func, 1, 8, .nilFunc⟩),
 (52, ⟨.func, 1, 8, .nilFunc⟩),
 (53, ⟨.func, 1, 8, .nilFunc⟩),
 (54, ⟨.func, 1, 8, .nilFunc⟩),
 (55, ⟨.func, 1, 8, .nilFunc⟩),
 (57, ⟨.func, 1, 8, .nilFunc⟩),
 (58, ⟨.func, 1, 8, .nilFunc⟩),
 (59, ⟨.func, 1, 8, .nilFunc⟩),
 (60, ⟨.func, 1, 8, .nilFunc⟩),
 (61, ⟨.func, 1, 8, .nilFunc⟩),
 (62, ⟨.func, 1, 8, .nilFunc⟩),
 (63, ⟨.func, 1, 8, .nilFunc⟩),
 (65, ⟨.func, 1, 8, .nilFunc⟩),
 (66, ⟨.func, 1, 8, .nilFunc⟩),
 (68, ⟨.func, 1, 8, .nilFunc⟩),
 (70, ⟨.func, 1, 8, .nilFunc⟩),
 (71, ⟨.func, 1, 8, .nilFunc⟩),
 (72, ⟨.int .u8, 1, 1, .int .u8 0⟩),
 (73, ⟨.struct [(0, 72), (1, 26), (7, 3), (8, 26)], 14, 112, .agg [.int .u8 0, .arr .u64 6 (fun _ => 0), .int .i64 0, .arr .u64 6 (fun _ => 0)]⟩),
 (74, ⟨.struct [(0, 72), (1, 26), (7, 3), (8, 26)], 14, 112, .agg [.int .u8 0, .arr .u64 6 (fun _ => 0), .int .i64 0, .arr .u64 6 (fun _ => 0)]⟩),
 (76, ⟨.func, 1, 8, .nilFunc⟩),
 (77, ⟨.func, 1, 8, .nilFunc⟩),
 (78, ⟨.func, 1, 8, .nilFunc⟩),
 (79, ⟨.func, 1, 8, .nilFunc⟩),
 (80, ⟨.func, 1, 8, .nilFunc⟩),
 (81, ⟨.func, 1, 8, .nilFunc⟩),
 (82, ⟨.func, 1, 8, .nilFunc⟩),
 (83, ⟨.func, 1, 8, .nilFunc⟩),
 (85, ⟨.func, 1, 8, .nilFunc⟩),
 (86, ⟨.func, 1, 8, .nilFunc⟩),
 (87, ⟨.func, 1, 8, .nilFunc⟩),
 (88, ⟨.func, 1, 8, .nilFunc⟩),
 (89, ⟨.func, 1, 8, .nilFunc⟩),
 (90, ⟨.func, 1, 8, .nilFunc⟩),
 (92, ⟨.func, 1, 8, .nilFunc⟩),
 (93, ⟨.func, 1, 8, .nilFunc⟩),
 (94, ⟨.func, 1, 8, .nilFunc⟩),
 (95, ⟨.func, 1, 8, .nilFunc⟩),
 (96, ⟨.func, 1, 8, .nilFunc⟩),
 (98, ⟨.func, 1, 8, .nilFunc⟩),
 (99, ⟨.func, 1, 8, .nilFunc⟩),
 (100, ⟨.func, 1, 8, .nilFunc⟩),
 (102, ⟨.func, 1, 8, .nilFunc⟩),
 (104, ⟨.func, 1, 8, .nilFunc⟩),
 (105, ⟨.func, 1, 8, .nilFunc⟩),
 (106, ⟨.func, 1, 8, .nilFunc⟩),
 (107, ⟨.func, 1, 8, .nilFunc⟩),
 (108, ⟨.func, 1, 8, .nilFunc⟩),
 (109, ⟨.func, 1, 8, .nilFunc⟩),
 (110, ⟨.func, 1, 8, .nilFunc⟩),
 (111, ⟨.func, 1, 8, .nilFunc⟩),
 (112, ⟨.func, 1, 8, .nilFunc⟩),
 (114, ⟨.func, 1, 8, .nilFunc⟩),
 (116, ⟨.func, 1, 8, .nilFunc⟩),
 (117, ⟨.func, 1, 8, .nilFunc⟩),
 (118, ⟨.func, 1, 8, .nilFunc⟩),
 (119, ⟨.slice 5, 1, 24, .nilSlice⟩),
 (120, ⟨.func, 1, 8, .nilFunc⟩),
 (121, ⟨.int .u64, 1, 8, .int .u64 0⟩),
 (122, ⟨.func, 1, 8, .nilFunc⟩),
 (123, ⟨.func, 1, 8, .nilFunc⟩),
 (124, ⟨.func, 1, 8, .nilFunc⟩),
 (126, ⟨.func, 1, 8, .nilFunc⟩),
 (127, ⟨.func, 1, 8, .nilFunc⟩),
 (128, ⟨.func, 1, 8, .nilFunc⟩),
 (129, ⟨.struct [(0, 41), (4, 4)], 5, 56, .agg [.agg [.bool false, .str [], .str [], .int .i64 0], .bool false]⟩),
 (130, ⟨.struct [(0, 41), (4, 4)], 5, 56, .agg [.agg [.bool false, .str [], .str [], .int .i64 0], .bool false]⟩),
 (131, ⟨.func, 1, 8, .nilFunc⟩),
 (132, ⟨.func, 1, 8, .nilFunc⟩),
 (133, ⟨.func, 1, 8, .nilFunc⟩),
 (135, ⟨.func, 1, 8, .nilFunc⟩),
 (136, ⟨.func, 1, 8, .nilFunc⟩),
 (137, ⟨.func, 1, 8, .nilFunc⟩),
 (139, ⟨.func, 1, 8, .nilFunc⟩),
 (140, ⟨.func, 1, 8, .nilFunc⟩),
 (141, ⟨.func, 1, 8, .nilFunc⟩),
 (142, ⟨.func, 1, 8, .nilFunc⟩),
 (144, ⟨.func, 1, 8, .nilFunc⟩),
 (145, ⟨.func, 1, 8, .nilFunc⟩),
 (146, ⟨.func, 1, 8, .nilFunc⟩),
 (148, ⟨.func, 1, 8, .nilFunc⟩),
 (149, ⟨.func, 1, 8, .nilFunc⟩),
 (151, ⟨.func, 1, 8, .nilFunc⟩),
 (152, ⟨.func, 1, 8, .nilFunc⟩),
 (153, ⟨.func, 1, 8, .nilFunc⟩),
 (154, ⟨.func, 1, 8, .nilFunc⟩),
 (155, ⟨.func, 1, 8, .nilFunc⟩),
 (157, ⟨.func, 1, 8, .nilFunc⟩),
 (159, ⟨.func, 1, 8, .nilFunc⟩),
 (160, ⟨.slice 161, 1, 24, .nilSlice⟩),
 (161, ⟨.int .u32, 1, 4, .int .u32 0⟩),
 (162, ⟨.func, 1, 8, .nilFunc⟩),
 (163, ⟨.func, 1, 8, .nilFunc⟩),
 (164, ⟨.func, 1, 8, .nilFunc⟩),
 (165, ⟨.func, 1, 8, .nilFunc⟩),
 (166, ⟨.func, 1, 8, .nilFunc⟩),
 (167, ⟨.func, 1, 8, .nilFunc⟩),
 (168, ⟨.func, 1, 8, .nilFunc⟩),
 (169, ⟨.func, 1, 8, .nilFunc⟩),
 (170, ⟨.func, 1, 8, .nilFunc⟩),
 (172, ⟨.func, 1, 8, .nilFunc⟩),
 (173, ⟨.func, 1, 8, .nilFunc⟩),
 (175, ⟨.func, 1, 8, .nilFunc⟩),
 (177, ⟨.func, 1, 8, .nilFunc⟩),
 (179, ⟨.func, 1, 8, .nilFunc⟩),
 (180, ⟨.iface, 1, 16, .nilIface⟩),
 (181, ⟨.iface, 1, 16, .nilIface⟩),
 (183, ⟨.func, 1, 8, .nilFunc⟩),
 (184, ⟨.func, 1, 8, .nilFunc⟩),
 (186, ⟨.func, 1, 8, .nilFunc⟩),
 (188, ⟨.func, 1, 8, .nilFunc⟩),
 (189, ⟨.func, 1, 8, .nilFunc⟩),
 (190, ⟨.func, 1, 8, .nilFunc⟩),
 (191, ⟨.struct [(0, 3), (1, 3), (2, 3), (3, 9)], 4, 40, .agg [.int .i64 0, .int .i64 0, .int .i64 0, .str []]⟩),
 (192, ⟨.array 4 191, 16, 160, .agg [.agg [.int .i64 0, .int .i64 0, .int .i64 0, .str []], .agg [.int .i64 0, .int .i64 0, .int .i64 0, .str []], .agg [.int .i64 0, .int .i64 0, .int .i64 0, .str []], .agg [.int .i64 0, .int .i64 0, .int .i64 0, .str []]]⟩),
 (193, ⟨.func, 1, 8, .nilFunc⟩),
 (194, ⟨.func, 1, 8, .nilFunc⟩),
 (195, ⟨.func, 1, 8, .nilFunc⟩),
 (196, ⟨.func, 1, 8, .nilFunc⟩),
 (197, ⟨.struct [(0, 9), (1, 3), (2, 3), (3, 4)], 4, 40, .agg [.str [], .int .i64 0, .int .i64 0, .bool false]⟩),
 (198, ⟨.struct [(0, 9), (1, 3), (2, 3), (3, 4)], 4, 40, .agg [.str [], .int .i64 0, .int .i64 0, .bool false]⟩),
 (199, ⟨.func, 1, 8, .nilFunc⟩),
 (200, ⟨.func, 1, 8, .nilFunc⟩),
 (201, ⟨.func, 1, 8, .nilFunc⟩),
 (202, ⟨.func, 1, 8, .nilFunc⟩),
 (203, ⟨.func, 1, 8, .nilFunc⟩),
 (205, ⟨.func, 1, 8, .nilFunc⟩),
 (206, ⟨.func, 1, 8, .nilFunc⟩),
 (207, ⟨.func, 1, 8, .nilFunc⟩),
 (208, ⟨.func, 1, 8, .nilFunc⟩),
 (209, ⟨.func, 1, 8, .nilFunc⟩),
 (210, ⟨.func, 1, 8, .nilFunc⟩),
 (211, ⟨.func, 1, 8, .nilFunc⟩),
 (212, ⟨.func, 1, 8, .nilFunc⟩),
 (213, ⟨.func, 1, 8, .nilFunc⟩),
 (214, ⟨.func, 1, 8, .nilFunc⟩),
 (216, ⟨.func, 1, 8, .nilFunc⟩),
 (217, ⟨.func, 1, 8, .nilFunc⟩),
 (218, ⟨.func, 1, 8, .nilFunc⟩),
 (219, ⟨.func, 1, 8, .nilFunc⟩),
 (220, ⟨.func, 1, 8, .nilFunc⟩),
 (221, ⟨.array 24 5, 24, 24, .arr .u8 24 (fun _ => 0)⟩),
 (222, ⟨.func, 1, 8, .nilFunc⟩),
 (224, ⟨.func, 1, 8, .nilFunc⟩),
 (225, ⟨.func, 1, 8, .nilFunc⟩),
 (226, ⟨.int .i64, 1, 8, .int .i64 0⟩),
 (228, ⟨.func, 1, 8, .nilFunc⟩),
 (229, ⟨.ptr, 1, 8, .nilPtr⟩),
 (230, ⟨.func, 1, 8, .nilFunc⟩),
 (231, ⟨.func, 1, 8, .nilFunc⟩),
 (232, ⟨.array 64 5, 64, 64, .arr .u8 64 (fun _ => 0)⟩),
 (233, ⟨.func, 1, 8, .nilFunc⟩),
 (234, ⟨.func, 1, 8, .nilFunc⟩),
 (235, ⟨.array 20 24, 20, 160, .arr .u64 20 (fun _ => 0)⟩),
 (236, ⟨.array 65 5, 65, 65, .arr .u8 65 (fun _ => 0)⟩),
 (237, ⟨.func, 1, 8, .nilFunc⟩),
 (239, ⟨.func, 1, 8, .nilFunc⟩),
 (240, ⟨.func, 1, 8, .nilFunc⟩),
 (243, ⟨.func, 1, 8, .nilFunc⟩),
 (244, ⟨.func, 1, 8, .nilFunc⟩),
 (246, ⟨.func, 1, 8, .nilFunc⟩),
 (247, ⟨.func, 1, 8, .nilFunc⟩),
 (248, ⟨.ptr, 1, 8, .nilPtr⟩),
 (249, ⟨.ptr, 1, 8, .nilPtr⟩),
 (250, ⟨.struct [(0, 9)], 1, 16, .agg [.str []]⟩),
 (251, ⟨.struct [(0, 9)], 1, 16, .agg [.str []]⟩),
 (252, ⟨.array 32 5, 32, 32, .arr .u8 32 (fun _ => 0)⟩),
 (253, ⟨.func, 1, 8, .nilFunc⟩),
 (256, ⟨.array 0 16, 0, 0, .agg []⟩),
 (259, ⟨.int .u8, 1, 1, .int .u8 0⟩),
 (260, ⟨.int .u8, 1, 1, .int .u8 0⟩),
 (261, ⟨.func, 1, 8, .nilFunc⟩),
 (262, ⟨.int .i32, 1, 4, .int .i32 0⟩),
 (263, ⟨.int .i32, 1, 4, .int .i32 0⟩)]
theorem tys_ok : yaZ (OkTI Tryz.prog) tys :=
 ⟨.of (by kernel_rfl) (by kernel_rfl), .of (by kernel_rfl) (by kernel_rfl), .of (by kernel_rfl) (by kernel_rfl), .of (by kernel_rfl) (by kernel_rfl), .of (by kernel_rfl) (by kernel_rfl), .of (by kernel_rfl) (by kernel_rfl), .of (by kernel_rfl) (by kernel_rfl), .of (by kernel_rfl) (by kernel_rfl), .of (by kernel_rfl) (by kernel_rfl), .of (by kernel_rfl) (by kernel_rfl), .of (by kernel_rfl) (by kernel_rfl), .of (by kernel_rfl) (by kernel_rfl), .of (by kernel_rfl) (by kernel_rfl), .of (by kernel_rfl) (by kernel_rfl), .of (by kernel_rfl) (by kernel_rfl), .of (by kernel_rfl) (by kernel_rfl), .of (by kernel_rfl) (by kernel_rfl), .of (by kernel_rfl) (by kernel_rfl), .of (by kernel_rfl) (by kernel_rfl), .of (by kernel_rfl) (by kernel_rfl), .of (by kernel_rfl) (by kernel_rfl), .of (by kernel_rfl) (by kernel_rfl), .of (by kernel_rfl) (by kernel_rfl), .of (by kernel_rfl) (by kernel_rfl), .of (by kernel_rfl) (by kernel_rfl), .of (by kernel_rfl) (by kernel_rfl), .of (by kernel_rfl) (by kernel_rfl), .of (by kernel_rfl) (by kernel_rfl), .of (by kernel_rfl) (by kernel_rfl), .of (by kernel_rfl) (by kernel_rfl), .of (by kernel_rfl) (by kernel_rfl), .of (by kernel_rfl) (by kernel_rfl), .of (by kernel_rfl) (by kernel_rfl), .of (by kernel_rfl) (by kernel_rfl), .of (by kernel_rfl) (by kernel_rfl), .of (by kernel_rfl) (by kernel_rfl), .of (by kernel_rfl) (by kernel_rfl), .of (by kernel_rfl) (by kernel_rfl), .of (by kernel_rfl) (by kernel_rfl), .of (by kernel_rfl) (by kernel_rfl), .of (by kernel_rfl) (by kernel_rfl), .of (by kernel_rfl) (by kernel_rfl), .of (by kernel_rfl) (by kernel_rfl), .of (by kernel_rfl) (by kernel_rfl), .of (by kernel_rfl) (by kernel_rfl), .of (by kernel_rfl) (by kernel_rfl), .of (by kernel_rfl) (by kernel_rfl), .of (by kernel_rfl) (by kernel_rfl), .of (by kernel_rfl) (by kernel_rfl), .of (by kernel_rfl) (by kernel_rfl), .of (by kernel_rfl) (by kernel_rfl), .of (by kernel_rfl) (by kernel_rfl), .of (by kernel_rfl) (by kernel_rfl), .of (by kernel_rfl) (by kernel_rfl), .of (by kernel_rfl) (by kernel_rfl), .of (by kernel_rfl) (by kernel_rfl), .of (by kernel_rfl) (by kernel_rfl), .of (by kernel_rfl) (by kernel_rfl), .of (by kernel_rfl) (by kernel_rfl), .of (by kernel_rfl) (by kernel_rfl), .of (by kernel_rfl) (by kernel_rfl), .of (by kernel_rfl) (by kernel_rfl), .of (by kernel_rfl) (by kernel_rfl), .of (by kernel_rfl) (by kernel_rfl), .of (by kernel_rfl) (by kernel_rfl), .of (by kernel_rfl) (by kernel_rfl), .of (by kernel_rfl) (by kernel_rfl), .of (by kernel_rfl) (by kernel_rfl), .of (by kernel_rfl) (by kernel_rfl), .of (by kernel_rfl) (by kernel_rfl), .of (by kernel_rfl) (by kernel_rfl), .of (by kernel_rfl) (by kernel_rfl), .of (by kernel_rfl) (by kernel_rfl), .of (by kernel_rfl) (by kernel_rfl), .of (by kernel_rfl) (by kernel_rfl), .of (by kernel_rfl) (by kernel_rfl), .of (by kernel_rfl) (by kernel_rfl), .of (by kernel_rfl) (by kernel_rfl), .of (by kernel_rfl) (by kernel_rfl), .of (by kernel_rfl) (by kernel_rfl), .of (by kernel_rfl) (by kernel_rfl), .of (by kernel_rfl) (by kernel_rfl), .of (by kernel_rfl) (by kernel_rfl), .of (by kernel_rfl) (by kernel_rfl), .of (by kernel_rfl) (by kernel_rfl), .of (by kernel_rfl) (by kernel_rfl), .of (by kernel_rfl) (by kernel_rfl), .of (by kernel_rfl) (by kernel_rfl), .of (by kernel_rfl) (by kernel_rfl), .of (by kernel_rfl) (by kernel_rfl), .of (by kernel_rfl) (by kernel_rfl), .of (by kernel_rfl) (by kernel_rfl), .of (by kernel_rfl) (by kernel_rfl), .of (by kernel_rfl) (by kernel_rfl), .of (by kernel_rfl) (by kernel_rfl), .of (by kernel_rfl) (by kernel_rfl), .of (by kernel_rfl) (by kernel_rfl), .of (by kernel_rfl) (by kernel_rfl), .of (by kernel_rfl) (by kernel_rfl), .of (by kernel_rfl) (by kernel_rfl), .of (by kernel_rfl) (by kernel_rfl), .of (by kernel_rfl) (by kernel_rfl), .of (by kernel_rfl) (by kernel_rfl), .of (by kernel_rfl) (by kernel_rfl), .of (by kernel_rfl) (by kernel_rfl), .of (by kernel_rfl) (by kernel_rfl), .of (by kernel_rfl) (by kernel_rfl), .of (by kernel_rfl) (by kernel_rfl), .of (by kernel_rfl) (by kernel_rfl), .of (by kernel_rfl) (by kernel_rfl), .of (by kernel_rfl) (by kernel_rfl), .of (by kernel_rfl) (by kernel_rfl), .of (by kernel_rfl) (by kernel_rfl), .of (by kernel_rfl) (by kernel_rfl), .of (by kernel_rfl) (by kernel_rfl), .of (by kernel_rfl) (by kernel_rfl), .of (by kernel_rfl) (by kernel_rfl), .of (by kernel_rfl) (by kernel_rfl), .of (by kernel_rfl) (by kernel_rfl), .of (by kernel_rfl) (by kernel_rfl), .of (by kernel_rfl) (by kernel_rfl), .of (by kernel_rfl) (by kernel_rfl), .of (by kernel_rfl) (by kernel_rfl), .of (by kernel_rfl) (by kernel_rfl), .of (by kernel_rfl) (by kernel_rfl), .of (by kernel_rfl) (by kernel_rfl), .of (by kernel_rfl) (by kernel_rfl), .of (by kernel_rfl) (by kernel_rfl), .of (by kernel_rfl) (by kernel_rfl), .of (by kernel_rfl) (by kernel_rfl), .of (by kernel_rfl) (by kernel_rfl), .of (by kernel_rfl) (by kernel_rfl), .of (by kernel_rfl) (by kernel_rfl), .of (by kernel_rfl) (by kernel_rfl), .of (by kernel_rfl) (by kernel_rfl), .of (by kernel_rfl) (by kernel_rfl), .of (by kernel_rfl) (by kernel_rfl), .of (by kernel_rfl) (by kernel_rfl), .of (by kernel_rfl) (by kernel_rfl), .of (by kernel_rfl) (by kernel_rfl), .of (by kernel_rfl) (by kernel_rfl), .of (by kernel_rfl) (by kernel_rfl), .of (by kernel_rfl) (by kernel_rfl), .of (by kernel_rfl) (by kernel_rfl), .of (by kernel_rfl) (by kernel_rfl), .of (by kernel_rfl) (by kernel_rfl), .of (by kernel_rfl) (by kernel_rfl), .of (by kernel_rfl) (by kernel_rfl), .of (by kernel_rfl) (by kernel_rfl), .of (by kernel_rfl) (by kernel_rfl), .of (by kernel_rfl) (by kernel_rfl), .of (by kernel_rfl) (by kernel_rfl), .of (by kernel_rfl) (by kernel_rfl), .of (by kernel_rfl) (by kernel_rfl), .of (by kernel_rfl) (by kernel_rfl), .of (by kernel_rfl) (by kernel_rfl), .of (by kernel_rfl) (by kernel_rfl), .of (by kernel_rfl) (by kernel_rfl), .of (by kernel_rfl) (by kernel_rfl), .of (by kernel_rfl) (by kernel_rfl), .of (by kernel_rfl) (by kernel_rfl), .of (by kernel_rfl) (by kernel_rfl), .of (by kernel_rfl) (by kernel_rfl), .of (by kernel_rfl) (by kernel_rfl), .of (by kernel_rfl) (by kernel_rfl), .of (by kernel_rfl) (by kernel_rfl), .of (by kernel_rfl) (by kernel_rfl), .of (by kernel_rfl) (by kernel_rfl), .of (by kernel_rfl) (by kernel_rfl), .of (by kernel_rfl) (by kernel_rfl), .of (by kernel_rfl) (by kernel_rfl), .of (by kernel_rfl) (by kernel_rfl), .of (by kernel_rfl) (by kernel_rfl), .of (by kernel_rfl) (by kernel_rfl), .of (by kernel_rfl) (by kernel_rfl), .of (by kernel_rfl) (by kernel_rfl), .of (by kernel_rfl) (by kernel_rfl), .of (by kernel_rfl) (by kernel_rfl), .of (by kernel_rfl) (by kernel_rfl), .of (by kernel_rfl) (by kernel_rfl), .of (by kernel_rfl) (by kernel_rfl), .of (by kernel_rfl) (by kernel_rfl), .of (by kernel_rfl) (by kernel_rfl), .of (by kernel_rfl) (by kernel_rfl), .of (by kernel_rfl) (by kernel_rfl), .of (by kernel_rfl) (by kernel_rfl), .of (by kernel_rfl) (by kernel_rfl), .of (by kernel_rfl) (by kernel_rfl), .of (by kernel_rfl) (by kernel_rfl), .of (by kernel_rfl) (by kernel_rfl), .of (by kernel_rfl) (by kernel_rfl), .of (by kernel_rfl) (by kernel_rfl), .of (by kernel_rfl) (by kernel_rfl), .of (by kernel_rfl) (by kernel_rfl), .of (by kernel_rfl) (by kernel_rfl), .of (by kernel_rfl) (by kernel_rfl), .of (by kernel_rfl) (by kernel_rfl), .of (by kernel_rfl) (by kernel_rfl), .of (by kernel_rfl) (by kernel_rfl), .of (by kernel_rfl) (by kernel_rfl), .of (by kernel_rfl) (by kernel_rfl), .of (by kernel_rfl) (by kernel_rfl), .of (by kernel_rfl) (by kernel_rfl), .of (by kernel_rfl) (by kernel_rfl), .of (by kernel_rfl) (by kernel_rfl), .of (by kernel_rfl) (by kernel_rfl), .of (by kernel_rfl) (by kernel_rfl), .of (by kernel_rfl) (by kernel_rfl), .of (by kernel_rfl) (by kernel_rfl), .of (by kernel_rfl) (by kernel_rfl), .of (by kernel_rfl) (by kernel_rfl), .of (by kernel_rfl) (by kernel_rfl), .of (by kernel_rfl) (by kernel_rfl), .of (by kernel_rfl) (by kernel_rfl), trivial⟩
theorem mixed : Tryz.prog.follows .mixedOrders = true := by kernel_rfl
noncomputable def gl : Nat → Option EV := look [(0, .arr .u8 64 ya9), (1, .arr .u64 20 ygQ), (3, .iface 249 (.rref (.str [105, 110, 118, 97, 108, 105, 100, 32, 115, 121, 110, 116, 97, 120]))), (4, .iface 249 (.rref (.str [118, 97, 108, 117, 101, 32, 111, 117, 116, 32, 111, 102, 32, 114, 97, 110, 103, 101])))]
noncomputable def e_zcb : yan := ⟨[none], false, fun args H K => match args, H with
 | [.int .u8 a0], [] => zcb a0 (fun y0 => K (EV.bool y0) [])
 | _, _ => False⟩
noncomputable def E_zcb : Env := ⟨look tys, look [], look [], gl, yaq [], false⟩
theorem X_zcb.eq (a0 : Int) (K : EV → yaf → Prop) : yaV E_zcb Tryz.f16 false [.int .u8 a0] [] K = zcb a0 (fun y0 => K (EV.bool y0) []) := by
 rw [zcb.is]; exact (yag _ _ _ _ _ _).symm.trans (by kernel_rfl)
theorem X_zcb.ok : SoundE Tryz.prog gl 16 e_zcb := by
 refine ya3 (E := E_zcb) (fn := Tryz.f16) rfl tys_ok rfl (show yaZ _ [] from trivial) mixed (by kernel_rfl) (by kernel_rfl) (by kernel_rfl) 0 (by kernel_rfl) false trivial ?_
 intro args H
 by_cases hx : ∃ (a0 : Int), args = [.int .u8 a0] ∧ H = []
 ·obtain ⟨a0, rfl, rfl⟩ := hx
  right; intro K
  exact iff_of_eq (X_zcb.eq a0 K).symm
 ·left; intro K h
  simp only [e_zcb] at h
  split at h
  ·exact hx ⟨_, rfl, rfl⟩
  ·exact h
noncomputable def e_zaz : yan := ⟨[none, none], false, fun args H K => match args, H with
 | [.int .u64 a0, .int .i64 a1], [] => zaz a0 a1 (fun y0 => K (EV.bool y0) [])
 | _, _ => False⟩
noncomputable def E_zaz : Env := ⟨look tys, look [], look [], gl, yaq [], false⟩
theorem X_zaz.eq (a0 : Int) (a1 : Int) (K : EV → yaf → Prop) : yaV E_zaz Tryz.f185 false [.int .u64 a0, .int .i64 a1] [] K = zaz a0 a1 (fun y0 => K (EV.bool y0) []) := by
 rw [zaz.is]; exact (yag _ _ _ _ _ _).symm.trans (by kernel_rfl)
theorem X_zaz.ok : SoundE Tryz.prog gl 185 e_zaz := by
 refine ya3 (E := E_zaz) (fn := Tryz.f185) rfl tys_ok rfl (show yaZ _ [] from trivial) mixed (by kernel_rfl) (by kernel_rfl) (by kernel_rfl) 0 (by kernel_rfl) false trivial ?_
 intro args H
 by_cases hx : ∃ (a0 : Int) (a1 : Int), args = [.int .u64 a0, .int .i64 a1] ∧ H = []
 ·obtain ⟨a0, a1, rfl, rfl⟩ := hx
  right; intro K
  exact iff_of_eq (X_zaz.eq a0 a1 K).symm
 ·left; intro K h
  simp only [e_zaz] at h
  split at h
  ·exact hx ⟨_, _, rfl, rfl⟩
  ·exact h
noncomputable def e_zba : yan := ⟨[none], false, fun args H K => match args, H with
 | [.int .u64 a0], [] => zba a0 (fun y0 => K (EV.int IntKind.i64 y0) [])
 | _, _ => False⟩
noncomputable def l_zba : List (Nat × yan) := [(185, e_zaz)]
noncomputable def E_zba : Env := ⟨look tys, look l_zba, look [(3, zba.l3.entry)], gl, yaq [], false⟩
theorem zba.l3X.stepEq (R : List EV → yaf → Prop) (K : Ex → List EV → yaf → Prop) (x0 : Int) (x1 : Int) (x2 : Int) : yao (yap E_zba (yab Tryz.f138 0) { (LV.mk 8 [(0, 8)] 4 0 false) with nx := live (.loop (yab Tryz.f138 0)) (LV.mk 8 [(0, 8)] 4 0 false) }) (live (.loop (yab Tryz.f138 0)) (LV.mk 8 [(0, 8)] 4 0 false)) (LV.mk 8 [(0, 8)] 4 0 false) 0 15 R [EV.int IntKind.u64 x0, EV.int IntKind.i64 x1, EV.int IntKind.i64 x2] [] K = zba.l3.step (fun x0 x1 x2 => R [EV.int IntKind.u64 x0, EV.int IntKind.i64 x1, EV.int IntKind.i64 x2] []) (fun y0 => K (.exit 0) [EV.int IntKind.i64 y0] []) x0 x1 x2 := (yaI _ _ _ _ _ _ _ _ _ _ _).symm.trans (by kernel_rfl)
theorem zba.l3X.eq (K : Ex → List EV → yaf → Prop) : ∀ (n : Nat) (x0 : Int) (x1 : Int) (x2 : Int), yaC E_zba (yab Tryz.f138 0) (LV.mk 8 [(0, 8)] 4 0 false) 0 15 K n [EV.int IntKind.u64 x0, EV.int IntKind.i64 x1, EV.int IntKind.i64 x2] [] = zba.l3 (fun y0 => K (.exit 0) [EV.int IntKind.i64 y0] []) n x0 x1 x2
 | 0, _, _, _ => rfl
 | n + 1, x0, x1, x2 => by
  have ih : (fun (x0 : Int) (x1 : Int) (x2 : Int) => yaC E_zba (yab Tryz.f138 0) (LV.mk 8 [(0, 8)] 4 0 false) 0 15 K n [EV.int IntKind.u64 x0, EV.int IntKind.i64 x1, EV.int IntKind.i64 x2] []) = zba.l3 (fun y0 => K (.exit 0) [EV.int IntKind.i64 y0] []) n := by funext x0 x1 x2; exact zba.l3X.eq K n x0 x1 x2
  show yao _ _ _ _ _ (yaC E_zba (yab Tryz.f138 0) (LV.mk 8 [(0, 8)] 4 0 false) 0 15 K n) [EV.int IntKind.u64 x0, EV.int IntKind.i64 x1, EV.int IntKind.i64 x2] [] K = zba.l3.step (zba.l3 (fun y0 => K (.exit 0) [EV.int IntKind.i64 y0] []) n) (fun y0 => K (.exit 0) [EV.int IntKind.i64 y0] []) x0 x1 x2
  rw [← ih]
  exact zba.l3X.stepEq _ K x0 x1 x2
theorem zba.l3X.ok : LoopEq E_zba (yab Tryz.f138 0) := by
 intro L hL vs H
 have h1 : E_zba.lp (yal (yab Tryz.f138 0)) = some zba.l3.entry := by kernel_rfl
 have h2 : L = zba.l3.entry := Option.some.inj (hL.symm.trans h1)
 subst h2
 by_cases hx : ∃ (x0 : Int) (x1 : Int) (x2 : Int), vs = [EV.int IntKind.u64 x0, EV.int IntKind.i64 x1, EV.int IntKind.i64 x2] ∧ H = []
 ·obtain ⟨x0, x1, x2, rfl, rfl⟩ := hx
  right; intro K
  exact exists_congr fun n => iff_of_eq (zba.l3X.eq K n x0 x1 x2).symm
 ·left; intro K h
  simp only [zba.l3.entry] at h
  split at h
  ·exact hx ⟨_, _, _, rfl, rfl⟩
  ·exact h
theorem X_zba.eq (a0 : Int) (K : EV → yaf → Prop) : yaV E_zba Tryz.f138 false [.int .u64 a0] [] K = zba a0 (fun y0 => K (EV.int IntKind.i64 y0) []) := by
 rw [zba.is]; exact (yag _ _ _ _ _ _).symm.trans (by kernel_rfl)
theorem X_zba.ok : SoundE Tryz.prog gl 138 e_zba := by
 refine ya3 (E := E_zba) (fn := Tryz.f138) rfl tys_ok rfl (show yaZ _ l_zba from ⟨X_zaz.ok, trivial⟩) mixed (by kernel_rfl) (by kernel_rfl) (by kernel_rfl) 1 (by kernel_rfl) false ⟨zba.l3X.ok, trivial⟩ ?_
 intro args H
 by_cases hx : ∃ (a0 : Int), args = [.int .u64 a0] ∧ H = []
 ·obtain ⟨a0, rfl, rfl⟩ := hx
  right; intro K
  exact iff_of_eq (X_zba.eq a0 K).symm
 ·left; intro K h
  simp only [e_zba] at h
  split at h
  ·exact hx ⟨_, rfl, rfl⟩
  ·exact h
noncomputable def e_zbh : yan := ⟨[none], false, fun args H K => match args, H with
 | [.arr .u64 6 a0], [] => zbh a0 (fun y0 => K (EV.int IntKind.i64 y0) [])
 | _, _ => False⟩
noncomputable def l_zbh : List (Nat × yan) := [(138, e_zba)]
noncomputable def E_zbh : Env := ⟨look tys, look l_zbh, look [(2, zbh.l2.entry)], gl, yaq [], false⟩
theorem zbh.l2X.stepEq (R : List EV → yaf → Prop) (K : Ex → List EV → yaf → Prop) (x0 : Int) (x1 : Nat → Int) : yao (yap E_zbh (yab Tryz.f76 0) { (LV.mk 0 [(0, 0)] 4 0 false) with nx := live (.loop (yab Tryz.f76 0)) (LV.mk 0 [(0, 0)] 4 0 false) }) (live (.loop (yab Tryz.f76 0)) (LV.mk 0 [(0, 0)] 4 0 false)) (LV.mk 0 [(0, 0)] 4 0 false) 0 19 R [EV.ptr 0 [], EV.int IntKind.i64 x0] [some (EV.arr IntKind.u64 6 x1)] K = zbh.l2.step (fun x0 x1 => R [EV.ptr 0 [], EV.int IntKind.i64 x0] [some (EV.arr IntKind.u64 6 x1)]) (fun y0 => K .ret [EV.int IntKind.i64 y0] []) (K (.exit 0) [] []) x0 x1 := (yaI _ _ _ _ _ _ _ _ _ _ _).symm.trans (by kernel_rfl)
theorem zbh.l2X.eq (K : Ex → List EV → yaf → Prop) : ∀ (n : Nat) (x0 : Int) (x1 : Nat → Int), yaC E_zbh (yab Tryz.f76 0) (LV.mk 0 [(0, 0)] 4 0 false) 0 19 K n [EV.ptr 0 [], EV.int IntKind.i64 x0] [some (EV.arr IntKind.u64 6 x1)] = zbh.l2 (fun y0 => K .ret [EV.int IntKind.i64 y0] []) (K (.exit 0) [] []) n x0 x1
 | 0, _, _ => rfl
 | n + 1, x0, x1 => by
  have ih : (fun (x0 : Int) (x1 : Nat → Int) => yaC E_zbh (yab Tryz.f76 0) (LV.mk 0 [(0, 0)] 4 0 false) 0 19 K n [EV.ptr 0 [], EV.int IntKind.i64 x0] [some (EV.arr IntKind.u64 6 x1)]) = zbh.l2 (fun y0 => K .ret [EV.int IntKind.i64 y0] []) (K (.exit 0) [] []) n := by funext x0 x1; exact zbh.l2X.eq K n x0 x1
  show yao _ _ _ _ _ (yaC E_zbh (yab Tryz.f76 0) (LV.mk 0 [(0, 0)] 4 0 false) 0 19 K n) [EV.ptr 0 [], EV.int IntKind.i64 x0] [some (EV.arr IntKind.u64 6 x1)] K = zbh.l2.step (zbh.l2 (fun y0 => K .ret [EV.int IntKind.i64 y0] []) (K (.exit 0) [] []) n) (fun y0 => K .ret [EV.int IntKind.i64 y0] []) (K (.exit 0) [] []) x0 x1
  rw [← ih]
  exact zbh.l2X.stepEq _ K x0 x1
theorem zbh.l2X.ok : LoopEq E_zbh (yab Tryz.f76 0) := by
 intro L hL vs H
 have h1 : E_zbh.lp (yal (yab Tryz.f76 0)) = some zbh.l2.entry := by kernel_rfl
 have h2 : L = zbh.l2.entry := Option.some.inj (hL.symm.trans h1)
 subst h2
 by_cases hx : ∃ (x0 : Int) (x1 : Nat → Int), vs = [EV.ptr 0 [], EV.int IntKind.i64 x0] ∧ H = [some (EV.arr IntKind.u64 6 x1)]
 ·obtain ⟨x0, x1, rfl, rfl⟩ := hx
  right; intro K
  exact exists_congr fun n => iff_of_eq (zbh.l2X.eq K n x0 x1).symm
 ·left; intro K h
  simp only [zbh.l2.entry] at h
  split at h
  ·exact hx ⟨_, _, rfl, rfl⟩
  ·exact h
theorem X_zbh.eq (a0 : Nat → Int) (K : EV → yaf → Prop) : yaV E_zbh Tryz.f76 false [.arr .u64 6 a0] [] K = zbh a0 (fun y0 => K (EV.int IntKind.i64 y0) []) := by
 rw [zbh.is]; exact (yag _ _ _ _ _ _).symm.trans (by kernel_rfl)
theorem X_zbh.ok : SoundE Tryz.prog gl 76 e_zbh := by
 refine ya3 (E := E_zbh) (fn := Tryz.f76) rfl tys_ok rfl (show yaZ _ l_zbh from ⟨X_zba.ok, trivial⟩) mixed (by kernel_rfl) (by kernel_rfl) (by kernel_rfl) 1 (by kernel_rfl) false ⟨zbh.l2X.ok, trivial⟩ ?_
 intro args H
 by_cases hx : ∃ (a0 : Nat → Int), args = [.arr .u64 6 a0] ∧ H = []
 ·obtain ⟨a0, rfl, rfl⟩ := hx
  right; intro K
  exact iff_of_eq (X_zbh.eq a0 K).symm
 ·left; intro K h
  simp only [e_zbh] at h
  split at h
  ·exact hx ⟨_, rfl, rfl⟩
  ·exact h
noncomputable def e_zbk : yan := ⟨[none], false, fun args H K => match args, H with
 | [.agg [.int .u64 a0_0, .int .u64 a0_1]], [] => zbk a0_0 a0_1 (fun y0 => K (EV.arr IntKind.u64 6 y0) [])
 | _, _ => False⟩
noncomputable def E_zbk : Env := ⟨look tys, look [], look [], gl, yaq [], false⟩
theorem X_zbk.eq (a0_0 : Int) (a0_1 : Int) (K : EV → yaf → Prop) : yaV E_zbk Tryz.f122 false [.agg [.int .u64 a0_0, .int .u64 a0_1]] [] K = zbk a0_0 a0_1 (fun y0 => K (EV.arr IntKind.u64 6 y0) []) := by
 rw [zbk.is]; exact (yag _ _ _ _ _ _).symm.trans (by kernel_rfl)
theorem X_zbk.ok : SoundE Tryz.prog gl 122 e_zbk := by
 refine ya3 (E := E_zbk) (fn := Tryz.f122) rfl tys_ok rfl (show yaZ _ [] from trivial) mixed (by kernel_rfl) (by kernel_rfl) (by kernel_rfl) 0 (by kernel_rfl) false trivial ?_
 intro args H
 by_cases hx : ∃ (a0_0 : Int) (a0_1 : Int), args = [.agg [.int .u64 a0_0, .int .u64 a0_1]] ∧ H = []
 ·obtain ⟨a0_0, a0_1, rfl, rfl⟩ := hx
  right; intro K
  exact iff_of_eq (X_zbk.eq a0_0 a0_1 K).symm
 ·left; intro K h
  simp only [e_zbk] at h
  split at h
  ·exact hx ⟨_, _, rfl, rfl⟩
  ·exact h
noncomputable def e_zcc : yan := ⟨[none], false, fun args H K => match args, H with
 | [.int .u8 a0], [] => zcc a0 (fun y0 => K (EV.int IntKind.i64 y0) [])
 | _, _ => False⟩
noncomputable def E_zcc : Env := ⟨look tys, look [], look [], gl, yaq [], false⟩
theorem X_zcc.eq (a0 : Int) (K : EV → yaf → Prop) : yaV E_zcc Tryz.f123 false [.int .u8 a0] [] K = zcc a0 (fun y0 => K (EV.int IntKind.i64 y0) []) := by
 rw [zcc.is]; exact (yag _ _ _ _ _ _).symm.trans (by kernel_rfl)
theorem X_zcc.ok : SoundE Tryz.prog gl 123 e_zcc := by
 refine ya3 (E := E_zcc) (fn := Tryz.f123) rfl tys_ok rfl (show yaZ _ [] from trivial) mixed (by kernel_rfl) (by kernel_rfl) (by kernel_rfl) 0 (by kernel_rfl) false trivial ?_
 intro args H
 by_cases hx : ∃ (a0 : Int), args = [.int .u8 a0] ∧ H = []
 ·obtain ⟨a0, rfl, rfl⟩ := hx
  right; intro K
  exact iff_of_eq (X_zcc.eq a0 K).symm
 ·left; intro K h
  simp only [e_zcc] at h
  split at h
  ·exact hx ⟨_, rfl, rfl⟩
  ·exact h
noncomputable def e_zbx : yan := ⟨[none, none], false, fun args H K => match args, H with
 | [.int .u8 a0, .agg [.int .u64 a1_0, .int .u64 a1_1]], [] => zbx a0 a1_0 a1_1 (fun y0 => K (EV.bool y0) [])
 | _, _ => False⟩
noncomputable def l_zbx : List (Nat × yan) := [(16, e_zcb), (76, e_zbh), (122, e_zbk), (123, e_zcc)]
noncomputable def E_zbx : Env := ⟨look tys, look l_zbx, look [], gl, yaq [], false⟩
theorem X_zbx.eq (a0 : Int) (a1_0 : Int) (a1_1 : Int) (K : EV → yaf → Prop) : yaV E_zbx Tryz.f53 false [.int .u8 a0, .agg [.int .u64 a1_0, .int .u64 a1_1]] [] K = zbx a0 a1_0 a1_1 (fun y0 => K (EV.bool y0) []) := by
 rw [zbx.is]; exact (yag _ _ _ _ _ _).symm.trans (by kernel_rfl)
theorem X_zbx.ok : SoundE Tryz.prog gl 53 e_zbx := by
 refine ya3 (E := E_zbx) (fn := Tryz.f53) rfl tys_ok rfl (show yaZ _ l_zbx from ⟨X_zcb.ok, X_zbh.ok, X_zbk.ok, X_zcc.ok, trivial⟩) mixed (by kernel_rfl) (by kernel_rfl) (by kernel_rfl) 0 (by kernel_rfl) false trivial ?_
 intro args H
 by_cases hx : ∃ (a0 : Int) (a1_0 : Int) (a1_1 : Int), args = [.int .u8 a0, .agg [.int .u64 a1_0, .int .u64 a1_1]] ∧ H = []
 ·obtain ⟨a0, a1_0, a1_1, rfl, rfl⟩ := hx
  right; intro K
  exact iff_of_eq (X_zbx.eq a0 a1_0 a1_1 K).symm
 ·left; intro K h
  simp only [e_zbx] at h
  split at h
  ·exact hx ⟨_, _, _, rfl, rfl⟩
  ·exact h
noncomputable def e_zax : yan := ⟨[none, none], false, fun args H K => match args, H with
 | [.int .u8 a0, .agg [.int .u64 a1_0, .int .u64 a1_1]], [] => zax a0 a1_0 a1_1 (fun y0 => K (EV.bool y0) [])
 | _, _ => False⟩
noncomputable def l_zax : List (Nat × yan) := [(53, e_zbx)]
noncomputable def E_zax : Env := ⟨look tys, look l_zax, look [], gl, yaq [], false⟩
theorem X_zax.eq (a0 : Int) (a1_0 : Int) (a1_1 : Int) (K : EV → yaf → Prop) : yaV E_zax Tryz.f12 false [.int .u8 a0, .agg [.int .u64 a1_0, .int .u64 a1_1]] [] K = zax a0 a1_0 a1_1 (fun y0 => K (EV.bool y0) []) := by
 rw [zax.is]; exact (yag _ _ _ _ _ _).symm.trans (by kernel_rfl)
theorem X_zax.ok : SoundE Tryz.prog gl 12 e_zax := by
 refine ya3 (E := E_zax) (fn := Tryz.f12) rfl tys_ok rfl (show yaZ _ l_zax from ⟨X_zbx.ok, trivial⟩) mixed (by kernel_rfl) (by kernel_rfl) (by kernel_rfl) 0 (by kernel_rfl) false trivial ?_
 intro args H
 by_cases hx : ∃ (a0 : Int) (a1_0 : Int) (a1_1 : Int), args = [.int .u8 a0, .agg [.int .u64 a1_0, .int .u64 a1_1]] ∧ H = []
 ·obtain ⟨a0, a1_0, a1_1, rfl, rfl⟩ := hx
  right; intro K
  exact iff_of_eq (X_zax.eq a0 a1_0 a1_1 K).symm
 ·left; intro K h
  simp only [e_zax] at h
  split at h
  ·exact hx ⟨_, _, _, rfl, rfl⟩
  ·exact h
noncomputable def e_zcy : yan := ⟨[none], false, fun args H K => match args, H with
 | [.int .u8 a0], [] => zcy a0 (fun y0 y1 y2 y3 => K (EV.tuple [EV.int IntKind.i64 y0, EV.int IntKind.i64 y1, EV.int IntKind.i64 y2, EV.str y3]) [])
 | _, _ => False⟩
noncomputable def E_zcy : Env := ⟨look tys, look [], look [], gl, yaq [], false⟩
theorem X_zcy.eq (a0 : Int) (K : EV → yaf → Prop) : yaV E_zcy Tryz.f103 false [.int .u8 a0] [] K = zcy a0 (fun y0 y1 y2 y3 => K (EV.tuple [EV.int IntKind.i64 y0, EV.int IntKind.i64 y1, EV.int IntKind.i64 y2, EV.str y3]) []) := by
 rw [zcy.is]; exact (yag _ _ _ _ _ _).symm.trans (by kernel_rfl)
theorem X_zcy.ok : SoundE Tryz.prog gl 103 e_zcy := by
 refine ya3 (E := E_zcy) (fn := Tryz.f103) rfl tys_ok rfl (show yaZ _ [] from trivial) mixed (by kernel_rfl) (by kernel_rfl) (by kernel_rfl) 0 (by kernel_rfl) false trivial ?_
 intro args H
 by_cases hx : ∃ (a0 : Int), args = [.int .u8 a0] ∧ H = []
 ·obtain ⟨a0, rfl, rfl⟩ := hx
  right; intro K
  exact iff_of_eq (X_zcy.eq a0 K).symm
 ·left; intro K h
  simp only [e_zcy] at h
  split at h
  ·exact hx ⟨_, rfl, rfl⟩
  ·exact h
noncomputable def e_zct : yan := ⟨[none], false, fun args H K => match args, H with
 | [.int .u8 a0], [] => zct a0 (fun y0 => K (EV.int IntKind.i64 y0) [])
 | _, _ => False⟩
noncomputable def l_zct : List (Nat × yan) := [(103, e_zcy)]
noncomputable def E_zct : Env := ⟨look tys, look l_zct, look [], gl, yaq [], false⟩
theorem X_zct.eq (a0 : Int) (K : EV → yaf → Prop) : yaV E_zct Tryz.f35 false [.int .u8 a0] [] K = zct a0 (fun y0 => K (EV.int IntKind.i64 y0) []) := by
 rw [zct.is]; exact (yag _ _ _ _ _ _).symm.trans (by kernel_rfl)
theorem X_zct.ok : SoundE Tryz.prog gl 35 e_zct := by
 refine ya3 (E := E_zct) (fn := Tryz.f35) rfl tys_ok rfl (show yaZ _ l_zct from ⟨X_zcy.ok, trivial⟩) mixed (by kernel_rfl) (by kernel_rfl) (by kernel_rfl) 0 (by kernel_rfl) false trivial ?_
 intro args H
 by_cases hx : ∃ (a0 : Int), args = [.int .u8 a0] ∧ H = []
 ·obtain ⟨a0, rfl, rfl⟩ := hx
  right; intro K
  exact iff_of_eq (X_zct.eq a0 K).symm
 ·left; intro K h
  simp only [e_zct] at h
  split at h
  ·exact hx ⟨_, rfl, rfl⟩
  ·exact h
noncomputable def e_zcp : yan := ⟨[none], false, fun args H K => match args, H with
 | [.int .u8 a0], [] => zcp a0 (fun y0 => K (EV.int IntKind.i64 y0) [])
 | _, _ => False⟩
noncomputable def l_zcp : List (Nat × yan) := [(103, e_zcy)]
noncomputable def E_zcp : Env := ⟨look tys, look l_zcp, look [], gl, yaq [], false⟩
theorem X_zcp.eq (a0 : Int) (K : EV → yaf → Prop) : yaV E_zcp Tryz.f40 false [.int .u8 a0] [] K = zcp a0 (fun y0 => K (EV.int IntKind.i64 y0) []) := by
 rw [zcp.is]; exact (yag _ _ _ _ _ _).symm.trans (by kernel_rfl)
theorem X_zcp.ok : SoundE Tryz.prog gl 40 e_zcp := by
 refine ya3 (E := E_zcp) (fn := Tryz.f40) rfl tys_ok rfl (show yaZ _ l_zcp from ⟨X_zcy.ok, trivial⟩) mixed (by kernel_rfl) (by kernel_rfl) (by kernel_rfl) 0 (by kernel_rfl) false trivial ?_
 intro args H
 by_cases hx : ∃ (a0 : Int), args = [.int .u8 a0] ∧ H = []
 ·obtain ⟨a0, rfl, rfl⟩ := hx
  right; intro K
  exact iff_of_eq (X_zcp.eq a0 K).symm
 ·left; intro K h
  simp only [e_zcp] at h
  split at h
  ·exact hx ⟨_, rfl, rfl⟩
  ·exact h
noncomputable def e_zco : yan := ⟨[none], false, fun args H K => match args, H with
 | [.int .u8 a0], [] => zco a0 (fun y0 => K (EV.int IntKind.i64 y0) [])
 | _, _ => False⟩
noncomputable def E_zco : Env := ⟨look tys, look [], look [], gl, yaq [], false⟩
theorem X_zco.eq (a0 : Int) (K : EV → yaf → Prop) : yaV E_zco Tryz.f57 false [.int .u8 a0] [] K = zco a0 (fun y0 => K (EV.int IntKind.i64 y0) []) := by
 rw [zco.is]; exact (yag _ _ _ _ _ _).symm.trans (by kernel_rfl)
theorem X_zco.ok : SoundE Tryz.prog gl 57 e_zco := by
 refine ya3 (E := E_zco) (fn := Tryz.f57) rfl tys_ok rfl (show yaZ _ [] from trivial) mixed (by kernel_rfl) (by kernel_rfl) (by kernel_rfl) 0 (by kernel_rfl) false trivial ?_
 intro args H
 by_cases hx : ∃ (a0 : Int), args = [.int .u8 a0] ∧ H = []
 ·obtain ⟨a0, rfl, rfl⟩ := hx
  right; intro K
  exact iff_of_eq (X_zco.eq a0 K).symm
 ·left; intro K h
  simp only [e_zco] at h
  split at h
  ·exact hx ⟨_, rfl, rfl⟩
  ·exact h
noncomputable def e_zcq : yan := ⟨[none], false, fun args H K => match args, H with
 | [.int .u8 a0], [] => zcq a0 (fun y0 => K (EV.int IntKind.i64 y0) [])
 | _, _ => False⟩
noncomputable def l_zcq : List (Nat × yan) := [(40, e_zcp), (57, e_zco)]
noncomputable def E_zcq : Env := ⟨look tys, look l_zcq, look [], gl, yaq [], false⟩
theorem X_zcq.eq (a0 : Int) (K : EV → yaf → Prop) : yaV E_zcq Tryz.f39 false [.int .u8 a0] [] K = zcq a0 (fun y0 => K (EV.int IntKind.i64 y0) []) := by
 rw [zcq.is]; exact (yag _ _ _ _ _ _).symm.trans (by kernel_rfl)
theorem X_zcq.ok : SoundE Tryz.prog gl 39 e_zcq := by
 refine ya3 (E := E_zcq) (fn := Tryz.f39) rfl tys_ok rfl (show yaZ _ l_zcq from ⟨X_zcp.ok, X_zco.ok, trivial⟩) mixed (by kernel_rfl) (by kernel_rfl) (by kernel_rfl) 0 (by kernel_rfl) false trivial ?_
 intro args H
 by_cases hx : ∃ (a0 : Int), args = [.int .u8 a0] ∧ H = []
 ·obtain ⟨a0, rfl, rfl⟩ := hx
  right; intro K
  exact iff_of_eq (X_zcq.eq a0 K).symm
 ·left; intro K h
  simp only [e_zcq] at h
  split at h
  ·exact hx ⟨_, rfl, rfl⟩
  ·exact h
noncomputable def e_zcu : yan := ⟨[none], false, fun args H K => match args, H with
 | [.int .u8 a0], [] => zcu a0 (fun y0 => K (EV.int IntKind.i64 y0) [])
 | _, _ => False⟩
noncomputable def l_zcu : List (Nat × yan) := [(103, e_zcy)]
noncomputable def E_zcu : Env := ⟨look tys, look l_zcu, look [], gl, yaq [], false⟩
theorem X_zcu.eq (a0 : Int) (K : EV → yaf → Prop) : yaV E_zcu Tryz.f102 false [.int .u8 a0] [] K = zcu a0 (fun y0 => K (EV.int IntKind.i64 y0) []) := by
 rw [zcu.is]; exact (yag _ _ _ _ _ _).symm.trans (by kernel_rfl)
theorem X_zcu.ok : SoundE Tryz.prog gl 102 e_zcu := by
 refine ya3 (E := E_zcu) (fn := Tryz.f102) rfl tys_ok rfl (show yaZ _ l_zcu from ⟨X_zcy.ok, trivial⟩) mixed (by kernel_rfl) (by kernel_rfl) (by kernel_rfl) 0 (by kernel_rfl) false trivial ?_
 intro args H
 by_cases hx : ∃ (a0 : Int), args = [.int .u8 a0] ∧ H = []
 ·obtain ⟨a0, rfl, rfl⟩ := hx
  right; intro K
  exact iff_of_eq (X_zcu.eq a0 K).symm
 ·left; intro K h
  simp only [e_zcu] at h
  split at h
  ·exact hx ⟨_, rfl, rfl⟩
  ·exact h
noncomputable def e_zcr : yan := ⟨[none, none], false, fun args H K => match args, H with
 | [.int .u8 a0, .agg [.int .u64 a1_0, .int .u64 a1_1]], [] => zcr a0 a1_0 a1_1 (fun y0 => K (EV.bool y0) [])
 | _, _ => False⟩
noncomputable def l_zcr : List (Nat × yan) := [(102, e_zcu)]
noncomputable def E_zcr : Env := ⟨look tys, look l_zcr, look [], gl, yaq [], false⟩
theorem X_zcr.eq (a0 : Int) (a1_0 : Int) (a1_1 : Int) (K : EV → yaf → Prop) : yaV E_zcr Tryz.f97 false [.int .u8 a0, .agg [.int .u64 a1_0, .int .u64 a1_1]] [] K = zcr a0 a1_0 a1_1 (fun y0 => K (EV.bool y0) []) := by
 rw [zcr.is]; exact (yag _ _ _ _ _ _).symm.trans (by kernel_rfl)
theorem X_zcr.ok : SoundE Tryz.prog gl 97 e_zcr := by
 refine ya3 (E := E_zcr) (fn := Tryz.f97) rfl tys_ok rfl (show yaZ _ l_zcr from ⟨X_zcu.ok, trivial⟩) mixed (by kernel_rfl) (by kernel_rfl) (by kernel_rfl) 0 (by kernel_rfl) false trivial ?_
 intro args H
 by_cases hx : ∃ (a0 : Int) (a1_0 : Int) (a1_1 : Int), args = [.int .u8 a0, .agg [.int .u64 a1_0, .int .u64 a1_1]] ∧ H = []
 ·obtain ⟨a0, a1_0, a1_1, rfl, rfl⟩ := hx
  right; intro K
  exact iff_of_eq (X_zcr.eq a0 a1_0 a1_1 K).symm
 ·left; intro K h
  simp only [e_zcr] at h
  split at h
  ·exact hx ⟨_, _, _, rfl, rfl⟩
  ·exact h
noncomputable def e_zdf : yan := ⟨[none, none], false, fun args H K => match args, H with
 | [.arr .u64 6 a0, .int .i64 a1], [] => zdf a0 a1 (fun y0 => K (EV.bool y0) [])
 | _, _ => False⟩
noncomputable def E_zdf : Env := ⟨look tys, look [], look [], gl, yaq [], false⟩
theorem X_zdf.eq (a0 : Nat → Int) (a1 : Int) (K : EV → yaf → Prop) : yaV E_zdf Tryz.f62 false [.arr .u64 6 a0, .int .i64 a1] [] K = zdf a0 a1 (fun y0 => K (EV.bool y0) []) := by
 rw [zdf.is]; exact (yag _ _ _ _ _ _).symm.trans (by kernel_rfl)
theorem X_zdf.ok : SoundE Tryz.prog gl 62 e_zdf := by
 refine ya3 (E := E_zdf) (fn := Tryz.f62) rfl tys_ok rfl (show yaZ _ [] from trivial) mixed (by kernel_rfl) (by kernel_rfl) (by kernel_rfl) 0 (by kernel_rfl) false trivial ?_
 intro args H
 by_cases hx : ∃ (a0 : Nat → Int) (a1 : Int), args = [.arr .u64 6 a0, .int .i64 a1] ∧ H = []
 ·obtain ⟨a0, a1, rfl, rfl⟩ := hx
  right; intro K
  exact iff_of_eq (X_zdf.eq a0 a1 K).symm
 ·left; intro K h
  simp only [e_zdf] at h
  split at h
  ·exact hx ⟨_, _, rfl, rfl⟩
  ·exact h
noncomputable def e_zde : yan := ⟨[none, none], false, fun args H K => match args, H with
 | [.arr .u64 6 a0, .arr .u64 6 a1], [] => zde a0 a1 (fun y0 => K (EV.arr IntKind.u64 6 y0) [])
 | _, _ => False⟩
noncomputable def E_zde : Env := ⟨look tys, look [], look [(2, zde.l2.entry)], gl, yaq [], false⟩
theorem zde.l2X.stepEq (R : List EV → yaf → Prop) (K : Ex → List EV → yaf → Prop) (x0 : Int) (x1 : Nat → Int) (x2 : Nat → Int) (x3 : Nat → Int) : yao (yap E_zde (yab Tryz.f64 0) { (LV.mk 20 [(0, 20)] 16 0 false) with nx := live (.loop (yab Tryz.f64 0)) (LV.mk 20 [(0, 20)] 16 0 false) }) (live (.loop (yab Tryz.f64 0)) (LV.mk 20 [(0, 20)] 16 0 false)) (LV.mk 20 [(0, 20)] 16 0 false) 0 19 R [EV.ptr 0 [], EV.ptr 1 [], EV.ptr 2 [], EV.int IntKind.i64 x0] [some (EV.arr IntKind.u64 6 x1), some (EV.arr IntKind.u64 6 x2), some (EV.arr IntKind.u64 6 x3)] K = zde.l2.step (fun x0 x1 x2 x3 => R [EV.ptr 0 [], EV.ptr 1 [], EV.ptr 2 [], EV.int IntKind.i64 x0] [some (EV.arr IntKind.u64 6 x1), some (EV.arr IntKind.u64 6 x2), some (EV.arr IntKind.u64 6 x3)]) (fun y0 y1 => K (.exit 0) [EV.ptr 0 [], EV.ptr 1 []] [some (EV.arr IntKind.u64 6 y0), some (EV.arr IntKind.u64 6 y1)]) x0 x1 x2 x3 := (yaI _ _ _ _ _ _ _ _ _ _ _).symm.trans (by kernel_rfl)
theorem zde.l2X.eq (K : Ex → List EV → yaf → Prop) : ∀ (n : Nat) (x0 : Int) (x1 : Nat → Int) (x2 : Nat → Int) (x3 : Nat → Int), yaC E_zde (yab Tryz.f64 0) (LV.mk 20 [(0, 20)] 16 0 false) 0 19 K n [EV.ptr 0 [], EV.ptr 1 [], EV.ptr 2 [], EV.int IntKind.i64 x0] [some (EV.arr IntKind.u64 6 x1), some (EV.arr IntKind.u64 6 x2), some (EV.arr IntKind.u64 6 x3)] = zde.l2 (fun y0 y1 => K (.exit 0) [EV.ptr 0 [], EV.ptr 1 []] [some (EV.arr IntKind.u64 6 y0), some (EV.arr IntKind.u64 6 y1)]) n x0 x1 x2 x3
 | 0, _, _, _, _ => rfl
 | n + 1, x0, x1, x2, x3 => by
  have ih : (fun (x0 : Int) (x1 : Nat → Int) (x2 : Nat → Int) (x3 : Nat → Int) => yaC E_zde (yab Tryz.f64 0) (LV.mk 20 [(0, 20)] 16 0 false) 0 19 K n [EV.ptr 0 [], EV.ptr 1 [], EV.ptr 2 [], EV.int IntKind.i64 x0] [some (EV.arr IntKind.u64 6 x1), some (EV.arr IntKind.u64 6 x2), some (EV.arr IntKind.u64 6 x3)]) = zde.l2 (fun y0 y1 => K (.exit 0) [EV.ptr 0 [], EV.ptr 1 []] [some (EV.arr IntKind.u64 6 y0), some (EV.arr IntKind.u64 6 y1)]) n := by funext x0 x1 x2 x3; exact zde.l2X.eq K n x0 x1 x2 x3
  show yao _ _ _ _ _ (yaC E_zde (yab Tryz.f64 0) (LV.mk 20 [(0, 20)] 16 0 false) 0 19 K n) [EV.ptr 0 [], EV.ptr 1 [], EV.ptr 2 [], EV.int IntKind.i64 x0] [some (EV.arr IntKind.u64 6 x1), some (EV.arr IntKind.u64 6 x2), some (EV.arr IntKind.u64 6 x3)] K = zde.l2.step (zde.l2 (fun y0 y1 => K (.exit 0) [EV.ptr 0 [], EV.ptr 1 []] [some (EV.arr IntKind.u64 6 y0), some (EV.arr IntKind.u64 6 y1)]) n) (fun y0 y1 => K (.exit 0) [EV.ptr 0 [], EV.ptr 1 []] [some (EV.arr IntKind.u64 6 y0), some (EV.arr IntKind.u64 6 y1)]) x0 x1 x2 x3
  rw [← ih]
  exact zde.l2X.stepEq _ K x0 x1 x2 x3
theorem zde.l2X.ok : LoopEq E_zde (yab Tryz.f64 0) := by
 intro L hL vs H
 have h1 : E_zde.lp (yal (yab Tryz.f64 0)) = some zde.l2.entry := by kernel_rfl
 have h2 : L = zde.l2.entry := Option.some.inj (hL.symm.trans h1)
 subst h2
 by_cases hx : ∃ (x0 : Int) (x1 : Nat → Int) (x2 : Nat → Int) (x3 : Nat → Int), vs = [EV.ptr 0 [], EV.ptr 1 [], EV.ptr 2 [], EV.int IntKind.i64 x0] ∧ H = [some (EV.arr IntKind.u64 6 x1), some (EV.arr IntKind.u64 6 x2), some (EV.arr IntKind.u64 6 x3)]
 ·obtain ⟨x0, x1, x2, x3, rfl, rfl⟩ := hx
  right; intro K
  exact exists_congr fun n => iff_of_eq (zde.l2X.eq K n x0 x1 x2 x3).symm
 ·left; intro K h
  simp only [zde.l2.entry] at h
  split at h
  ·exact hx ⟨_, _, _, _, rfl, rfl⟩
  ·exact h
theorem X_zde.eq (a0 : Nat → Int) (a1 : Nat → Int) (K : EV → yaf → Prop) : yaV E_zde Tryz.f64 false [.arr .u64 6 a0, .arr .u64 6 a1] [] K = zde a0 a1 (fun y0 => K (EV.arr IntKind.u64 6 y0) []) := by
 rw [zde.is]; exact (yag _ _ _ _ _ _).symm.trans (by kernel_rfl)
theorem X_zde.ok : SoundE Tryz.prog gl 64 e_zde := by
 refine ya3 (E := E_zde) (fn := Tryz.f64) rfl tys_ok rfl (show yaZ _ [] from trivial) mixed (by kernel_rfl) (by kernel_rfl) (by kernel_rfl) 1 (by kernel_rfl) false ⟨zde.l2X.ok, trivial⟩ ?_
 intro args H
 by_cases hx : ∃ (a0 : Nat → Int) (a1 : Nat → Int), args = [.arr .u64 6 a0, .arr .u64 6 a1] ∧ H = []
 ·obtain ⟨a0, a1, rfl, rfl⟩ := hx
  right; intro K
  exact iff_of_eq (X_zde.eq a0 a1 K).symm
 ·left; intro K h
  simp only [e_zde] at h
  split at h
  ·exact hx ⟨_, _, rfl, rfl⟩
  ·exact h
noncomputable def e_zdr : yan := ⟨[none], false, fun args H K => match args, H with
 | [.int .i64 a0], [] => zdr a0 (fun y0 => K (EV.int IntKind.i64 y0) [])
 | _, _ => False⟩
noncomputable def E_zdr : Env := ⟨look tys, look [], look [], gl, yaq [], false⟩
theorem X_zdr.eq (a0 : Int) (K : EV → yaf → Prop) : yaV E_zdr Tryz.f110 false [.int .i64 a0] [] K = zdr a0 (fun y0 => K (EV.int IntKind.i64 y0) []) := by
 rw [zdr.is]; exact (yag _ _ _ _ _ _).symm.trans (by kernel_rfl)
theorem X_zdr.ok : SoundE Tryz.prog gl 110 e_zdr := by
 refine ya3 (E := E_zdr) (fn := Tryz.f110) rfl tys_ok rfl (show yaZ _ [] from trivial) mixed (by kernel_rfl) (by kernel_rfl) (by kernel_rfl) 0 (by kernel_rfl) false trivial ?_
 intro args H
 by_cases hx : ∃ (a0 : Int), args = [.int .i64 a0] ∧ H = []
 ·obtain ⟨a0, rfl, rfl⟩ := hx
  right; intro K
  exact iff_of_eq (X_zdr.eq a0 K).symm
 ·left; intro K h
  simp only [e_zdr] at h
  split at h
  ·exact hx ⟨_, rfl, rfl⟩
  ·exact h
noncomputable def e_zdv : yan := ⟨[none], false, fun args H K => match args, H with
 | [.int .i64 a0], [] => zdv a0 (fun y0 => K (EV.int IntKind.u64 y0) [])
 | _, _ => False⟩
noncomputable def E_zdv : Env := ⟨look tys, look [], look [], gl, yaq [], false⟩
theorem X_zdv.eq (a0 : Int) (K : EV → yaf → Prop) : yaV E_zdv Tryz.f184 false [.int .i64 a0] [] K = zdv a0 (fun y0 => K (EV.int IntKind.u64 y0) []) := by
 rw [zdv.is]; exact (yag _ _ _ _ _ _).symm.trans (by kernel_rfl)
theorem X_zdv.ok : SoundE Tryz.prog gl 184 e_zdv := by
 refine ya3 (E := E_zdv) (fn := Tryz.f184) rfl tys_ok rfl (show yaZ _ [] from trivial) mixed (by kernel_rfl) (by kernel_rfl) (by kernel_rfl) 0 (by kernel_rfl) false trivial ?_
 intro args H
 by_cases hx : ∃ (a0 : Int), args = [.int .i64 a0] ∧ H = []
 ·obtain ⟨a0, rfl, rfl⟩ := hx
  right; intro K
  exact iff_of_eq (X_zdv.eq a0 K).symm
 ·left; intro K h
  simp only [e_zdv] at h
  split at h
  ·exact hx ⟨_, rfl, rfl⟩
  ·exact h
noncomputable def e_zdu : yan := ⟨[none], false, fun args H K => match args, H with
 | [.int .i64 a0], [] => zdu a0 (fun y0 => K (EV.int IntKind.u64 y0) [])
 | _, _ => False⟩
noncomputable def l_zdu : List (Nat × yan) := [(184, e_zdv)]
noncomputable def E_zdu : Env := ⟨look tys, look l_zdu, look [], gl, yaq [], false⟩
theorem X_zdu.eq (a0 : Int) (K : EV → yaf → Prop) : yaV E_zdu Tryz.f135 false [.int .i64 a0] [] K = zdu a0 (fun y0 => K (EV.int IntKind.u64 y0) []) := by
 rw [zdu.is]; exact (yag _ _ _ _ _ _).symm.trans (by kernel_rfl)
theorem X_zdu.ok : SoundE Tryz.prog gl 135 e_zdu := by
 refine ya3 (E := E_zdu) (fn := Tryz.f135) rfl tys_ok rfl (show yaZ _ l_zdu from ⟨X_zdv.ok, trivial⟩) mixed (by kernel_rfl) (by kernel_rfl) (by kernel_rfl) 0 (by kernel_rfl) false trivial ?_
 intro args H
 by_cases hx : ∃ (a0 : Int), args = [.int .i64 a0] ∧ H = []
 ·obtain ⟨a0, rfl, rfl⟩ := hx
  right; intro K
  exact iff_of_eq (X_zdu.eq a0 K).symm
 ·left; intro K h
  simp only [e_zdu] at h
  split at h
  ·exact hx ⟨_, rfl, rfl⟩
  ·exact h
noncomputable def e_zdj : yan := ⟨[none], false, fun args H K => match args, H with
 | [.int .i64 a0], [] => zdj a0 (fun y0 => K (EV.arr IntKind.u64 6 y0) [])
 | _, _ => False⟩
noncomputable def l_zdj : List (Nat × yan) := [(110, e_zdr), (135, e_zdu)]
noncomputable def E_zdj : Env := ⟨look tys, look l_zdj, look [(4, zdj.l4.entry)], gl, yaq [], false⟩
theorem zdj.l4X.stepEq (R : List EV → yaf → Prop) (K : Ex → List EV → yaf → Prop) (x0 : Int) (x1 : Int) (x2 : Nat → Int) (x3 : Nat → Int) : yao (yap E_zdj (yab Tryz.f65 0) { (LV.mk 12 [(0, 12)] 4 0 false) with nx := live (.loop (yab Tryz.f65 0)) (LV.mk 12 [(0, 12)] 4 0 false) }) (live (.loop (yab Tryz.f65 0)) (LV.mk 12 [(0, 12)] 4 0 false)) (LV.mk 12 [(0, 12)] 4 0 false) 0 19 R [EV.int IntKind.i64 x0, EV.ptr 0 [], EV.ptr 1 [], EV.int IntKind.i64 x1] [some (EV.arr IntKind.u64 6 x2), some (EV.arr IntKind.u64 6 x3)] K = zdj.l4.step (fun x0 x1 x2 x3 => R [EV.int IntKind.i64 x0, EV.ptr 0 [], EV.ptr 1 [], EV.int IntKind.i64 x1] [some (EV.arr IntKind.u64 6 x2), some (EV.arr IntKind.u64 6 x3)]) (fun y0 y1 => K (.exit 0) [EV.ptr 0 [], EV.ptr 1 []] [some (EV.arr IntKind.u64 6 y0), some (EV.arr IntKind.u64 6 y1)]) x0 x1 x2 x3 := (yaI _ _ _ _ _ _ _ _ _ _ _).symm.trans (by kernel_rfl)
theorem zdj.l4X.eq (K : Ex → List EV → yaf → Prop) : ∀ (n : Nat) (x0 : Int) (x1 : Int) (x2 : Nat → Int) (x3 : Nat → Int), yaC E_zdj (yab Tryz.f65 0) (LV.mk 12 [(0, 12)] 4 0 false) 0 19 K n [EV.int IntKind.i64 x0, EV.ptr 0 [], EV.ptr 1 [], EV.int IntKind.i64 x1] [some (EV.arr IntKind.u64 6 x2), some (EV.arr IntKind.u64 6 x3)] = zdj.l4 (fun y0 y1 => K (.exit 0) [EV.ptr 0 [], EV.ptr 1 []] [some (EV.arr IntKind.u64 6 y0), some (EV.arr IntKind.u64 6 y1)]) n x0 x1 x2 x3
 | 0, _, _, _, _ => rfl
 | n + 1, x0, x1, x2, x3 => by
  have ih : (fun (x0 : Int) (x1 : Int) (x2 : Nat → Int) (x3 : Nat → Int) => yaC E_zdj (yab Tryz.f65 0) (LV.mk 12 [(0, 12)] 4 0 false) 0 19 K n [EV.int IntKind.i64 x0, EV.ptr 0 [], EV.ptr 1 [], EV.int IntKind.i64 x1] [some (EV.arr IntKind.u64 6 x2), some (EV.arr IntKind.u64 6 x3)]) = zdj.l4 (fun y0 y1 => K (.exit 0) [EV.ptr 0 [], EV.ptr 1 []] [some (EV.arr IntKind.u64 6 y0), some (EV.arr IntKind.u64 6 y1)]) n := by funext x0 x1 x2 x3; exact zdj.l4X.eq K n x0 x1 x2 x3
  show yao _ _ _ _ _ (yaC E_zdj (yab Tryz.f65 0) (LV.mk 12 [(0, 12)] 4 0 false) 0 19 K n) [EV.int IntKind.i64 x0, EV.ptr 0 [], EV.ptr 1 [], EV.int IntKind.i64 x1] [some (EV.arr IntKind.u64 6 x2), some (EV.arr IntKind.u64 6 x3)] K = zdj.l4.step (zdj.l4 (fun y0 y1 => K (.exit 0) [EV.ptr 0 [], EV.ptr 1 []] [some (EV.arr IntKind.u64 6 y0), some (EV.arr IntKind.u64 6 y1)]) n) (fun y0 y1 => K (.exit 0) [EV.ptr 0 [], EV.ptr 1 []] [some (EV.arr IntKind.u64 6 y0), some (EV.arr IntKind.u64 6 y1)]) x0 x1 x2 x3
  rw [← ih]
  exact zdj.l4X.stepEq _ K x0 x1 x2 x3
theorem zdj.l4X.ok : LoopEq E_zdj (yab Tryz.f65 0) := by
 intro L hL vs H
 have h1 : E_zdj.lp (yal (yab Tryz.f65 0)) = some zdj.l4.entry := by kernel_rfl
 have h2 : L = zdj.l4.entry := Option.some.inj (hL.symm.trans h1)
 subst h2
 by_cases hx : ∃ (x0 : Int) (x1 : Int) (x2 : Nat → Int) (x3 : Nat → Int), vs = [EV.int IntKind.i64 x0, EV.ptr 0 [], EV.ptr 1 [], EV.int IntKind.i64 x1] ∧ H = [some (EV.arr IntKind.u64 6 x2), some (EV.arr IntKind.u64 6 x3)]
 ·obtain ⟨x0, x1, x2, x3, rfl, rfl⟩ := hx
  right; intro K
  exact exists_congr fun n => iff_of_eq (zdj.l4X.eq K n x0 x1 x2 x3).symm
 ·left; intro K h
  simp only [zdj.l4.entry] at h
  split at h
  ·exact hx ⟨_, _, _, _, rfl, rfl⟩
  ·exact h
theorem X_zdj.eq (a0 : Int) (K : EV → yaf → Prop) : yaV E_zdj Tryz.f65 false [.int .i64 a0] [] K = zdj a0 (fun y0 => K (EV.arr IntKind.u64 6 y0) []) := by
 rw [zdj.is]; exact (yag _ _ _ _ _ _).symm.trans (by kernel_rfl)
theorem X_zdj.ok : SoundE Tryz.prog gl 65 e_zdj := by
 refine ya3 (E := E_zdj) (fn := Tryz.f65) rfl tys_ok rfl (show yaZ _ l_zdj from ⟨X_zdr.ok, X_zdu.ok, trivial⟩) mixed (by kernel_rfl) (by kernel_rfl) (by kernel_rfl) 1 (by kernel_rfl) false ⟨zdj.l4X.ok, trivial⟩ ?_
 intro args H
 by_cases hx : ∃ (a0 : Int), args = [.int .i64 a0] ∧ H = []
 ·obtain ⟨a0, rfl, rfl⟩ := hx
  right; intro K
  exact iff_of_eq (X_zdj.eq a0 K).symm
 ·left; intro K h
  simp only [e_zdj] at h
  split at h
  ·exact hx ⟨_, rfl, rfl⟩
  ·exact h
noncomputable def e_zdl : yan := ⟨[none], false, fun args H K => match args, H with
 | [.agg [.int .u64 a0_0, .int .u64 a0_1]], [] => zdl a0_0 a0_1 (fun y0 => K (EV.arr IntKind.u64 6 y0) [])
 | _, _ => False⟩
noncomputable def E_zdl : Env := ⟨look tys, look [], look [], gl, yaq [], false⟩
theorem X_zdl.eq (a0_0 : Int) (a0_1 : Int) (K : EV → yaf → Prop) : yaV E_zdl Tryz.f101 false [.agg [.int .u64 a0_0, .int .u64 a0_1]] [] K = zdl a0_0 a0_1 (fun y0 => K (EV.arr IntKind.u64 6 y0) []) := by
 rw [zdl.is]; exact (yag _ _ _ _ _ _).symm.trans (by kernel_rfl)
theorem X_zdl.ok : SoundE Tryz.prog gl 101 e_zdl := by
 refine ya3 (E := E_zdl) (fn := Tryz.f101) rfl tys_ok rfl (show yaZ _ [] from trivial) mixed (by kernel_rfl) (by kernel_rfl) (by kernel_rfl) 0 (by kernel_rfl) false trivial ?_
 intro args H
 by_cases hx : ∃ (a0_0 : Int) (a0_1 : Int), args = [.agg [.int .u64 a0_0, .int .u64 a0_1]] ∧ H = []
 ·obtain ⟨a0_0, a0_1, rfl, rfl⟩ := hx
  right; intro K
  exact iff_of_eq (X_zdl.eq a0_0 a0_1 K).symm
 ·left; intro K h
  simp only [e_zdl] at h
  split at h
  ·exact hx ⟨_, _, rfl, rfl⟩
  ·exact h
noncomputable def e_zab : yan := ⟨[none], false, fun args H K => match args, H with
 | [.int .u64 a0], [] => zab a0 (fun y0 => K (EV.int IntKind.i64 y0) [])
 | _, _ => False⟩
noncomputable def E_zab : Env := ⟨look tys, look [], look [], gl, yaq [], false⟩
theorem X_zab.eq (a0 : Int) (K : EV → yaf → Prop) : yaV E_zab Tryz.f199 false [.int .u64 a0] [] K = zab a0 (fun y0 => K (EV.int IntKind.i64 y0) []) := by
 rw [zab.is]; exact (yag _ _ _ _ _ _).symm.trans (by kernel_rfl)
theorem X_zab.ok : SoundE Tryz.prog gl 199 e_zab := by
 refine ya3 (E := E_zab) (fn := Tryz.f199) rfl tys_ok rfl (show yaZ _ [] from trivial) mixed (by kernel_rfl) (by kernel_rfl) (by kernel_rfl) 0 (by kernel_rfl) false trivial ?_
 intro args H
 by_cases hx : ∃ (a0 : Int), args = [.int .u64 a0] ∧ H = []
 ·obtain ⟨a0, rfl, rfl⟩ := hx
  right; intro K
  exact iff_of_eq (X_zab.eq a0 K).symm
 ·left; intro K h
  simp only [e_zab] at h
  split at h
  ·exact hx ⟨_, rfl, rfl⟩
  ·exact h
noncomputable def e_zdt : yan := ⟨[none], false, fun args H K => match args, H with
 | [.int .u64 a0], [] => zdt a0 (fun y0 => K (EV.int IntKind.i64 y0) [])
 | _, _ => False⟩
noncomputable def l_zdt : List (Nat × yan) := [(199, e_zab)]
noncomputable def E_zdt : Env := ⟨look tys, look l_zdt, look [], gl, yaq [], false⟩
theorem X_zdt.eq (a0 : Int) (K : EV → yaf → Prop) : yaV E_zdt Tryz.f173 false [.int .u64 a0] [] K = zdt a0 (fun y0 => K (EV.int IntKind.i64 y0) []) := by
 rw [zdt.is]; exact (yag _ _ _ _ _ _).symm.trans (by kernel_rfl)
theorem X_zdt.ok : SoundE Tryz.prog gl 173 e_zdt := by
 refine ya3 (E := E_zdt) (fn := Tryz.f173) rfl tys_ok rfl (show yaZ _ l_zdt from ⟨X_zab.ok, trivial⟩) mixed (by kernel_rfl) (by kernel_rfl) (by kernel_rfl) 0 (by kernel_rfl) false trivial ?_
 intro args H
 by_cases hx : ∃ (a0 : Int), args = [.int .u64 a0] ∧ H = []
 ·obtain ⟨a0, rfl, rfl⟩ := hx
  right; intro K
  exact iff_of_eq (X_zdt.eq a0 K).symm
 ·left; intro K h
  simp only [e_zdt] at h
  split at h
  ·exact hx ⟨_, rfl, rfl⟩
  ·exact h
noncomputable def e_zdi : yan := ⟨[none], false, fun args H K => match args, H with
 | [.arr .u64 6 a0], [] => zdi a0 (fun y0 => K (EV.int IntKind.i64 y0) [])
 | _, _ => False⟩
noncomputable def l_zdi : List (Nat × yan) := [(173, e_zdt)]
noncomputable def E_zdi : Env := ⟨look tys, look l_zdi, look [(2, zdi.l2.entry)], gl, yaq [], false⟩
theorem zdi.l2X.stepEq (R : List EV → yaf → Prop) (K : Ex → List EV → yaf → Prop) (x0 : Nat → Int) (x1 : Int) : yao (yap E_zdi (yab Tryz.f194 0) { (LV.mk 0 [(0, 0)] 4 0 false) with nx := live (.loop (yab Tryz.f194 0)) (LV.mk 0 [(0, 0)] 4 0 false) }) (live (.loop (yab Tryz.f194 0)) (LV.mk 0 [(0, 0)] 4 0 false)) (LV.mk 0 [(0, 0)] 4 0 false) 0 18 R [EV.arr IntKind.u64 6 x0, EV.int IntKind.i64 x1] [] K = zdi.l2.step (fun x0 x1 => R [EV.arr IntKind.u64 6 x0, EV.int IntKind.i64 x1] []) (fun y0 => K .ret [EV.int IntKind.i64 y0] []) (K (.exit 0) [] []) x0 x1 := (yaI _ _ _ _ _ _ _ _ _ _ _).symm.trans (by kernel_rfl)
theorem zdi.l2X.eq (K : Ex → List EV → yaf → Prop) : ∀ (n : Nat) (x0 : Nat → Int) (x1 : Int), yaC E_zdi (yab Tryz.f194 0) (LV.mk 0 [(0, 0)] 4 0 false) 0 18 K n [EV.arr IntKind.u64 6 x0, EV.int IntKind.i64 x1] [] = zdi.l2 (fun y0 => K .ret [EV.int IntKind.i64 y0] []) (K (.exit 0) [] []) n x0 x1
 | 0, _, _ => rfl
 | n + 1, x0, x1 => by
  have ih : (fun (x0 : Nat → Int) (x1 : Int) => yaC E_zdi (yab Tryz.f194 0) (LV.mk 0 [(0, 0)] 4 0 false) 0 18 K n [EV.arr IntKind.u64 6 x0, EV.int IntKind.i64 x1] []) = zdi.l2 (fun y0 => K .ret [EV.int IntKind.i64 y0] []) (K (.exit 0) [] []) n := by funext x0 x1; exact zdi.l2X.eq K n x0 x1
  show yao _ _ _ _ _ (yaC E_zdi (yab Tryz.f194 0) (LV.mk 0 [(0, 0)] 4 0 false) 0 18 K n) [EV.arr IntKind.u64 6 x0, EV.int IntKind.i64 x1] [] K = zdi.l2.step (zdi.l2 (fun y0 => K .ret [EV.int IntKind.i64 y0] []) (K (.exit 0) [] []) n) (fun y0 => K .ret [EV.int IntKind.i64 y0] []) (K (.exit 0) [] []) x0 x1
  rw [← ih]
  exact zdi.l2X.stepEq _ K x0 x1
theorem zdi.l2X.ok : LoopEq E_zdi (yab Tryz.f194 0) := by
 intro L hL vs H
 have h1 : E_zdi.lp (yal (yab Tryz.f194 0)) = some zdi.l2.entry := by kernel_rfl
 have h2 : L = zdi.l2.entry := Option.some.inj (hL.symm.trans h1)
 subst h2
 by_cases hx : ∃ (x0 : Nat → Int) (x1 : Int), vs = [EV.arr IntKind.u64 6 x0, EV.int IntKind.i64 x1] ∧ H = []
 ·obtain ⟨x0, x1, rfl, rfl⟩ := hx
  right; intro K
  exact exists_congr fun n => iff_of_eq (zdi.l2X.eq K n x0 x1).symm
 ·left; intro K h
  simp only [zdi.l2.entry] at h
  split at h
  ·exact hx ⟨_, _, rfl, rfl⟩
  ·exact h
theorem X_zdi.eq (a0 : Nat → Int) (K : EV → yaf → Prop) : yaV E_zdi Tryz.f194 false [.arr .u64 6 a0] [] K = zdi a0 (fun y0 => K (EV.int IntKind.i64 y0) []) := by
 rw [zdi.is]; exact (yag _ _ _ _ _ _).symm.trans (by kernel_rfl)
theorem X_zdi.ok : SoundE Tryz.prog gl 194 e_zdi := by
 refine ya3 (E := E_zdi) (fn := Tryz.f194) rfl tys_ok rfl (show yaZ _ l_zdi from ⟨X_zdt.ok, trivial⟩) mixed (by kernel_rfl) (by kernel_rfl) (by kernel_rfl) 1 (by kernel_rfl) false ⟨zdi.l2X.ok, trivial⟩ ?_
 intro args H
 by_cases hx : ∃ (a0 : Nat → Int), args = [.arr .u64 6 a0] ∧ H = []
 ·obtain ⟨a0, rfl, rfl⟩ := hx
  right; intro K
  exact iff_of_eq (X_zdi.eq a0 K).symm
 ·left; intro K h
  simp only [e_zdi] at h
  split at h
  ·exact hx ⟨_, rfl, rfl⟩
  ·exact h
noncomputable def e_zdo : yan := ⟨[none, none], false, fun args H K => match args, H with
 | [.arr .u64 6 a0, .int .i64 a1], [] => zdo a0 a1 (fun y0 y1 => K (EV.tuple [EV.arr IntKind.u64 6 y0, EV.bool y1]) [])
 | _, _ => False⟩
noncomputable def l_zdo : List (Nat × yan) := [(110, e_zdr), (194, e_zdi)]
noncomputable def E_zdo : Env := ⟨look tys, look l_zdo, look [(5, zdo.l5.entry)], gl, yaq [], false⟩
theorem zdo.l5X.stepEq (R : List EV → yaf → Prop) (K : Ex → List EV → yaf → Prop) (x0 : Bool) (x1 : Int) (x2 : Int) (x3 : Int) (x4 : Nat → Int) (x5 : Nat → Int) : yao (yap E_zdo (yab Tryz.f163 0) { (LV.mk 48 [(0, 48)] 48 0 false) with nx := live (.loop (yab Tryz.f163 0)) (LV.mk 48 [(0, 48)] 48 0 false) }) (live (.loop (yab Tryz.f163 0)) (LV.mk 48 [(0, 48)] 48 0 false)) (LV.mk 48 [(0, 48)] 48 0 false) 0 60 R [EV.ptr 0 [], EV.ptr 1 [], EV.bool x0, EV.int IntKind.i64 x1, EV.int IntKind.u64 x2, EV.int IntKind.i64 x3] [some (EV.arr IntKind.u64 6 x4), some (EV.arr IntKind.u64 6 x5)] K = zdo.l5.step (fun x0 x1 x2 x3 x4 x5 => R [EV.ptr 0 [], EV.ptr 1 [], EV.bool x0, EV.int IntKind.i64 x1, EV.int IntKind.u64 x2, EV.int IntKind.i64 x3] [some (EV.arr IntKind.u64 6 x4), some (EV.arr IntKind.u64 6 x5)]) (fun y0 y1 => K (.exit 0) [EV.ptr 0 [], EV.bool y0] [some (EV.arr IntKind.u64 6 y1)]) x0 x1 x2 x3 x4 x5 := (yaI _ _ _ _ _ _ _ _ _ _ _).symm.trans (by kernel_rfl)
theorem zdo.l5X.eq (K : Ex → List EV → yaf → Prop) : ∀ (n : Nat) (x0 : Bool) (x1 : Int) (x2 : Int) (x3 : Int) (x4 : Nat → Int) (x5 : Nat → Int), yaC E_zdo (yab Tryz.f163 0) (LV.mk 48 [(0, 48)] 48 0 false) 0 60 K n [EV.ptr 0 [], EV.ptr 1 [], EV.bool x0, EV.int IntKind.i64 x1, EV.int IntKind.u64 x2, EV.int IntKind.i64 x3] [some (EV.arr IntKind.u64 6 x4), some (EV.arr IntKind.u64 6 x5)] = zdo.l5 (fun y0 y1 => K (.exit 0) [EV.ptr 0 [], EV.bool y0] [some (EV.arr IntKind.u64 6 y1)]) n x0 x1 x2 x3 x4 x5
 | 0, _, _, _, _, _, _ => rfl
 | n + 1, x0, x1, x2, x3, x4, x5 => by
  have ih : (fun (x0 : Bool) (x1 : Int) (x2 : Int) (x3 : Int) (x4 : Nat → Int) (x5 : Nat → Int) => yaC E_zdo (yab Tryz.f163 0) (LV.mk 48 [(0, 48)] 48 0 false) 0 60 K n [EV.ptr 0 [], EV.ptr 1 [], EV.bool x0, EV.int IntKind.i64 x1, EV.int IntKind.u64 x2, EV.int IntKind.i64 x3] [some (EV.arr IntKind.u64 6 x4), some (EV.arr IntKind.u64 6 x5)]) = zdo.l5 (fun y0 y1 => K (.exit 0) [EV.ptr 0 [], EV.bool y0] [some (EV.arr IntKind.u64 6 y1)]) n := by funext x0 x1 x2 x3 x4 x5; exact zdo.l5X.eq K n x0 x1 x2 x3 x4 x5
  show yao _ _ _ _ _ (yaC E_zdo (yab Tryz.f163 0) (LV.mk 48 [(0, 48)] 48 0 false) 0 60 K n) [EV.ptr 0 [], EV.ptr 1 [], EV.bool x0, EV.int IntKind.i64 x1, EV.int IntKind.u64 x2, EV.int IntKind.i64 x3] [some (EV.arr IntKind.u64 6 x4), some (EV.arr IntKind.u64 6 x5)] K = zdo.l5.step (zdo.l5 (fun y0 y1 => K (.exit 0) [EV.ptr 0 [], EV.bool y0] [some (EV.arr IntKind.u64 6 y1)]) n) (fun y0 y1 => K (.exit 0) [EV.ptr 0 [], EV.bool y0] [some (EV.arr IntKind.u64 6 y1)]) x0 x1 x2 x3 x4 x5
  rw [← ih]
  exact zdo.l5X.stepEq _ K x0 x1 x2 x3 x4 x5
theorem zdo.l5X.ok : LoopEq E_zdo (yab Tryz.f163 0) := by
 intro L hL vs H
 have h1 : E_zdo.lp (yal (yab Tryz.f163 0)) = some zdo.l5.entry := by kernel_rfl
 have h2 : L = zdo.l5.entry := Option.some.inj (hL.symm.trans h1)
 subst h2
 by_cases hx : ∃ (x0 : Bool) (x1 : Int) (x2 : Int) (x3 : Int) (x4 : Nat → Int) (x5 : Nat → Int), vs = [EV.ptr 0 [], EV.ptr 1 [], EV.bool x0, EV.int IntKind.i64 x1, EV.int IntKind.u64 x2, EV.int IntKind.i64 x3] ∧ H = [some (EV.arr IntKind.u64 6 x4), some (EV.arr IntKind.u64 6 x5)]
 ·obtain ⟨x0, x1, x2, x3, x4, x5, rfl, rfl⟩ := hx
  right; intro K
  exact exists_congr fun n => iff_of_eq (zdo.l5X.eq K n x0 x1 x2 x3 x4 x5).symm
 ·left; intro K h
  simp only [zdo.l5.entry] at h
  split at h
  ·exact hx ⟨_, _, _, _, _, _, rfl, rfl⟩
  ·exact h
theorem X_zdo.eq (a0 : Nat → Int) (a1 : Int) (K : EV → yaf → Prop) : yaV E_zdo Tryz.f163 false [.arr .u64 6 a0, .int .i64 a1] [] K = zdo a0 a1 (fun y0 y1 => K (EV.tuple [EV.arr IntKind.u64 6 y0, EV.bool y1]) []) := by
 rw [zdo.is]; exact (yag _ _ _ _ _ _).symm.trans (by kernel_rfl)
theorem X_zdo.ok : SoundE Tryz.prog gl 163 e_zdo := by
 refine ya3 (E := E_zdo) (fn := Tryz.f163) rfl tys_ok rfl (show yaZ _ l_zdo from ⟨X_zdr.ok, X_zdi.ok, trivial⟩) mixed (by kernel_rfl) (by kernel_rfl) (by kernel_rfl) 1 (by kernel_rfl) false ⟨zdo.l5X.ok, trivial⟩ ?_
 intro args H
 by_cases hx : ∃ (a0 : Nat → Int) (a1 : Int), args = [.arr .u64 6 a0, .int .i64 a1] ∧ H = []
 ·obtain ⟨a0, a1, rfl, rfl⟩ := hx
  right; intro K
  exact iff_of_eq (X_zdo.eq a0 a1 K).symm
 ·left; intro K h
  simp only [e_zdo] at h
  split at h
  ·exact hx ⟨_, _, rfl, rfl⟩
  ·exact h
noncomputable def e_zat : yan := ⟨[none, none], false, fun args H K => match args, H with
 | [.int .u8 a0, .agg [.int .u64 a1_0, .int .u64 a1_1]], [] => zat a0 a1_0 a1_1 (fun y0 y1 y2 => K (EV.tuple [EV.bool y0, EV.int IntKind.i64 y1, EV.arr IntKind.u64 6 y2]) [])
 | _, _ => False⟩
noncomputable def l_zat : List (Nat × yan) := [(35, e_zct), (62, e_zdf), (64, e_zde), (65, e_zdj), (101, e_zdl), (102, e_zcu), (163, e_zdo)]
noncomputable def E_zat : Env := ⟨look tys, look l_zat, look [], gl, yaq [], false⟩
theorem X_zat.eq (a0 : Int) (a1_0 : Int) (a1_1 : Int) (K : EV → yaf → Prop) : yaV E_zat Tryz.f98 false [.int .u8 a0, .agg [.int .u64 a1_0, .int .u64 a1_1]] [] K = zat a0 a1_0 a1_1 (fun y0 y1 y2 => K (EV.tuple [EV.bool y0, EV.int IntKind.i64 y1, EV.arr IntKind.u64 6 y2]) []) := by
 rw [zat.is]; exact (yag _ _ _ _ _ _).symm.trans (by kernel_rfl)
theorem X_zat.ok : SoundE Tryz.prog gl 98 e_zat := by
 refine ya3 (E := E_zat) (fn := Tryz.f98) rfl tys_ok rfl (show yaZ _ l_zat from ⟨X_zct.ok, X_zdf.ok, X_zde.ok, X_zdj.ok, X_zdl.ok, X_zcu.ok, X_zdo.ok, trivial⟩) mixed (by kernel_rfl) (by kernel_rfl) (by kernel_rfl) 0 (by kernel_rfl) false trivial ?_
 intro args H
 by_cases hx : ∃ (a0 : Int) (a1_0 : Int) (a1_1 : Int), args = [.int .u8 a0, .agg [.int .u64 a1_0, .int .u64 a1_1]] ∧ H = []
 ·obtain ⟨a0, a1_0, a1_1, rfl, rfl⟩ := hx
  right; intro K
  exact iff_of_eq (X_zat.eq a0 a1_0 a1_1 K).symm
 ·left; intro K h
  simp only [e_zat] at h
  split at h
  ·exact hx ⟨_, _, _, rfl, rfl⟩
  ·exact h
noncomputable def e_zas : yan := ⟨[none, none], false, fun args H K => match args, H with
 | [.int .u8 a0, .agg [.int .u64 a1_0, .int .u64 a1_1]], [] => zas a0 a1_0 a1_1 (fun y0 => K (EV.int IntKind.u8 y0) [])
 | _, _ => False⟩
noncomputable def l_zas : List (Nat × yan) := [(35, e_zct), (40, e_zcp), (62, e_zdf), (98, e_zat)]
noncomputable def E_zas : Env := ⟨look tys, look l_zas, look [], gl, yaq [], false⟩
theorem X_zas.eq (a0 : Int) (a1_0 : Int) (a1_1 : Int) (K : EV → yaf → Prop) : yaV E_zas Tryz.f99 false [.int .u8 a0, .agg [.int .u64 a1_0, .int .u64 a1_1]] [] K = zas a0 a1_0 a1_1 (fun y0 => K (EV.int IntKind.u8 y0) []) := by
 rw [zas.is]; exact (yag _ _ _ _ _ _).symm.trans (by kernel_rfl)
theorem X_zas.ok : SoundE Tryz.prog gl 99 e_zas := by
 refine ya3 (E := E_zas) (fn := Tryz.f99) rfl tys_ok rfl (show yaZ _ l_zas from ⟨X_zct.ok, X_zcp.ok, X_zdf.ok, X_zat.ok, trivial⟩) mixed (by kernel_rfl) (by kernel_rfl) (by kernel_rfl) 0 (by kernel_rfl) false trivial ?_
 intro args H
 by_cases hx : ∃ (a0 : Int) (a1_0 : Int) (a1_1 : Int), args = [.int .u8 a0, .agg [.int .u64 a1_0, .int .u64 a1_1]] ∧ H = []
 ·obtain ⟨a0, a1_0, a1_1, rfl, rfl⟩ := hx
  right; intro K
  exact iff_of_eq (X_zas.eq a0 a1_0 a1_1 K).symm
 ·left; intro K h
  simp only [e_zas] at h
  split at h
  ·exact hx ⟨_, _, _, rfl, rfl⟩
  ·exact h
noncomputable def e_zaq : yan := ⟨[none, none], false, fun args H K => match args, H with
 | [.int .u8 a0, .agg [.int .u64 a1_0, .int .u64 a1_1]], [] => zaq a0 a1_0 a1_1 (fun y0 y1 y2 y3 y4 => K (EV.tuple [EV.agg [EV.int IntKind.u8 y0, EV.arr IntKind.u64 6 y1, EV.int IntKind.i64 y2, EV.arr IntKind.u64 6 y3], EV.int IntKind.i64 y4]) [])
 | _, _ => False⟩
noncomputable def l_zaq : List (Nat × yan) := [(35, e_zct), (39, e_zcq), (97, e_zcr), (98, e_zat), (99, e_zas)]
noncomputable def E_zaq : Env := ⟨look tys, look l_zaq, look [], gl, yaq [], false⟩
theorem X_zaq.eq (a0 : Int) (a1_0 : Int) (a1_1 : Int) (K : EV → yaf → Prop) : yaV E_zaq Tryz.f31 false [.int .u8 a0, .agg [.int .u64 a1_0, .int .u64 a1_1]] [] K = zaq a0 a1_0 a1_1 (fun y0 y1 y2 y3 y4 => K (EV.tuple [EV.agg [EV.int IntKind.u8 y0, EV.arr IntKind.u64 6 y1, EV.int IntKind.i64 y2, EV.arr IntKind.u64 6 y3], EV.int IntKind.i64 y4]) []) := by
 rw [zaq.is]; exact (yag _ _ _ _ _ _).symm.trans (by kernel_rfl)
theorem X_zaq.ok : SoundE Tryz.prog gl 31 e_zaq := by
 refine ya3 (E := E_zaq) (fn := Tryz.f31) rfl tys_ok rfl (show yaZ _ l_zaq from ⟨X_zct.ok, X_zcq.ok, X_zcr.ok, X_zat.ok, X_zas.ok, trivial⟩) mixed (by kernel_rfl) (by kernel_rfl) (by kernel_rfl) 0 (by kernel_rfl) false trivial ?_
 intro args H
 by_cases hx : ∃ (a0 : Int) (a1_0 : Int) (a1_1 : Int), args = [.int .u8 a0, .agg [.int .u64 a1_0, .int .u64 a1_1]] ∧ H = []
 ·obtain ⟨a0, a1_0, a1_1, rfl, rfl⟩ := hx
  right; intro K
  exact iff_of_eq (X_zaq.eq a0 a1_0 a1_1 K).symm
 ·left; intro K h
  simp only [e_zaq] at h
  split at h
  ·exact hx ⟨_, _, _, rfl, rfl⟩
  ·exact h
noncomputable def e_zak : yan := ⟨[none, none], false, fun args H K => match args, H with
 | [.int .u8 a0, .agg [.int .u64 a1_0, .int .u64 a1_1]], [] => zak a0 a1_0 a1_1 (fun y0 y1 => K (EV.tuple [EV.int IntKind.u8 y0, EV.int IntKind.i64 y1]) [])
 | _, _ => False⟩
noncomputable def l_zak : List (Nat × yan) := [(97, e_zcr), (99, e_zas)]
noncomputable def E_zak : Env := ⟨look tys, look l_zak, look [], gl, yaq [], false⟩
theorem X_zak.eq (a0 : Int) (a1_0 : Int) (a1_1 : Int) (K : EV → yaf → Prop) : yaV E_zak Tryz.f56 false [.int .u8 a0, .agg [.int .u64 a1_0, .int .u64 a1_1]] [] K = zak a0 a1_0 a1_1 (fun y0 y1 => K (EV.tuple [EV.int IntKind.u8 y0, EV.int IntKind.i64 y1]) []) := by
 rw [zak.is]; exact (yag _ _ _ _ _ _).symm.trans (by kernel_rfl)
theorem X_zak.ok : SoundE Tryz.prog gl 56 e_zak := by
 refine ya3 (E := E_zak) (fn := Tryz.f56) rfl tys_ok rfl (show yaZ _ l_zak from ⟨X_zcr.ok, X_zas.ok, trivial⟩) mixed (by kernel_rfl) (by kernel_rfl) (by kernel_rfl) 0 (by kernel_rfl) false trivial ?_
 intro args H
 by_cases hx : ∃ (a0 : Int) (a1_0 : Int) (a1_1 : Int), args = [.int .u8 a0, .agg [.int .u64 a1_0, .int .u64 a1_1]] ∧ H = []
 ·obtain ⟨a0, a1_0, a1_1, rfl, rfl⟩ := hx
  right; intro K
  exact iff_of_eq (X_zak.eq a0 a1_0 a1_1 K).symm
 ·left; intro K h
  simp only [e_zak] at h
  split at h
  ·exact hx ⟨_, _, _, rfl, rfl⟩
  ·exact h
noncomputable def e_zaw : yan := ⟨[], false, fun args H K => match args, H with
 | [], [] => zaw  (fun y0 => K (EV.bool y0) [])
 | _, _ => False⟩
noncomputable def l_zaw : List (Nat × yan) := [(31, e_zaq), (56, e_zak)]
noncomputable def E_zaw : Env := ⟨look tys, look l_zaw, look [], gl, yaq [], false⟩
theorem X_zaw.eq (K : EV → yaf → Prop) : yaV E_zaw Tryz.f14 false [] [] K = zaw  (fun y0 => K (EV.bool y0) []) := by
 rw [zaw.is]; exact (yag _ _ _ _ _ _).symm.trans (by kernel_rfl)
theorem X_zaw.ok : SoundE Tryz.prog gl 14 e_zaw := by
 refine ya3 (E := E_zaw) (fn := Tryz.f14) rfl tys_ok rfl (show yaZ _ l_zaw from ⟨X_zaq.ok, X_zak.ok, trivial⟩) mixed (by kernel_rfl) (by kernel_rfl) (by kernel_rfl) 0 (by kernel_rfl) false trivial ?_
 intro args H
 by_cases hx : args = [] ∧ H = []
 ·obtain ⟨rfl, rfl⟩ := hx
  right; intro K
  exact iff_of_eq (X_zaw.eq  K).symm
 ·left; intro K h
  simp only [e_zaw] at h
  split at h
  ·exact hx ⟨rfl, rfl⟩
  ·exact h
noncomputable def e_zao : yan := ⟨[none, none], false, fun args H K => match args, H with
 | [.int .u8 a0, .agg [.int .u64 a1_0, .int .u64 a1_1]], [] => zao a0 a1_0 a1_1 (fun y0 => K (EV.bool y0) [])
 | _, _ => False⟩
noncomputable def l_zao : List (Nat × yan) := [(62, e_zdf), (97, e_zcr), (101, e_zdl), (102, e_zcu)]
noncomputable def E_zao : Env := ⟨look tys, look l_zao, look [], gl, yaq [], false⟩
theorem X_zao.eq (a0 : Int) (a1_0 : Int) (a1_1 : Int) (K : EV → yaf → Prop) : yaV E_zao Tryz.f34 false [.int .u8 a0, .agg [.int .u64 a1_0, .int .u64 a1_1]] [] K = zao a0 a1_0 a1_1 (fun y0 => K (EV.bool y0) []) := by
 rw [zao.is]; exact (yag _ _ _ _ _ _).symm.trans (by kernel_rfl)
theorem X_zao.ok : SoundE Tryz.prog gl 34 e_zao := by
 refine ya3 (E := E_zao) (fn := Tryz.f34) rfl tys_ok rfl (show yaZ _ l_zao from ⟨X_zdf.ok, X_zcr.ok, X_zdl.ok, X_zcu.ok, trivial⟩) mixed (by kernel_rfl) (by kernel_rfl) (by kernel_rfl) 0 (by kernel_rfl) false trivial ?_
 intro args H
 by_cases hx : ∃ (a0 : Int) (a1_0 : Int) (a1_1 : Int), args = [.int .u8 a0, .agg [.int .u64 a1_0, .int .u64 a1_1]] ∧ H = []
 ·obtain ⟨a0, a1_0, a1_1, rfl, rfl⟩ := hx
  right; intro K
  exact iff_of_eq (X_zao.eq a0 a1_0 a1_1 K).symm
 ·left; intro K h
  simp only [e_zao] at h
  split at h
  ·exact hx ⟨_, _, _, rfl, rfl⟩
  ·exact h
noncomputable def e_zaa : yan := ⟨[none], false, fun args H K => match args, H with
 | [.int .u64 a0], [] => zaa a0 (fun y0 => K (EV.int IntKind.i64 y0) [])
 | _, _ => False⟩
noncomputable def E_zaa : Env := ⟨look tys, look [], look [], gl, yaq [], false⟩
theorem X_zaa.eq (a0 : Int) (K : EV → yaf → Prop) : yaV E_zaa Tryz.f165 false [.int .u64 a0] [] K = zaa a0 (fun y0 => K (EV.int IntKind.i64 y0) []) := by
 rw [zaa.is]; exact (yag _ _ _ _ _ _).symm.trans (by kernel_rfl)
theorem X_zaa.ok : SoundE Tryz.prog gl 165 e_zaa := by
 refine ya3 (E := E_zaa) (fn := Tryz.f165) rfl tys_ok rfl (show yaZ _ [] from trivial) mixed (by kernel_rfl) (by kernel_rfl) (by kernel_rfl) 0 (by kernel_rfl) false trivial ?_
 intro args H
 by_cases hx : ∃ (a0 : Int), args = [.int .u64 a0] ∧ H = []
 ·obtain ⟨a0, rfl, rfl⟩ := hx
  right; intro K
  exact iff_of_eq (X_zaa.eq a0 K).symm
 ·left; intro K h
  simp only [e_zaa] at h
  split at h
  ·exact hx ⟨_, rfl, rfl⟩
  ·exact h
noncomputable def e_zds : yan := ⟨[none], false, fun args H K => match args, H with
 | [.int .u64 a0], [] => zds a0 (fun y0 => K (EV.int IntKind.i64 y0) [])
 | _, _ => False⟩
noncomputable def l_zds : List (Nat × yan) := [(165, e_zaa)]
noncomputable def E_zds : Env := ⟨look tys, look l_zds, look [], gl, yaq [], false⟩
theorem X_zds.eq (a0 : Int) (K : EV → yaf → Prop) : yaV E_zds Tryz.f105 false [.int .u64 a0] [] K = zds a0 (fun y0 => K (EV.int IntKind.i64 y0) []) := by
 rw [zds.is]; exact (yag _ _ _ _ _ _).symm.trans (by kernel_rfl)
theorem X_zds.ok : SoundE Tryz.prog gl 105 e_zds := by
 refine ya3 (E := E_zds) (fn := Tryz.f105) rfl tys_ok rfl (show yaZ _ l_zds from ⟨X_zaa.ok, trivial⟩) mixed (by kernel_rfl) (by kernel_rfl) (by kernel_rfl) 0 (by kernel_rfl) false trivial ?_
 intro args H
 by_cases hx : ∃ (a0 : Int), args = [.int .u64 a0] ∧ H = []
 ·obtain ⟨a0, rfl, rfl⟩ := hx
  right; intro K
  exact iff_of_eq (X_zds.eq a0 K).symm
 ·left; intro K h
  simp only [e_zds] at h
  split at h
  ·exact hx ⟨_, rfl, rfl⟩
  ·exact h
noncomputable def e_zdh : yan := ⟨[none], false, fun args H K => match args, H with
 | [.arr .u64 6 a0], [] => zdh a0 (fun y0 => K (EV.int IntKind.i64 y0) [])
 | _, _ => False⟩
noncomputable def l_zdh : List (Nat × yan) := [(105, e_zds)]
noncomputable def E_zdh : Env := ⟨look tys, look l_zdh, look [(2, zdh.l2.entry)], gl, yaq [], false⟩
theorem zdh.l2X.stepEq (R : List EV → yaf → Prop) (K : Ex → List EV → yaf → Prop) (x0 : Int) (x1 : Nat → Int) : yao (yap E_zdh (yab Tryz.f37 0) { (LV.mk 0 [(0, 0)] 4 0 false) with nx := live (.loop (yab Tryz.f37 0)) (LV.mk 0 [(0, 0)] 4 0 false) }) (live (.loop (yab Tryz.f37 0)) (LV.mk 0 [(0, 0)] 4 0 false)) (LV.mk 0 [(0, 0)] 4 0 false) 0 19 R [EV.ptr 0 [], EV.int IntKind.i64 x0] [some (EV.arr IntKind.u64 6 x1)] K = zdh.l2.step (fun x0 x1 => R [EV.ptr 0 [], EV.int IntKind.i64 x0] [some (EV.arr IntKind.u64 6 x1)]) (fun y0 => K .ret [EV.int IntKind.i64 y0] []) (K (.exit 0) [] []) x0 x1 := (yaI _ _ _ _ _ _ _ _ _ _ _).symm.trans (by kernel_rfl)
theorem zdh.l2X.eq (K : Ex → List EV → yaf → Prop) : ∀ (n : Nat) (x0 : Int) (x1 : Nat → Int), yaC E_zdh (yab Tryz.f37 0) (LV.mk 0 [(0, 0)] 4 0 false) 0 19 K n [EV.ptr 0 [], EV.int IntKind.i64 x0] [some (EV.arr IntKind.u64 6 x1)] = zdh.l2 (fun y0 => K .ret [EV.int IntKind.i64 y0] []) (K (.exit 0) [] []) n x0 x1
 | 0, _, _ => rfl
 | n + 1, x0, x1 => by
  have ih : (fun (x0 : Int) (x1 : Nat → Int) => yaC E_zdh (yab Tryz.f37 0) (LV.mk 0 [(0, 0)] 4 0 false) 0 19 K n [EV.ptr 0 [], EV.int IntKind.i64 x0] [some (EV.arr IntKind.u64 6 x1)]) = zdh.l2 (fun y0 => K .ret [EV.int IntKind.i64 y0] []) (K (.exit 0) [] []) n := by funext x0 x1; exact zdh.l2X.eq K n x0 x1
  show yao _ _ _ _ _ (yaC E_zdh (yab Tryz.f37 0) (LV.mk 0 [(0, 0)] 4 0 false) 0 19 K n) [EV.ptr 0 [], EV.int IntKind.i64 x0] [some (EV.arr IntKind.u64 6 x1)] K = zdh.l2.step (zdh.l2 (fun y0 => K .ret [EV.int IntKind.i64 y0] []) (K (.exit 0) [] []) n) (fun y0 => K .ret [EV.int IntKind.i64 y0] []) (K (.exit 0) [] []) x0 x1
  rw [← ih]
  exact zdh.l2X.stepEq _ K x0 x1
theorem zdh.l2X.ok : LoopEq E_zdh (yab Tryz.f37 0) := by
 intro L hL vs H
 have h1 : E_zdh.lp (yal (yab Tryz.f37 0)) = some zdh.l2.entry := by kernel_rfl
 have h2 : L = zdh.l2.entry := Option.some.inj (hL.symm.trans h1)
 subst h2
 by_cases hx : ∃ (x0 : Int) (x1 : Nat → Int), vs = [EV.ptr 0 [], EV.int IntKind.i64 x0] ∧ H = [some (EV.arr IntKind.u64 6 x1)]
 ·obtain ⟨x0, x1, rfl, rfl⟩ := hx
  right; intro K
  exact exists_congr fun n => iff_of_eq (zdh.l2X.eq K n x0 x1).symm
 ·left; intro K h
  simp only [zdh.l2.entry] at h
  split at h
  ·exact hx ⟨_, _, rfl, rfl⟩
  ·exact h
theorem X_zdh.eq (a0 : Nat → Int) (K : EV → yaf → Prop) : yaV E_zdh Tryz.f37 false [.arr .u64 6 a0] [] K = zdh a0 (fun y0 => K (EV.int IntKind.i64 y0) []) := by
 rw [zdh.is]; exact (yag _ _ _ _ _ _).symm.trans (by kernel_rfl)
theorem X_zdh.ok : SoundE Tryz.prog gl 37 e_zdh := by
 refine ya3 (E := E_zdh) (fn := Tryz.f37) rfl tys_ok rfl (show yaZ _ l_zdh from ⟨X_zds.ok, trivial⟩) mixed (by kernel_rfl) (by kernel_rfl) (by kernel_rfl) 1 (by kernel_rfl) false ⟨zdh.l2X.ok, trivial⟩ ?_
 intro args H
 by_cases hx : ∃ (a0 : Nat → Int), args = [.arr .u64 6 a0] ∧ H = []
 ·obtain ⟨a0, rfl, rfl⟩ := hx
  right; intro K
  exact iff_of_eq (X_zdh.eq a0 K).symm
 ·left; intro K h
  simp only [e_zdh] at h
  split at h
  ·exact hx ⟨_, rfl, rfl⟩
  ·exact h
noncomputable def e_zdp : yan := ⟨[none], false, fun args H K => match args, H with
 | [.arr .u64 6 a0], [] => zdp a0 (fun y0 => K (EV.str y0) [])
 | _, _ => False⟩
noncomputable def l_zdp : List (Nat × yan) := [(37, e_zdh)]
noncomputable def E_zdp : Env := ⟨look tys, look l_zdp, look [(4, zdp.l4.entry)], gl, yaq [], false⟩
theorem zdp.l4X.stepEq (R : List EV → yaf → Prop) (K : Ex → List EV → yaf → Prop) (x0 : Int) (x1 : Nat) (x2 : Nat) (x3 : Int) (x4 : Int) (x5 : Nat → Int) (x6 : Nat) (x7 : Nat → Int) : yao (yap E_zdp (yab Tryz.f91 0) { (LV.mk 16 [(0, 16)] 4 0 false) with nx := live (.loop (yab Tryz.f91 0)) (LV.mk 16 [(0, 16)] 4 0 false) }) (live (.loop (yab Tryz.f91 0)) (LV.mk 16 [(0, 16)] 4 0 false)) (LV.mk 16 [(0, 16)] 4 0 false) 0 40 R [EV.ptr 0 [], EV.int IntKind.i64 x0, EV.slice 1 0 x1 (some x2) 1, EV.int IntKind.i64 x3, EV.int IntKind.i64 x4] [some (EV.arr IntKind.u64 6 x5), some (EV.arr IntKind.u8 x6 x7)] K = zdp.l4.step (fun x0 x1 x2 x3 x4 x5 x6 x7 => R [EV.ptr 0 [], EV.int IntKind.i64 x0, EV.slice 1 0 x1 (some x2) 1, EV.int IntKind.i64 x3, EV.int IntKind.i64 x4] [some (EV.arr IntKind.u64 6 x5), some (EV.arr IntKind.u8 x6 x7)]) (fun y0 y1 y2 y3 => K (.exit 0) [EV.slice 0 0 y0 (some y1) 1] [some (EV.arr IntKind.u8 y2 y3)]) x0 x1 x2 x3 x4 x5 x6 x7 := (yaI _ _ _ _ _ _ _ _ _ _ _).symm.trans (by kernel_rfl)
theorem zdp.l4X.eq (K : Ex → List EV → yaf → Prop) : ∀ (n : Nat) (x0 : Int) (x1 : Nat) (x2 : Nat) (x3 : Int) (x4 : Int) (x5 : Nat → Int) (x6 : Nat) (x7 : Nat → Int), yaC E_zdp (yab Tryz.f91 0) (LV.mk 16 [(0, 16)] 4 0 false) 0 40 K n [EV.ptr 0 [], EV.int IntKind.i64 x0, EV.slice 1 0 x1 (some x2) 1, EV.int IntKind.i64 x3, EV.int IntKind.i64 x4] [some (EV.arr IntKind.u64 6 x5), some (EV.arr IntKind.u8 x6 x7)] = zdp.l4 (fun y0 y1 y2 y3 => K (.exit 0) [EV.slice 0 0 y0 (some y1) 1] [some (EV.arr IntKind.u8 y2 y3)]) n x0 x1 x2 x3 x4 x5 x6 x7
 | 0, _, _, _, _, _, _, _, _ => rfl
 | n + 1, x0, x1, x2, x3, x4, x5, x6, x7 => by
  have ih : (fun (x0 : Int) (x1 : Nat) (x2 : Nat) (x3 : Int) (x4 : Int) (x5 : Nat → Int) (x6 : Nat) (x7 : Nat → Int) => yaC E_zdp (yab Tryz.f91 0) (LV.mk 16 [(0, 16)] 4 0 false) 0 40 K n [EV.ptr 0 [], EV.int IntKind.i64 x0, EV.slice 1 0 x1 (some x2) 1, EV.int IntKind.i64 x3, EV.int IntKind.i64 x4] [some (EV.arr IntKind.u64 6 x5), some (EV.arr IntKind.u8 x6 x7)]) = zdp.l4 (fun y0 y1 y2 y3 => K (.exit 0) [EV.slice 0 0 y0 (some y1) 1] [some (EV.arr IntKind.u8 y2 y3)]) n := by funext x0 x1 x2 x3 x4 x5 x6 x7; exact zdp.l4X.eq K n x0 x1 x2 x3 x4 x5 x6 x7
  show yao _ _ _ _ _ (yaC E_zdp (yab Tryz.f91 0) (LV.mk 16 [(0, 16)] 4 0 false) 0 40 K n) [EV.ptr 0 [], EV.int IntKind.i64 x0, EV.slice 1 0 x1 (some x2) 1, EV.int IntKind.i64 x3, EV.int IntKind.i64 x4] [some (EV.arr IntKind.u64 6 x5), some (EV.arr IntKind.u8 x6 x7)] K = zdp.l4.step (zdp.l4 (fun y0 y1 y2 y3 => K (.exit 0) [EV.slice 0 0 y0 (some y1) 1] [some (EV.arr IntKind.u8 y2 y3)]) n) (fun y0 y1 y2 y3 => K (.exit 0) [EV.slice 0 0 y0 (some y1) 1] [some (EV.arr IntKind.u8 y2 y3)]) x0 x1 x2 x3 x4 x5 x6 x7
  rw [← ih]
  exact zdp.l4X.stepEq _ K x0 x1 x2 x3 x4 x5 x6 x7
theorem zdp.l4X.ok : LoopEq E_zdp (yab Tryz.f91 0) := by
 intro L hL vs H
 have h1 : E_zdp.lp (yal (yab Tryz.f91 0)) = some zdp.l4.entry := by kernel_rfl
 have h2 : L = zdp.l4.entry := Option.some.inj (hL.symm.trans h1)
 subst h2
 by_cases hx : ∃ (x0 : Int) (x1 : Nat) (x2 : Nat) (x3 : Int) (x4 : Int) (x5 : Nat → Int) (x6 : Nat) (x7 : Nat → Int), vs = [EV.ptr 0 [], EV.int IntKind.i64 x0, EV.slice 1 0 x1 (some x2) 1, EV.int IntKind.i64 x3, EV.int IntKind.i64 x4] ∧ H = [some (EV.arr IntKind.u64 6 x5), some (EV.arr IntKind.u8 x6 x7)]
 ·obtain ⟨x0, x1, x2, x3, x4, x5, x6, x7, rfl, rfl⟩ := hx
  right; intro K
  exact exists_congr fun n => iff_of_eq (zdp.l4X.eq K n x0 x1 x2 x3 x4 x5 x6 x7).symm
 ·left; intro K h
  simp only [zdp.l4.entry] at h
  split at h
  ·exact hx ⟨_, _, _, _, _, _, _, _, rfl, rfl⟩
  ·exact h
theorem X_zdp.eq (a0 : Nat → Int) (K : EV → yaf → Prop) : yaV E_zdp Tryz.f91 false [.arr .u64 6 a0] [] K = zdp a0 (fun y0 => K (EV.str y0) []) := by
 rw [zdp.is]; exact (yag _ _ _ _ _ _).symm.trans (by kernel_rfl)
theorem X_zdp.ok : SoundE Tryz.prog gl 91 e_zdp := by
 refine ya3 (E := E_zdp) (fn := Tryz.f91) rfl tys_ok rfl (show yaZ _ l_zdp from ⟨X_zdh.ok, trivial⟩) mixed (by kernel_rfl) (by kernel_rfl) (by kernel_rfl) 1 (by kernel_rfl) false ⟨zdp.l4X.ok, trivial⟩ ?_
 intro args H
 by_cases hx : ∃ (a0 : Nat → Int), args = [.arr .u64 6 a0] ∧ H = []
 ·obtain ⟨a0, rfl, rfl⟩ := hx
  right; intro K
  exact iff_of_eq (X_zdp.eq a0 K).symm
 ·left; intro K h
  simp only [e_zdp] at h
  split at h
  ·exact hx ⟨_, rfl, rfl⟩
  ·exact h
open Go.Shelf in
def lays_strconv_Itoa_ren : Go.Shelf.Ren := ⟨fun | 171 => 92 | 243 => 149 | 246 => 188 | 283 => 203 | 284 => 204 | 285 => 205 | 286 => 206 | 129 => 165 | 317 => 217 | 318 => 218 | 319 => 219 | 320 => 220 | 337 => 228 | 338 => 199 | n => n, fun | 3 => 3 | 9 => 9 | 2 => 2 | 4 => 4 | 171 => 221 | 0 => 0 | 53 => 24 | 37 => 119 | 5 => 5 | 173 => 223 | 212 => 235 | 51 => 161 | 20 => 20 | 213 => 236 | 46 => 121 | 232 => 252 | 233 => 232 | n => n, fun | 17 => 1 | 18 => 5 | 19 => 0 | n => n⟩
open Go.Shelf in
theorem lays_strconv_Itoa : Go.Proofs.LaysM.n171 Tryz.prog lays_strconv_Itoa_ren where
 mixed := by kernel_rfl
 f129 := Tryz.func165.trans (congrArg some (by kernel_rfl))
 f171 := Tryz.func92.trans (congrArg some (by kernel_rfl))
 f243 := Tryz.func149.trans (congrArg some (by kernel_rfl))
 f246 := Tryz.func188.trans (congrArg some (by kernel_rfl))
 f283 := Tryz.func203.trans (congrArg some (by kernel_rfl))
 f284 := Tryz.func204.trans (congrArg some (by kernel_rfl))
 f285 := Tryz.func205.trans (congrArg some (by kernel_rfl))
 f286 := Tryz.func206.trans (congrArg some (by kernel_rfl))
 f317 := Tryz.func217.trans (congrArg some (by kernel_rfl))
 f318 := Tryz.func218.trans (congrArg some (by kernel_rfl))
 f319 := Tryz.func219.trans (congrArg some (by kernel_rfl))
 f320 := Tryz.func220.trans (congrArg some (by kernel_rfl))
 f337 := Tryz.func228.trans (congrArg some (by kernel_rfl))
 f338 := Tryz.func199.trans (congrArg some (by kernel_rfl))
 t0 := Tryz.underlying0
 a0 := Tryz.isAgg0
 z0 := Tryz.sizeOf0
 v0 := Tryz.zeroValue0
 t2 := Tryz.underlying2
 a2 := Tryz.isAgg2
 z2 := Tryz.sizeOf2
 v2 := Tryz.zeroValue2
 t3 := Tryz.underlying3
 a3 := Tryz.isAgg3
 z3 := Tryz.sizeOf3
 v3 := Tryz.zeroValue3
 t4 := Tryz.underlying4
 a4 := Tryz.isAgg4
 z4 := Tryz.sizeOf4
 v4 := Tryz.zeroValue4
 t5 := Tryz.underlying5
 a5 := Tryz.isAgg5
 z5 := Tryz.sizeOf5
 v5 := Tryz.zeroValue5
 t9 := Tryz.underlying9
 a9 := Tryz.isAgg9
 z9 := Tryz.sizeOf9
 v9 := Tryz.zeroValue9
 t20 := Tryz.underlying20
 a20 := Tryz.isAgg20
 z20 := Tryz.sizeOf20
 v20 := Tryz.zeroValue20
 t37 := Tryz.underlying119
 a37 := Tryz.isAgg119
 z37 := Tryz.sizeOf119
 v37 := Tryz.zeroValue119
 t46 := Tryz.underlying121
 a46 := Tryz.isAgg121
 z46 := Tryz.sizeOf121
 v46 := Tryz.zeroValue121
 t51 := Tryz.underlying161
 a51 := Tryz.isAgg161
 z51 := Tryz.sizeOf161
 v51 := Tryz.zeroValue161
 t53 := Tryz.underlying24
 a53 := Tryz.isAgg24
 z53 := Tryz.sizeOf24
 v53 := Tryz.zeroValue24
 t171 := Tryz.underlying221
 a171 := Tryz.isAgg221
 z171 := Tryz.sizeOf221
 v171 := Tryz.zeroValue221
 t173 := Tryz.underlying223
 a173 := Tryz.isAgg223
 z173 := Tryz.sizeOf223
 v173 := Tryz.zeroValue223
 t212 := Tryz.underlying235
 a212 := Tryz.isAgg235
 z212 := Tryz.sizeOf235
 v212 := Tryz.zeroValue235
 t213 := Tryz.underlying236
 a213 := Tryz.isAgg236
 z213 := Tryz.sizeOf236
 t232 := Tryz.underlying252
 a232 := Tryz.isAgg252
 z232 := Tryz.sizeOf252
 v232 := Tryz.zeroValue252
 t233 := Tryz.underlying232
 a233 := Tryz.isAgg232
 z233 := Tryz.sizeOf232
 v233 := Tryz.zeroValue232
 g17 := by kernel_rfl
 g18 := by kernel_rfl
 g19 := by kernel_rfl
 i0 := by kernel_rfl
 i2 := by kernel_rfl
 i3 := by kernel_rfl
 i4 := by kernel_rfl
 i5 := by kernel_rfl
 i9 := by kernel_rfl
 i20 := by kernel_rfl
 i37 := by kernel_rfl
 i46 := by kernel_rfl
 i51 := by kernel_rfl
 i53 := by kernel_rfl
 i171 := by kernel_rfl
 i173 := by kernel_rfl
 i212 := by kernel_rfl
 i232 := by kernel_rfl
 i233 := by kernel_rfl
 m17 := by kernel_rfl
 m18 := by kernel_rfl
 m19 := by kernel_rfl
theorem X_zdb.ok : SoundE Tryz.prog gl 92 yor := yqA (g := 1) lays_strconv_Itoa (by kernel_rfl) (by kernel_rfl) (by kernel_rfl) ⟨_, Tryz.func92, by kernel_rfl, by kernel_rfl⟩
noncomputable def e_zap : yan := ⟨[none, none], false, fun args H K => match args, H with
 | [.int .u8 a0, .agg [.int .u64 a1_0, .int .u64 a1_1]], [] => zap a0 a1_0 a1_1 (fun y0 y1 => K (EV.tuple [EV.str y0, EV.int IntKind.i64 y1]) [])
 | _, _ => False⟩
noncomputable def l_zap : List (Nat × yan) := [(31, e_zaq), (34, e_zao), (91, e_zdp), (92, yor)]
noncomputable def E_zap : Env := ⟨look tys, look l_zap, look [], gl, yaq [], false⟩
theorem X_zap.eq (a0 : Int) (a1_0 : Int) (a1_1 : Int) (K : EV → yaf → Prop) : yaV E_zap Tryz.f27 false [.int .u8 a0, .agg [.int .u64 a1_0, .int .u64 a1_1]] [] K = zap a0 a1_0 a1_1 (fun y0 y1 => K (EV.tuple [EV.str y0, EV.int IntKind.i64 y1]) []) := by
 rw [zap.is]; exact (yag _ _ _ _ _ _).symm.trans (by kernel_rfl)
theorem X_zap.ok : SoundE Tryz.prog gl 27 e_zap := by
 refine ya3 (E := E_zap) (fn := Tryz.f27) rfl tys_ok rfl (show yaZ _ l_zap from ⟨X_zaq.ok, X_zao.ok, X_zdp.ok, X_zdb.ok, trivial⟩) mixed (by kernel_rfl) (by kernel_rfl) (by kernel_rfl) 0 (by kernel_rfl) false trivial ?_
 intro args H
 by_cases hx : ∃ (a0 : Int) (a1_0 : Int) (a1_1 : Int), args = [.int .u8 a0, .agg [.int .u64 a1_0, .int .u64 a1_1]] ∧ H = []
 ·obtain ⟨a0, a1_0, a1_1, rfl, rfl⟩ := hx
  right; intro K
  exact iff_of_eq (X_zap.eq a0 a1_0 a1_1 K).symm
 ·left; intro K h
  simp only [e_zap] at h
  split at h
  ·exact hx ⟨_, _, _, rfl, rfl⟩
  ·exact h
noncomputable def e_zca : yan := ⟨[none], false, fun args H K => match args, H with
 | [.int .u8 a0], [] => zca a0 (fun y0 => K (EV.int IntKind.i64 y0) [])
 | _, _ => False⟩
noncomputable def E_zca : Env := ⟨look tys, look [], look [], gl, yaq [], false⟩
theorem X_zca.eq (a0 : Int) (K : EV → yaf → Prop) : yaV E_zca Tryz.f70 false [.int .u8 a0] [] K = zca a0 (fun y0 => K (EV.int IntKind.i64 y0) []) := by
 rw [zca.is]; exact (yag _ _ _ _ _ _).symm.trans (by kernel_rfl)
theorem X_zca.ok : SoundE Tryz.prog gl 70 e_zca := by
 refine ya3 (E := E_zca) (fn := Tryz.f70) rfl tys_ok rfl (show yaZ _ [] from trivial) mixed (by kernel_rfl) (by kernel_rfl) (by kernel_rfl) 0 (by kernel_rfl) false trivial ?_
 intro args H
 by_cases hx : ∃ (a0 : Int), args = [.int .u8 a0] ∧ H = []
 ·obtain ⟨a0, rfl, rfl⟩ := hx
  right; intro K
  exact iff_of_eq (X_zca.eq a0 K).symm
 ·left; intro K h
  simp only [e_zca] at h
  split at h
  ·exact hx ⟨_, rfl, rfl⟩
  ·exact h
noncomputable def e_zbu : yan := ⟨[none], false, fun args H K => match args, H with
 | [.int .u8 a0], [] => zbu a0 (fun y0 => K (EV.int IntKind.i64 y0) [])
 | _, _ => False⟩
noncomputable def E_zbu : Env := ⟨look tys, look [], look [], gl, yaq [], false⟩
theorem X_zbu.eq (a0 : Int) (K : EV → yaf → Prop) : yaV E_zbu Tryz.f72 false [.int .u8 a0] [] K = zbu a0 (fun y0 => K (EV.int IntKind.i64 y0) []) := by
 rw [zbu.is]; exact (yag _ _ _ _ _ _).symm.trans (by kernel_rfl)
theorem X_zbu.ok : SoundE Tryz.prog gl 72 e_zbu := by
 refine ya3 (E := E_zbu) (fn := Tryz.f72) rfl tys_ok rfl (show yaZ _ [] from trivial) mixed (by kernel_rfl) (by kernel_rfl) (by kernel_rfl) 0 (by kernel_rfl) false trivial ?_
 intro args H
 by_cases hx : ∃ (a0 : Int), args = [.int .u8 a0] ∧ H = []
 ·obtain ⟨a0, rfl, rfl⟩ := hx
  right; intro K
  exact iff_of_eq (X_zbu.eq a0 K).symm
 ·left; intro K h
  simp only [e_zbu] at h
  split at h
  ·exact hx ⟨_, rfl, rfl⟩
  ·exact h
noncomputable def e_zbv : yan := ⟨[none], false, fun args H K => match args, H with
 | [.int .u8 a0], [] => zbv a0 (fun y0 => K (EV.int IntKind.i64 y0) [])
 | _, _ => False⟩
noncomputable def l_zbv : List (Nat × yan) := [(16, e_zcb), (72, e_zbu)]
noncomputable def E_zbv : Env := ⟨look tys, look l_zbv, look [], gl, yaq [], false⟩
theorem X_zbv.eq (a0 : Int) (K : EV → yaf → Prop) : yaV E_zbv Tryz.f73 false [.int .u8 a0] [] K = zbv a0 (fun y0 => K (EV.int IntKind.i64 y0) []) := by
 rw [zbv.is]; exact (yag _ _ _ _ _ _).symm.trans (by kernel_rfl)
theorem X_zbv.ok : SoundE Tryz.prog gl 73 e_zbv := by
 refine ya3 (E := E_zbv) (fn := Tryz.f73) rfl tys_ok rfl (show yaZ _ l_zbv from ⟨X_zcb.ok, X_zbu.ok, trivial⟩) mixed (by kernel_rfl) (by kernel_rfl) (by kernel_rfl) 0 (by kernel_rfl) false trivial ?_
 intro args H
 by_cases hx : ∃ (a0 : Int), args = [.int .u8 a0] ∧ H = []
 ·obtain ⟨a0, rfl, rfl⟩ := hx
  right; intro K
  exact iff_of_eq (X_zbv.eq a0 K).symm
 ·left; intro K h
  simp only [e_zbv] at h
  split at h
  ·exact hx ⟨_, rfl, rfl⟩
  ·exact h
noncomputable def e_zbc : yan := ⟨[none, none], false, fun args H K => match args, H with
 | [.arr .u64 6 a0, .arr .u64 6 a1], [] => zbc a0 a1 (fun y0 => K (EV.arr IntKind.u64 6 y0) [])
 | _, _ => False⟩
noncomputable def E_zbc : Env := ⟨look tys, look [], look [(2, zbc.l2.entry)], gl, yaq [], false⟩
theorem zbc.l2X.stepEq (R : List EV → yaf → Prop) (K : Ex → List EV → yaf → Prop) (x0 : Int) (x1 : Nat → Int) (x2 : Nat → Int) (x3 : Nat → Int) : yao (yap E_zbc (yab Tryz.f78 0) { (LV.mk 20 [(0, 20)] 16 0 false) with nx := live (.loop (yab Tryz.f78 0)) (LV.mk 20 [(0, 20)] 16 0 false) }) (live (.loop (yab Tryz.f78 0)) (LV.mk 20 [(0, 20)] 16 0 false)) (LV.mk 20 [(0, 20)] 16 0 false) 0 20 R [EV.ptr 0 [], EV.ptr 1 [], EV.ptr 2 [], EV.int IntKind.i64 x0] [some (EV.arr IntKind.u64 6 x1), some (EV.arr IntKind.u64 6 x2), some (EV.arr IntKind.u64 6 x3)] K = zbc.l2.step (fun x0 x1 x2 x3 => R [EV.ptr 0 [], EV.ptr 1 [], EV.ptr 2 [], EV.int IntKind.i64 x0] [some (EV.arr IntKind.u64 6 x1), some (EV.arr IntKind.u64 6 x2), some (EV.arr IntKind.u64 6 x3)]) (fun y0 y1 => K (.exit 0) [EV.ptr 0 [], EV.ptr 1 []] [some (EV.arr IntKind.u64 6 y0), some (EV.arr IntKind.u64 6 y1)]) x0 x1 x2 x3 := (yaI _ _ _ _ _ _ _ _ _ _ _).symm.trans (by kernel_rfl)
theorem zbc.l2X.eq (K : Ex → List EV → yaf → Prop) : ∀ (n : Nat) (x0 : Int) (x1 : Nat → Int) (x2 : Nat → Int) (x3 : Nat → Int), yaC E_zbc (yab Tryz.f78 0) (LV.mk 20 [(0, 20)] 16 0 false) 0 20 K n [EV.ptr 0 [], EV.ptr 1 [], EV.ptr 2 [], EV.int IntKind.i64 x0] [some (EV.arr IntKind.u64 6 x1), some (EV.arr IntKind.u64 6 x2), some (EV.arr IntKind.u64 6 x3)] = zbc.l2 (fun y0 y1 => K (.exit 0) [EV.ptr 0 [], EV.ptr 1 []] [some (EV.arr IntKind.u64 6 y0), some (EV.arr IntKind.u64 6 y1)]) n x0 x1 x2 x3
 | 0, _, _, _, _ => rfl
 | n + 1, x0, x1, x2, x3 => by
  have ih : (fun (x0 : Int) (x1 : Nat → Int) (x2 : Nat → Int) (x3 : Nat → Int) => yaC E_zbc (yab Tryz.f78 0) (LV.mk 20 [(0, 20)] 16 0 false) 0 20 K n [EV.ptr 0 [], EV.ptr 1 [], EV.ptr 2 [], EV.int IntKind.i64 x0] [some (EV.arr IntKind.u64 6 x1), some (EV.arr IntKind.u64 6 x2), some (EV.arr IntKind.u64 6 x3)]) = zbc.l2 (fun y0 y1 => K (.exit 0) [EV.ptr 0 [], EV.ptr 1 []] [some (EV.arr IntKind.u64 6 y0), some (EV.arr IntKind.u64 6 y1)]) n := by funext x0 x1 x2 x3; exact zbc.l2X.eq K n x0 x1 x2 x3
  show yao _ _ _ _ _ (yaC E_zbc (yab Tryz.f78 0) (LV.mk 20 [(0, 20)] 16 0 false) 0 20 K n) [EV.ptr 0 [], EV.ptr 1 [], EV.ptr 2 [], EV.int IntKind.i64 x0] [some (EV.arr IntKind.u64 6 x1), some (EV.arr IntKind.u64 6 x2), some (EV.arr IntKind.u64 6 x3)] K = zbc.l2.step (zbc.l2 (fun y0 y1 => K (.exit 0) [EV.ptr 0 [], EV.ptr 1 []] [some (EV.arr IntKind.u64 6 y0), some (EV.arr IntKind.u64 6 y1)]) n) (fun y0 y1 => K (.exit 0) [EV.ptr 0 [], EV.ptr 1 []] [some (EV.arr IntKind.u64 6 y0), some (EV.arr IntKind.u64 6 y1)]) x0 x1 x2 x3
  rw [← ih]
  exact zbc.l2X.stepEq _ K x0 x1 x2 x3
theorem zbc.l2X.ok : LoopEq E_zbc (yab Tryz.f78 0) := by
 intro L hL vs H
 have h1 : E_zbc.lp (yal (yab Tryz.f78 0)) = some zbc.l2.entry := by kernel_rfl
 have h2 : L = zbc.l2.entry := Option.some.inj (hL.symm.trans h1)
 subst h2
 by_cases hx : ∃ (x0 : Int) (x1 : Nat → Int) (x2 : Nat → Int) (x3 : Nat → Int), vs = [EV.ptr 0 [], EV.ptr 1 [], EV.ptr 2 [], EV.int IntKind.i64 x0] ∧ H = [some (EV.arr IntKind.u64 6 x1), some (EV.arr IntKind.u64 6 x2), some (EV.arr IntKind.u64 6 x3)]
 ·obtain ⟨x0, x1, x2, x3, rfl, rfl⟩ := hx
  right; intro K
  exact exists_congr fun n => iff_of_eq (zbc.l2X.eq K n x0 x1 x2 x3).symm
 ·left; intro K h
  simp only [zbc.l2.entry] at h
  split at h
  ·exact hx ⟨_, _, _, _, rfl, rfl⟩
  ·exact h
theorem X_zbc.eq (a0 : Nat → Int) (a1 : Nat → Int) (K : EV → yaf → Prop) : yaV E_zbc Tryz.f78 false [.arr .u64 6 a0, .arr .u64 6 a1] [] K = zbc a0 a1 (fun y0 => K (EV.arr IntKind.u64 6 y0) []) := by
 rw [zbc.is]; exact (yag _ _ _ _ _ _).symm.trans (by kernel_rfl)
theorem X_zbc.ok : SoundE Tryz.prog gl 78 e_zbc := by
 refine ya3 (E := E_zbc) (fn := Tryz.f78) rfl tys_ok rfl (show yaZ _ [] from trivial) mixed (by kernel_rfl) (by kernel_rfl) (by kernel_rfl) 1 (by kernel_rfl) false ⟨zbc.l2X.ok, trivial⟩ ?_
 intro args H
 by_cases hx : ∃ (a0 : Nat → Int) (a1 : Nat → Int), args = [.arr .u64 6 a0, .arr .u64 6 a1] ∧ H = []
 ·obtain ⟨a0, a1, rfl, rfl⟩ := hx
  right; intro K
  exact iff_of_eq (X_zbc.eq a0 a1 K).symm
 ·left; intro K h
  simp only [e_zbc] at h
  split at h
  ·exact hx ⟨_, _, rfl, rfl⟩
  ·exact h
noncomputable def e_zbe : yan := ⟨[none], false, fun args H K => match args, H with
 | [.int .i64 a0], [] => zbe a0 (fun y0 => K (EV.int IntKind.i64 y0) [])
 | _, _ => False⟩
noncomputable def E_zbe : Env := ⟨look tys, look [], look [], gl, yaq [], false⟩
theorem X_zbe.eq (a0 : Int) (K : EV → yaf → Prop) : yaV E_zbe Tryz.f140 false [.int .i64 a0] [] K = zbe a0 (fun y0 => K (EV.int IntKind.i64 y0) []) := by
 rw [zbe.is]; exact (yag _ _ _ _ _ _).symm.trans (by kernel_rfl)
theorem X_zbe.ok : SoundE Tryz.prog gl 140 e_zbe := by
 refine ya3 (E := E_zbe) (fn := Tryz.f140) rfl tys_ok rfl (show yaZ _ [] from trivial) mixed (by kernel_rfl) (by kernel_rfl) (by kernel_rfl) 0 (by kernel_rfl) false trivial ?_
 intro args H
 by_cases hx : ∃ (a0 : Int), args = [.int .i64 a0] ∧ H = []
 ·obtain ⟨a0, rfl, rfl⟩ := hx
  right; intro K
  exact iff_of_eq (X_zbe.eq a0 K).symm
 ·left; intro K h
  simp only [e_zbe] at h
  split at h
  ·exact hx ⟨_, rfl, rfl⟩
  ·exact h
noncomputable def e_zbi : yan := ⟨[none], false, fun args H K => match args, H with
 | [.int .i64 a0], [] => zbi a0 (fun y0 => K (EV.arr IntKind.u64 6 y0) [])
 | _, _ => False⟩
noncomputable def l_zbi : List (Nat × yan) := [(140, e_zbe)]
noncomputable def E_zbi : Env := ⟨look tys, look l_zbi, look [(4, zbi.l4.entry)], gl, yaq [], false⟩
theorem zbi.l4X.stepEq (R : List EV → yaf → Prop) (K : Ex → List EV → yaf → Prop) (x0 : Int) (x1 : Int) (x2 : Nat → Int) (x3 : Nat → Int) : yao (yap E_zbi (yab Tryz.f79 0) { (LV.mk 12 [(0, 12)] 4 0 false) with nx := live (.loop (yab Tryz.f79 0)) (LV.mk 12 [(0, 12)] 4 0 false) }) (live (.loop (yab Tryz.f79 0)) (LV.mk 12 [(0, 12)] 4 0 false)) (LV.mk 12 [(0, 12)] 4 0 false) 0 25 R [EV.int IntKind.i64 x0, EV.ptr 0 [], EV.ptr 1 [], EV.int IntKind.i64 x1] [some (EV.arr IntKind.u64 6 x2), some (EV.arr IntKind.u64 6 x3)] K = zbi.l4.step (fun x0 x1 x2 x3 => R [EV.int IntKind.i64 x0, EV.ptr 0 [], EV.ptr 1 [], EV.int IntKind.i64 x1] [some (EV.arr IntKind.u64 6 x2), some (EV.arr IntKind.u64 6 x3)]) (fun y0 y1 => K (.exit 0) [EV.ptr 0 [], EV.ptr 1 []] [some (EV.arr IntKind.u64 6 y0), some (EV.arr IntKind.u64 6 y1)]) x0 x1 x2 x3 := (yaI _ _ _ _ _ _ _ _ _ _ _).symm.trans (by kernel_rfl)
theorem zbi.l4X.eq (K : Ex → List EV → yaf → Prop) : ∀ (n : Nat) (x0 : Int) (x1 : Int) (x2 : Nat → Int) (x3 : Nat → Int), yaC E_zbi (yab Tryz.f79 0) (LV.mk 12 [(0, 12)] 4 0 false) 0 25 K n [EV.int IntKind.i64 x0, EV.ptr 0 [], EV.ptr 1 [], EV.int IntKind.i64 x1] [some (EV.arr IntKind.u64 6 x2), some (EV.arr IntKind.u64 6 x3)] = zbi.l4 (fun y0 y1 => K (.exit 0) [EV.ptr 0 [], EV.ptr 1 []] [some (EV.arr IntKind.u64 6 y0), some (EV.arr IntKind.u64 6 y1)]) n x0 x1 x2 x3
 | 0, _, _, _, _ => rfl
 | n + 1, x0, x1, x2, x3 => by
  have ih : (fun (x0 : Int) (x1 : Int) (x2 : Nat → Int) (x3 : Nat → Int) => yaC E_zbi (yab Tryz.f79 0) (LV.mk 12 [(0, 12)] 4 0 false) 0 25 K n [EV.int IntKind.i64 x0, EV.ptr 0 [], EV.ptr 1 [], EV.int IntKind.i64 x1] [some (EV.arr IntKind.u64 6 x2), some (EV.arr IntKind.u64 6 x3)]) = zbi.l4 (fun y0 y1 => K (.exit 0) [EV.ptr 0 [], EV.ptr 1 []] [some (EV.arr IntKind.u64 6 y0), some (EV.arr IntKind.u64 6 y1)]) n := by funext x0 x1 x2 x3; exact zbi.l4X.eq K n x0 x1 x2 x3
  show yao _ _ _ _ _ (yaC E_zbi (yab Tryz.f79 0) (LV.mk 12 [(0, 12)] 4 0 false) 0 25 K n) [EV.int IntKind.i64 x0, EV.ptr 0 [], EV.ptr 1 [], EV.int IntKind.i64 x1] [some (EV.arr IntKind.u64 6 x2), some (EV.arr IntKind.u64 6 x3)] K = zbi.l4.step (zbi.l4 (fun y0 y1 => K (.exit 0) [EV.ptr 0 [], EV.ptr 1 []] [some (EV.arr IntKind.u64 6 y0), some (EV.arr IntKind.u64 6 y1)]) n) (fun y0 y1 => K (.exit 0) [EV.ptr 0 [], EV.ptr 1 []] [some (EV.arr IntKind.u64 6 y0), some (EV.arr IntKind.u64 6 y1)]) x0 x1 x2 x3
  rw [← ih]
  exact zbi.l4X.stepEq _ K x0 x1 x2 x3
theorem zbi.l4X.ok : LoopEq E_zbi (yab Tryz.f79 0) := by
 intro L hL vs H
 have h1 : E_zbi.lp (yal (yab Tryz.f79 0)) = some zbi.l4.entry := by kernel_rfl
 have h2 : L = zbi.l4.entry := Option.some.inj (hL.symm.trans h1)
 subst h2
 by_cases hx : ∃ (x0 : Int) (x1 : Int) (x2 : Nat → Int) (x3 : Nat → Int), vs = [EV.int IntKind.i64 x0, EV.ptr 0 [], EV.ptr 1 [], EV.int IntKind.i64 x1] ∧ H = [some (EV.arr IntKind.u64 6 x2), some (EV.arr IntKind.u64 6 x3)]
 ·obtain ⟨x0, x1, x2, x3, rfl, rfl⟩ := hx
  right; intro K
  exact exists_congr fun n => iff_of_eq (zbi.l4X.eq K n x0 x1 x2 x3).symm
 ·left; intro K h
  simp only [zbi.l4.entry] at h
  split at h
  ·exact hx ⟨_, _, _, _, rfl, rfl⟩
  ·exact h
theorem X_zbi.eq (a0 : Int) (K : EV → yaf → Prop) : yaV E_zbi Tryz.f79 false [.int .i64 a0] [] K = zbi a0 (fun y0 => K (EV.arr IntKind.u64 6 y0) []) := by
 rw [zbi.is]; exact (yag _ _ _ _ _ _).symm.trans (by kernel_rfl)
theorem X_zbi.ok : SoundE Tryz.prog gl 79 e_zbi := by
 refine ya3 (E := E_zbi) (fn := Tryz.f79) rfl tys_ok rfl (show yaZ _ l_zbi from ⟨X_zbe.ok, trivial⟩) mixed (by kernel_rfl) (by kernel_rfl) (by kernel_rfl) 1 (by kernel_rfl) false ⟨zbi.l4X.ok, trivial⟩ ?_
 intro args H
 by_cases hx : ∃ (a0 : Int), args = [.int .i64 a0] ∧ H = []
 ·obtain ⟨a0, rfl, rfl⟩ := hx
  right; intro K
  exact iff_of_eq (X_zbi.eq a0 K).symm
 ·left; intro K h
  simp only [e_zbi] at h
  split at h
  ·exact hx ⟨_, rfl, rfl⟩
  ·exact h
noncomputable def e_zbz : yan := ⟨[none], false, fun args H K => match args, H with
 | [.int .u8 a0], [] => zbz a0 (fun y0 => K (EV.int IntKind.i64 y0) [])
 | _, _ => False⟩
noncomputable def l_zbz : List (Nat × yan) := [(72, e_zbu)]
noncomputable def E_zbz : Env := ⟨look tys, look l_zbz, look [], gl, yaq [], false⟩
theorem X_zbz.eq (a0 : Int) (K : EV → yaf → Prop) : yaV E_zbz Tryz.f159 false [.int .u8 a0] [] K = zbz a0 (fun y0 => K (EV.int IntKind.i64 y0) []) := by
 rw [zbz.is]; exact (yag _ _ _ _ _ _).symm.trans (by kernel_rfl)
theorem X_zbz.ok : SoundE Tryz.prog gl 159 e_zbz := by
 refine ya3 (E := E_zbz) (fn := Tryz.f159) rfl tys_ok rfl (show yaZ _ l_zbz from ⟨X_zbu.ok, trivial⟩) mixed (by kernel_rfl) (by kernel_rfl) (by kernel_rfl) 0 (by kernel_rfl) false trivial ?_
 intro args H
 by_cases hx : ∃ (a0 : Int), args = [.int .u8 a0] ∧ H = []
 ·obtain ⟨a0, rfl, rfl⟩ := hx
  right; intro K
  exact iff_of_eq (X_zbz.eq a0 K).symm
 ·left; intro K h
  simp only [e_zbz] at h
  split at h
  ·exact hx ⟨_, rfl, rfl⟩
  ·exact h
noncomputable def e_zbd : yan := ⟨[none, none], false, fun args H K => match args, H with
 | [.arr .u64 6 a0, .int .i64 a1], [] => zbd a0 a1 (fun y0 => K (EV.bool y0) [])
 | _, _ => False⟩
noncomputable def l_zbd : List (Nat × yan) := [(185, e_zaz)]
noncomputable def E_zbd : Env := ⟨look tys, look l_zbd, look [], gl, yaq [], false⟩
theorem X_zbd.eq (a0 : Nat → Int) (a1 : Int) (K : EV → yaf → Prop) : yaV E_zbd Tryz.f178 false [.arr .u64 6 a0, .int .i64 a1] [] K = zbd a0 a1 (fun y0 => K (EV.bool y0) []) := by
 rw [zbd.is]; exact (yag _ _ _ _ _ _).symm.trans (by kernel_rfl)
theorem X_zbd.ok : SoundE Tryz.prog gl 178 e_zbd := by
 refine ya3 (E := E_zbd) (fn := Tryz.f178) rfl tys_ok rfl (show yaZ _ l_zbd from ⟨X_zaz.ok, trivial⟩) mixed (by kernel_rfl) (by kernel_rfl) (by kernel_rfl) 0 (by kernel_rfl) false trivial ?_
 intro args H
 by_cases hx : ∃ (a0 : Nat → Int) (a1 : Int), args = [.arr .u64 6 a0, .int .i64 a1] ∧ H = []
 ·obtain ⟨a0, a1, rfl, rfl⟩ := hx
  right; intro K
  exact iff_of_eq (X_zbd.eq a0 a1 K).symm
 ·left; intro K h
  simp only [e_zbd] at h
  split at h
  ·exact hx ⟨_, _, rfl, rfl⟩
  ·exact h
noncomputable def e_zbm : yan := ⟨[none, none], false, fun args H K => match args, H with
 | [.arr .u64 6 a0, .int .i64 a1], [] => zbm a0 a1 (fun y0 y1 => K (EV.tuple [EV.arr IntKind.u64 6 y0, EV.bool y1]) [])
 | _, _ => False⟩
noncomputable def l_zbm : List (Nat × yan) := [(140, e_zbe), (178, e_zbd)]
noncomputable def E_zbm : Env := ⟨look tys, look l_zbm, look [(5, zbm.l5.entry)], gl, yaq [], false⟩
theorem zbm.l5X.stepEq (R : List EV → yaf → Prop) (K : Ex → List EV → yaf → Prop) (x0 : Int) (x1 : Bool) (x2 : Int) (x3 : Nat → Int) (x4 : Nat → Int) (x5 : Nat → Int) : yao (yap E_zbm (yab Tryz.f179 0) { (LV.mk 208 [(0, 208)] 48 0 false) with nx := live (.loop (yab Tryz.f179 0)) (LV.mk 208 [(0, 208)] 48 0 false) }) (live (.loop (yab Tryz.f179 0)) (LV.mk 208 [(0, 208)] 48 0 false)) (LV.mk 208 [(0, 208)] 48 0 false) 0 41 R [EV.int IntKind.i64 x0, EV.ptr 0 [], EV.ptr 1 [], EV.ptr 2 [], EV.bool x1, EV.int IntKind.i64 x2] [some (EV.arr IntKind.u64 6 x3), some (EV.arr IntKind.u64 6 x4), some (EV.arr IntKind.u64 6 x5)] K = zbm.l5.step (fun x0 x1 x2 x3 x4 x5 => R [EV.int IntKind.i64 x0, EV.ptr 0 [], EV.ptr 1 [], EV.ptr 2 [], EV.bool x1, EV.int IntKind.i64 x2] [some (EV.arr IntKind.u64 6 x3), some (EV.arr IntKind.u64 6 x4), some (EV.arr IntKind.u64 6 x5)]) (fun y0 y1 y2 => K (.exit 0) [EV.ptr 0 [], EV.ptr 1 [], EV.bool y0] [some (EV.arr IntKind.u64 6 y1), some (EV.arr IntKind.u64 6 y2)]) x0 x1 x2 x3 x4 x5 := (yaI _ _ _ _ _ _ _ _ _ _ _).symm.trans (by kernel_rfl)
theorem zbm.l5X.eq (K : Ex → List EV → yaf → Prop) : ∀ (n : Nat) (x0 : Int) (x1 : Bool) (x2 : Int) (x3 : Nat → Int) (x4 : Nat → Int) (x5 : Nat → Int), yaC E_zbm (yab Tryz.f179 0) (LV.mk 208 [(0, 208)] 48 0 false) 0 41 K n [EV.int IntKind.i64 x0, EV.ptr 0 [], EV.ptr 1 [], EV.ptr 2 [], EV.bool x1, EV.int IntKind.i64 x2] [some (EV.arr IntKind.u64 6 x3), some (EV.arr IntKind.u64 6 x4), some (EV.arr IntKind.u64 6 x5)] = zbm.l5 (fun y0 y1 y2 => K (.exit 0) [EV.ptr 0 [], EV.ptr 1 [], EV.bool y0] [some (EV.arr IntKind.u64 6 y1), some (EV.arr IntKind.u64 6 y2)]) n x0 x1 x2 x3 x4 x5
 | 0, _, _, _, _, _, _ => rfl
 | n + 1, x0, x1, x2, x3, x4, x5 => by
  have ih : (fun (x0 : Int) (x1 : Bool) (x2 : Int) (x3 : Nat → Int) (x4 : Nat → Int) (x5 : Nat → Int) => yaC E_zbm (yab Tryz.f179 0) (LV.mk 208 [(0, 208)] 48 0 false) 0 41 K n [EV.int IntKind.i64 x0, EV.ptr 0 [], EV.ptr 1 [], EV.ptr 2 [], EV.bool x1, EV.int IntKind.i64 x2] [some (EV.arr IntKind.u64 6 x3), some (EV.arr IntKind.u64 6 x4), some (EV.arr IntKind.u64 6 x5)]) = zbm.l5 (fun y0 y1 y2 => K (.exit 0) [EV.ptr 0 [], EV.ptr 1 [], EV.bool y0] [some (EV.arr IntKind.u64 6 y1), some (EV.arr IntKind.u64 6 y2)]) n := by funext x0 x1 x2 x3 x4 x5; exact zbm.l5X.eq K n x0 x1 x2 x3 x4 x5
  show yao _ _ _ _ _ (yaC E_zbm (yab Tryz.f179 0) (LV.mk 208 [(0, 208)] 48 0 false) 0 41 K n) [EV.int IntKind.i64 x0, EV.ptr 0 [], EV.ptr 1 [], EV.ptr 2 [], EV.bool x1, EV.int IntKind.i64 x2] [some (EV.arr IntKind.u64 6 x3), some (EV.arr IntKind.u64 6 x4), some (EV.arr IntKind.u64 6 x5)] K = zbm.l5.step (zbm.l5 (fun y0 y1 y2 => K (.exit 0) [EV.ptr 0 [], EV.ptr 1 [], EV.bool y0] [some (EV.arr IntKind.u64 6 y1), some (EV.arr IntKind.u64 6 y2)]) n) (fun y0 y1 y2 => K (.exit 0) [EV.ptr 0 [], EV.ptr 1 [], EV.bool y0] [some (EV.arr IntKind.u64 6 y1), some (EV.arr IntKind.u64 6 y2)]) x0 x1 x2 x3 x4 x5
  rw [← ih]
  exact zbm.l5X.stepEq _ K x0 x1 x2 x3 x4 x5
theorem zbm.l5X.ok : LoopEq E_zbm (yab Tryz.f179 0) := by
 intro L hL vs H
 have h1 : E_zbm.lp (yal (yab Tryz.f179 0)) = some zbm.l5.entry := by kernel_rfl
 have h2 : L = zbm.l5.entry := Option.some.inj (hL.symm.trans h1)
 subst h2
 by_cases hx : ∃ (x0 : Int) (x1 : Bool) (x2 : Int) (x3 : Nat → Int) (x4 : Nat → Int) (x5 : Nat → Int), vs = [EV.int IntKind.i64 x0, EV.ptr 0 [], EV.ptr 1 [], EV.ptr 2 [], EV.bool x1, EV.int IntKind.i64 x2] ∧ H = [some (EV.arr IntKind.u64 6 x3), some (EV.arr IntKind.u64 6 x4), some (EV.arr IntKind.u64 6 x5)]
 ·obtain ⟨x0, x1, x2, x3, x4, x5, rfl, rfl⟩ := hx
  right; intro K
  exact exists_congr fun n => iff_of_eq (zbm.l5X.eq K n x0 x1 x2 x3 x4 x5).symm
 ·left; intro K h
  simp only [zbm.l5.entry] at h
  split at h
  ·exact hx ⟨_, _, _, _, _, _, rfl, rfl⟩
  ·exact h
theorem X_zbm.eq (a0 : Nat → Int) (a1 : Int) (K : EV → yaf → Prop) : yaV E_zbm Tryz.f179 false [.arr .u64 6 a0, .int .i64 a1] [] K = zbm a0 a1 (fun y0 y1 => K (EV.tuple [EV.arr IntKind.u64 6 y0, EV.bool y1]) []) := by
 rw [zbm.is]; exact (yag _ _ _ _ _ _).symm.trans (by kernel_rfl)
theorem X_zbm.ok : SoundE Tryz.prog gl 179 e_zbm := by
 refine ya3 (E := E_zbm) (fn := Tryz.f179) rfl tys_ok rfl (show yaZ _ l_zbm from ⟨X_zbe.ok, X_zbd.ok, trivial⟩) mixed (by kernel_rfl) (by kernel_rfl) (by kernel_rfl) 1 (by kernel_rfl) false ⟨zbm.l5X.ok, trivial⟩ ?_
 intro args H
 by_cases hx : ∃ (a0 : Nat → Int) (a1 : Int), args = [.arr .u64 6 a0, .int .i64 a1] ∧ H = []
 ·obtain ⟨a0, a1, rfl, rfl⟩ := hx
  right; intro K
  exact iff_of_eq (X_zbm.eq a0 a1 K).symm
 ·left; intro K h
  simp only [e_zbm] at h
  split at h
  ·exact hx ⟨_, _, rfl, rfl⟩
  ·exact h
noncomputable def e_zbw : yan := ⟨[none, none], false, fun args H K => match args, H with
 | [.int .u8 a0, .agg [.int .u64 a1_0, .int .u64 a1_1]], [] => zbw a0 a1_0 a1_1 (fun y0 y1 y2 => K (EV.tuple [EV.bool y0, EV.int IntKind.i64 y1, EV.arr IntKind.u64 6 y2]) [])
 | _, _ => False⟩
noncomputable def l_zbw : List (Nat × yan) := [(70, e_zca), (78, e_zbc), (79, e_zbi), (122, e_zbk), (123, e_zcc), (159, e_zbz), (178, e_zbd), (179, e_zbm)]
noncomputable def E_zbw : Env := ⟨look tys, look l_zbw, look [], gl, yaq [], false⟩
theorem X_zbw.eq (a0 : Int) (a1_0 : Int) (a1_1 : Int) (K : EV → yaf → Prop) : yaV E_zbw Tryz.f125 false [.int .u8 a0, .agg [.int .u64 a1_0, .int .u64 a1_1]] [] K = zbw a0 a1_0 a1_1 (fun y0 y1 y2 => K (EV.tuple [EV.bool y0, EV.int IntKind.i64 y1, EV.arr IntKind.u64 6 y2]) []) := by
 rw [zbw.is]; exact (yag _ _ _ _ _ _).symm.trans (by kernel_rfl)
theorem X_zbw.ok : SoundE Tryz.prog gl 125 e_zbw := by
 refine ya3 (E := E_zbw) (fn := Tryz.f125) rfl tys_ok rfl (show yaZ _ l_zbw from ⟨X_zca.ok, X_zbc.ok, X_zbi.ok, X_zbk.ok, X_zcc.ok, X_zbz.ok, X_zbd.ok, X_zbm.ok, trivial⟩) mixed (by kernel_rfl) (by kernel_rfl) (by kernel_rfl) 0 (by kernel_rfl) false trivial ?_
 intro args H
 by_cases hx : ∃ (a0 : Int) (a1_0 : Int) (a1_1 : Int), args = [.int .u8 a0, .agg [.int .u64 a1_0, .int .u64 a1_1]] ∧ H = []
 ·obtain ⟨a0, a1_0, a1_1, rfl, rfl⟩ := hx
  right; intro K
  exact iff_of_eq (X_zbw.eq a0 a1_0 a1_1 K).symm
 ·left; intro K h
  simp only [e_zbw] at h
  split at h
  ·exact hx ⟨_, _, _, rfl, rfl⟩
  ·exact h
noncomputable def e_zce : yan := ⟨[none, none], false, fun args H K => match args, H with
 | [.int .u8 a0, .agg [.int .u64 a1_0, .int .u64 a1_1]], [] => zce a0 a1_0 a1_1 (fun y0 => K (EV.int IntKind.u8 y0) [])
 | _, _ => False⟩
noncomputable def l_zce : List (Nat × yan) := [(70, e_zca), (125, e_zbw), (159, e_zbz), (178, e_zbd)]
noncomputable def E_zce : Env := ⟨look tys, look l_zce, look [], gl, yaq [], false⟩
theorem X_zce.eq (a0 : Int) (a1_0 : Int) (a1_1 : Int) (K : EV → yaf → Prop) : yaV E_zce Tryz.f124 false [.int .u8 a0, .agg [.int .u64 a1_0, .int .u64 a1_1]] [] K = zce a0 a1_0 a1_1 (fun y0 => K (EV.int IntKind.u8 y0) []) := by
 rw [zce.is]; exact (yag _ _ _ _ _ _).symm.trans (by kernel_rfl)
theorem X_zce.ok : SoundE Tryz.prog gl 124 e_zce := by
 refine ya3 (E := E_zce) (fn := Tryz.f124) rfl tys_ok rfl (show yaZ _ l_zce from ⟨X_zca.ok, X_zbw.ok, X_zbz.ok, X_zbd.ok, trivial⟩) mixed (by kernel_rfl) (by kernel_rfl) (by kernel_rfl) 0 (by kernel_rfl) false trivial ?_
 intro args H
 by_cases hx : ∃ (a0 : Int) (a1_0 : Int) (a1_1 : Int), args = [.int .u8 a0, .agg [.int .u64 a1_0, .int .u64 a1_1]] ∧ H = []
 ·obtain ⟨a0, a1_0, a1_1, rfl, rfl⟩ := hx
  right; intro K
  exact iff_of_eq (X_zce.eq a0 a1_0 a1_1 K).symm
 ·left; intro K h
  simp only [e_zce] at h
  split at h
  ·exact hx ⟨_, _, _, rfl, rfl⟩
  ·exact h
noncomputable def e_zbg : yan := ⟨[none, none], false, fun args H K => match args, H with
 | [.arr .u64 6 a0, .int .i64 a1], [] => zbg a0 a1 (fun y0 y1 => K (EV.tuple [EV.arr IntKind.u64 6 y0, EV.bool y1]) [])
 | _, _ => False⟩
noncomputable def l_zbg : List (Nat × yan) := [(140, e_zbe), (178, e_zbd)]
noncomputable def E_zbg : Env := ⟨look tys, look l_zbg, look [(5, zbg.l5.entry)], gl, yaq [], false⟩
theorem zbg.l5X.stepEq (R : List EV → yaf → Prop) (K : Ex → List EV → yaf → Prop) (x0 : Int) (x1 : Bool) (x2 : Int) (x3 : Nat → Int) (x4 : Nat → Int) (x5 : Nat → Int) : yao (yap E_zbg (yab Tryz.f126 0) { (LV.mk 208 [(0, 208)] 48 0 false) with nx := live (.loop (yab Tryz.f126 0)) (LV.mk 208 [(0, 208)] 48 0 false) }) (live (.loop (yab Tryz.f126 0)) (LV.mk 208 [(0, 208)] 48 0 false)) (LV.mk 208 [(0, 208)] 48 0 false) 0 42 R [EV.int IntKind.i64 x0, EV.ptr 0 [], EV.ptr 1 [], EV.ptr 2 [], EV.bool x1, EV.int IntKind.i64 x2] [some (EV.arr IntKind.u64 6 x3), some (EV.arr IntKind.u64 6 x4), some (EV.arr IntKind.u64 6 x5)] K = zbg.l5.step (fun x0 x1 x2 x3 x4 x5 => R [EV.int IntKind.i64 x0, EV.ptr 0 [], EV.ptr 1 [], EV.ptr 2 [], EV.bool x1, EV.int IntKind.i64 x2] [some (EV.arr IntKind.u64 6 x3), some (EV.arr IntKind.u64 6 x4), some (EV.arr IntKind.u64 6 x5)]) (fun y0 y1 y2 => K (.exit 0) [EV.ptr 0 [], EV.ptr 1 [], EV.bool y0] [some (EV.arr IntKind.u64 6 y1), some (EV.arr IntKind.u64 6 y2)]) x0 x1 x2 x3 x4 x5 := (yaI _ _ _ _ _ _ _ _ _ _ _).symm.trans (by kernel_rfl)
theorem zbg.l5X.eq (K : Ex → List EV → yaf → Prop) : ∀ (n : Nat) (x0 : Int) (x1 : Bool) (x2 : Int) (x3 : Nat → Int) (x4 : Nat → Int) (x5 : Nat → Int), yaC E_zbg (yab Tryz.f126 0) (LV.mk 208 [(0, 208)] 48 0 false) 0 42 K n [EV.int IntKind.i64 x0, EV.ptr 0 [], EV.ptr 1 [], EV.ptr 2 [], EV.bool x1, EV.int IntKind.i64 x2] [some (EV.arr IntKind.u64 6 x3), some (EV.arr IntKind.u64 6 x4), some (EV.arr IntKind.u64 6 x5)] = zbg.l5 (fun y0 y1 y2 => K (.exit 0) [EV.ptr 0 [], EV.ptr 1 [], EV.bool y0] [some (EV.arr IntKind.u64 6 y1), some (EV.arr IntKind.u64 6 y2)]) n x0 x1 x2 x3 x4 x5
 | 0, _, _, _, _, _, _ => rfl
 | n + 1, x0, x1, x2, x3, x4, x5 => by
  have ih : (fun (x0 : Int) (x1 : Bool) (x2 : Int) (x3 : Nat → Int) (x4 : Nat → Int) (x5 : Nat → Int) => yaC E_zbg (yab Tryz.f126 0) (LV.mk 208 [(0, 208)] 48 0 false) 0 42 K n [EV.int IntKind.i64 x0, EV.ptr 0 [], EV.ptr 1 [], EV.ptr 2 [], EV.bool x1, EV.int IntKind.i64 x2] [some (EV.arr IntKind.u64 6 x3), some (EV.arr IntKind.u64 6 x4), some (EV.arr IntKind.u64 6 x5)]) = zbg.l5 (fun y0 y1 y2 => K (.exit 0) [EV.ptr 0 [], EV.ptr 1 [], EV.bool y0] [some (EV.arr IntKind.u64 6 y1), some (EV.arr IntKind.u64 6 y2)]) n := by funext x0 x1 x2 x3 x4 x5; exact zbg.l5X.eq K n x0 x1 x2 x3 x4 x5
  show yao _ _ _ _ _ (yaC E_zbg (yab Tryz.f126 0) (LV.mk 208 [(0, 208)] 48 0 false) 0 42 K n) [EV.int IntKind.i64 x0, EV.ptr 0 [], EV.ptr 1 [], EV.ptr 2 [], EV.bool x1, EV.int IntKind.i64 x2] [some (EV.arr IntKind.u64 6 x3), some (EV.arr IntKind.u64 6 x4), some (EV.arr IntKind.u64 6 x5)] K = zbg.l5.step (zbg.l5 (fun y0 y1 y2 => K (.exit 0) [EV.ptr 0 [], EV.ptr 1 [], EV.bool y0] [some (EV.arr IntKind.u64 6 y1), some (EV.arr IntKind.u64 6 y2)]) n) (fun y0 y1 y2 => K (.exit 0) [EV.ptr 0 [], EV.ptr 1 [], EV.bool y0] [some (EV.arr IntKind.u64 6 y1), some (EV.arr IntKind.u64 6 y2)]) x0 x1 x2 x3 x4 x5
  rw [← ih]
  exact zbg.l5X.stepEq _ K x0 x1 x2 x3 x4 x5
theorem zbg.l5X.ok : LoopEq E_zbg (yab Tryz.f126 0) := by
 intro L hL vs H
 have h1 : E_zbg.lp (yal (yab Tryz.f126 0)) = some zbg.l5.entry := by kernel_rfl
 have h2 : L = zbg.l5.entry := Option.some.inj (hL.symm.trans h1)
 subst h2
 by_cases hx : ∃ (x0 : Int) (x1 : Bool) (x2 : Int) (x3 : Nat → Int) (x4 : Nat → Int) (x5 : Nat → Int), vs = [EV.int IntKind.i64 x0, EV.ptr 0 [], EV.ptr 1 [], EV.ptr 2 [], EV.bool x1, EV.int IntKind.i64 x2] ∧ H = [some (EV.arr IntKind.u64 6 x3), some (EV.arr IntKind.u64 6 x4), some (EV.arr IntKind.u64 6 x5)]
 ·obtain ⟨x0, x1, x2, x3, x4, x5, rfl, rfl⟩ := hx
  right; intro K
  exact exists_congr fun n => iff_of_eq (zbg.l5X.eq K n x0 x1 x2 x3 x4 x5).symm
 ·left; intro K h
  simp only [zbg.l5.entry] at h
  split at h
  ·exact hx ⟨_, _, _, _, _, _, rfl, rfl⟩
  ·exact h
theorem X_zbg.eq (a0 : Nat → Int) (a1 : Int) (K : EV → yaf → Prop) : yaV E_zbg Tryz.f126 false [.arr .u64 6 a0, .int .i64 a1] [] K = zbg a0 a1 (fun y0 y1 => K (EV.tuple [EV.arr IntKind.u64 6 y0, EV.bool y1]) []) := by
 rw [zbg.is]; exact (yag _ _ _ _ _ _).symm.trans (by kernel_rfl)
theorem X_zbg.ok : SoundE Tryz.prog gl 126 e_zbg := by
 refine ya3 (E := E_zbg) (fn := Tryz.f126) rfl tys_ok rfl (show yaZ _ l_zbg from ⟨X_zbe.ok, X_zbd.ok, trivial⟩) mixed (by kernel_rfl) (by kernel_rfl) (by kernel_rfl) 1 (by kernel_rfl) false ⟨zbg.l5X.ok, trivial⟩ ?_
 intro args H
 by_cases hx : ∃ (a0 : Nat → Int) (a1 : Int), args = [.arr .u64 6 a0, .int .i64 a1] ∧ H = []
 ·obtain ⟨a0, a1, rfl, rfl⟩ := hx
  right; intro K
  exact iff_of_eq (X_zbg.eq a0 a1 K).symm
 ·left; intro K h
  simp only [e_zbg] at h
  split at h
  ·exact hx ⟨_, _, rfl, rfl⟩
  ·exact h
noncomputable def e_zbj : yan := ⟨[none], false, fun args H K => match args, H with
 | [.int .u64 a0], [] => zbj a0 (fun y0 => K (EV.arr IntKind.u64 6 y0) [])
 | _, _ => False⟩
noncomputable def E_zbj : Env := ⟨look tys, look [], look [], gl, yaq [], false⟩
theorem X_zbj.eq (a0 : Int) (K : EV → yaf → Prop) : yaV E_zbj Tryz.f127 false [.int .u64 a0] [] K = zbj a0 (fun y0 => K (EV.arr IntKind.u64 6 y0) []) := by
 rw [zbj.is]; exact (yag _ _ _ _ _ _).symm.trans (by kernel_rfl)
theorem X_zbj.ok : SoundE Tryz.prog gl 127 e_zbj := by
 refine ya3 (E := E_zbj) (fn := Tryz.f127) rfl tys_ok rfl (show yaZ _ [] from trivial) mixed (by kernel_rfl) (by kernel_rfl) (by kernel_rfl) 0 (by kernel_rfl) false trivial ?_
 intro args H
 by_cases hx : ∃ (a0 : Int), args = [.int .u64 a0] ∧ H = []
 ·obtain ⟨a0, rfl, rfl⟩ := hx
  right; intro K
  exact iff_of_eq (X_zbj.eq a0 K).symm
 ·left; intro K h
  simp only [e_zbj] at h
  split at h
  ·exact hx ⟨_, rfl, rfl⟩
  ·exact h
noncomputable def e_zay : yan := ⟨[none, none, none], false, fun args H K => match args, H with
 | [.int .u64 a0, .int .u64 a1, .bool a2], [] => zay a0 a1 a2 (fun y0 y1 => K (EV.tuple [EV.int IntKind.u64 y0, EV.bool y1]) [])
 | _, _ => False⟩
noncomputable def l_zay : List (Nat × yan) := [(185, e_zaz)]
noncomputable def E_zay : Env := ⟨look tys, look l_zay, look [(3, zay.l3.entry)], gl, yaq [], false⟩
theorem zay.l3X.stepEq (R : List EV → yaf → Prop) (K : Ex → List EV → yaf → Prop) (x0 : Int) (x1 : Int) (x2 : Bool) (x3 : Int) (x4 : Int) : yao (yap E_zay (yab Tryz.f180 0) { (LV.mk 260 [(0, 260)] 192 0 false) with nx := live (.loop (yab Tryz.f180 0)) (LV.mk 260 [(0, 260)] 192 0 false) }) (live (.loop (yab Tryz.f180 0)) (LV.mk 260 [(0, 260)] 192 0 false)) (LV.mk 260 [(0, 260)] 192 0 false) 0 50 R [EV.int IntKind.u64 x0, EV.int IntKind.u64 x1, EV.bool x2, EV.int IntKind.u64 x3, EV.int IntKind.i64 x4] [] K = zay.l3.step (fun x0 x1 x2 x3 x4 => R [EV.int IntKind.u64 x0, EV.int IntKind.u64 x1, EV.bool x2, EV.int IntKind.u64 x3, EV.int IntKind.i64 x4] []) (fun y0 y1 => K (.exit 0) [EV.bool y0, EV.int IntKind.u64 y1] []) x0 x1 x2 x3 x4 := (yaI _ _ _ _ _ _ _ _ _ _ _).symm.trans (by kernel_rfl)
theorem zay.l3X.eq (K : Ex → List EV → yaf → Prop) : ∀ (n : Nat) (x0 : Int) (x1 : Int) (x2 : Bool) (x3 : Int) (x4 : Int), yaC E_zay (yab Tryz.f180 0) (LV.mk 260 [(0, 260)] 192 0 false) 0 50 K n [EV.int IntKind.u64 x0, EV.int IntKind.u64 x1, EV.bool x2, EV.int IntKind.u64 x3, EV.int IntKind.i64 x4] [] = zay.l3 (fun y0 y1 => K (.exit 0) [EV.bool y0, EV.int IntKind.u64 y1] []) n x0 x1 x2 x3 x4
 | 0, _, _, _, _, _ => rfl
 | n + 1, x0, x1, x2, x3, x4 => by
  have ih : (fun (x0 : Int) (x1 : Int) (x2 : Bool) (x3 : Int) (x4 : Int) => yaC E_zay (yab Tryz.f180 0) (LV.mk 260 [(0, 260)] 192 0 false) 0 50 K n [EV.int IntKind.u64 x0, EV.int IntKind.u64 x1, EV.bool x2, EV.int IntKind.u64 x3, EV.int IntKind.i64 x4] []) = zay.l3 (fun y0 y1 => K (.exit 0) [EV.bool y0, EV.int IntKind.u64 y1] []) n := by funext x0 x1 x2 x3 x4; exact zay.l3X.eq K n x0 x1 x2 x3 x4
  show yao _ _ _ _ _ (yaC E_zay (yab Tryz.f180 0) (LV.mk 260 [(0, 260)] 192 0 false) 0 50 K n) [EV.int IntKind.u64 x0, EV.int IntKind.u64 x1, EV.bool x2, EV.int IntKind.u64 x3, EV.int IntKind.i64 x4] [] K = zay.l3.step (zay.l3 (fun y0 y1 => K (.exit 0) [EV.bool y0, EV.int IntKind.u64 y1] []) n) (fun y0 y1 => K (.exit 0) [EV.bool y0, EV.int IntKind.u64 y1] []) x0 x1 x2 x3 x4
  rw [← ih]
  exact zay.l3X.stepEq _ K x0 x1 x2 x3 x4
theorem zay.l3X.ok : LoopEq E_zay (yab Tryz.f180 0) := by
 intro L hL vs H
 have h1 : E_zay.lp (yal (yab Tryz.f180 0)) = some zay.l3.entry := by kernel_rfl
 have h2 : L = zay.l3.entry := Option.some.inj (hL.symm.trans h1)
 subst h2
 by_cases hx : ∃ (x0 : Int) (x1 : Int) (x2 : Bool) (x3 : Int) (x4 : Int), vs = [EV.int IntKind.u64 x0, EV.int IntKind.u64 x1, EV.bool x2, EV.int IntKind.u64 x3, EV.int IntKind.i64 x4] ∧ H = []
 ·obtain ⟨x0, x1, x2, x3, x4, rfl, rfl⟩ := hx
  right; intro K
  exact exists_congr fun n => iff_of_eq (zay.l3X.eq K n x0 x1 x2 x3 x4).symm
 ·left; intro K h
  simp only [zay.l3.entry] at h
  split at h
  ·exact hx ⟨_, _, _, _, _, rfl, rfl⟩
  ·exact h
theorem X_zay.eq (a0 : Int) (a1 : Int) (a2 : Bool) (K : EV → yaf → Prop) : yaV E_zay Tryz.f180 false [.int .u64 a0, .int .u64 a1, .bool a2] [] K = zay a0 a1 a2 (fun y0 y1 => K (EV.tuple [EV.int IntKind.u64 y0, EV.bool y1]) []) := by
 rw [zay.is]; exact (yag _ _ _ _ _ _).symm.trans (by kernel_rfl)
theorem X_zay.ok : SoundE Tryz.prog gl 180 e_zay := by
 refine ya3 (E := E_zay) (fn := Tryz.f180) rfl tys_ok rfl (show yaZ _ l_zay from ⟨X_zaz.ok, trivial⟩) mixed (by kernel_rfl) (by kernel_rfl) (by kernel_rfl) 1 (by kernel_rfl) false ⟨zay.l3X.ok, trivial⟩ ?_
 intro args H
 by_cases hx : ∃ (a0 : Int) (a1 : Int) (a2 : Bool), args = [.int .u64 a0, .int .u64 a1, .bool a2] ∧ H = []
 ·obtain ⟨a0, a1, a2, rfl, rfl⟩ := hx
  right; intro K
  exact iff_of_eq (X_zay.eq a0 a1 a2 K).symm
 ·left; intro K h
  simp only [e_zay] at h
  split at h
  ·exact hx ⟨_, _, _, rfl, rfl⟩
  ·exact h
noncomputable def e_zbb : yan := ⟨[none, none], false, fun args H K => match args, H with
 | [.arr .u64 6 a0, .arr .u64 6 a1], [] => zbb a0 a1 (fun y0 y1 => K (EV.tuple [EV.arr IntKind.u64 6 y0, EV.bool y1]) [])
 | _, _ => False⟩
noncomputable def l_zbb : List (Nat × yan) := [(180, e_zay)]
noncomputable def E_zbb : Env := ⟨look tys, look l_zbb, look [(4, zbb.l4.entry)], gl, yaq [], false⟩
theorem zbb.l4X.stepEq (R : List EV → yaf → Prop) (K : Ex → List EV → yaf → Prop) (x0 : Bool) (x1 : Int) (x2 : Nat → Int) (x3 : Nat → Int) (x4 : Nat → Int) (x5 : Nat → Int) : yao (yap E_zbb (yab Tryz.f128 0) { (LV.mk 208 [(0, 208)] 48 0 false) with nx := live (.loop (yab Tryz.f128 0)) (LV.mk 208 [(0, 208)] 48 0 false) }) (live (.loop (yab Tryz.f128 0)) (LV.mk 208 [(0, 208)] 48 0 false)) (LV.mk 208 [(0, 208)] 48 0 false) 0 32 R [EV.ptr 0 [], EV.ptr 1 [], EV.ptr 2 [], EV.ptr 3 [], EV.bool x0, EV.int IntKind.i64 x1] [some (EV.arr IntKind.u64 6 x2), some (EV.arr IntKind.u64 6 x3), some (EV.arr IntKind.u64 6 x4), some (EV.arr IntKind.u64 6 x5)] K = zbb.l4.step (fun x0 x1 x2 x3 x4 x5 => R [EV.ptr 0 [], EV.ptr 1 [], EV.ptr 2 [], EV.ptr 3 [], EV.bool x0, EV.int IntKind.i64 x1] [some (EV.arr IntKind.u64 6 x2), some (EV.arr IntKind.u64 6 x3), some (EV.arr IntKind.u64 6 x4), some (EV.arr IntKind.u64 6 x5)]) (fun y0 y1 y2 => K (.exit 0) [EV.ptr 0 [], EV.ptr 1 [], EV.bool y0] [some (EV.arr IntKind.u64 6 y1), some (EV.arr IntKind.u64 6 y2)]) x0 x1 x2 x3 x4 x5 := (yaI _ _ _ _ _ _ _ _ _ _ _).symm.trans (by kernel_rfl)
theorem zbb.l4X.eq (K : Ex → List EV → yaf → Prop) : ∀ (n : Nat) (x0 : Bool) (x1 : Int) (x2 : Nat → Int) (x3 : Nat → Int) (x4 : Nat → Int) (x5 : Nat → Int), yaC E_zbb (yab Tryz.f128 0) (LV.mk 208 [(0, 208)] 48 0 false) 0 32 K n [EV.ptr 0 [], EV.ptr 1 [], EV.ptr 2 [], EV.ptr 3 [], EV.bool x0, EV.int IntKind.i64 x1] [some (EV.arr IntKind.u64 6 x2), some (EV.arr IntKind.u64 6 x3), some (EV.arr IntKind.u64 6 x4), some (EV.arr IntKind.u64 6 x5)] = zbb.l4 (fun y0 y1 y2 => K (.exit 0) [EV.ptr 0 [], EV.ptr 1 [], EV.bool y0] [some (EV.arr IntKind.u64 6 y1), some (EV.arr IntKind.u64 6 y2)]) n x0 x1 x2 x3 x4 x5
 | 0, _, _, _, _, _, _ => rfl
 | n + 1, x0, x1, x2, x3, x4, x5 => by
  have ih : (fun (x0 : Bool) (x1 : Int) (x2 : Nat → Int) (x3 : Nat → Int) (x4 : Nat → Int) (x5 : Nat → Int) => yaC E_zbb (yab Tryz.f128 0) (LV.mk 208 [(0, 208)] 48 0 false) 0 32 K n [EV.ptr 0 [], EV.ptr 1 [], EV.ptr 2 [], EV.ptr 3 [], EV.bool x0, EV.int IntKind.i64 x1] [some (EV.arr IntKind.u64 6 x2), some (EV.arr IntKind.u64 6 x3), some (EV.arr IntKind.u64 6 x4), some (EV.arr IntKind.u64 6 x5)]) = zbb.l4 (fun y0 y1 y2 => K (.exit 0) [EV.ptr 0 [], EV.ptr 1 [], EV.bool y0] [some (EV.arr IntKind.u64 6 y1), some (EV.arr IntKind.u64 6 y2)]) n := by funext x0 x1 x2 x3 x4 x5; exact zbb.l4X.eq K n x0 x1 x2 x3 x4 x5
  show yao _ _ _ _ _ (yaC E_zbb (yab Tryz.f128 0) (LV.mk 208 [(0, 208)] 48 0 false) 0 32 K n) [EV.ptr 0 [], EV.ptr 1 [], EV.ptr 2 [], EV.ptr 3 [], EV.bool x0, EV.int IntKind.i64 x1] [some (EV.arr IntKind.u64 6 x2), some (EV.arr IntKind.u64 6 x3), some (EV.arr IntKind.u64 6 x4), some (EV.arr IntKind.u64 6 x5)] K = zbb.l4.step (zbb.l4 (fun y0 y1 y2 => K (.exit 0) [EV.ptr 0 [], EV.ptr 1 [], EV.bool y0] [some (EV.arr IntKind.u64 6 y1), some (EV.arr IntKind.u64 6 y2)]) n) (fun y0 y1 y2 => K (.exit 0) [EV.ptr 0 [], EV.ptr 1 [], EV.bool y0] [some (EV.arr IntKind.u64 6 y1), some (EV.arr IntKind.u64 6 y2)]) x0 x1 x2 x3 x4 x5
  rw [← ih]
  exact zbb.l4X.stepEq _ K x0 x1 x2 x3 x4 x5
theorem zbb.l4X.ok : LoopEq E_zbb (yab Tryz.f128 0) := by
 intro L hL vs H
 have h1 : E_zbb.lp (yal (yab Tryz.f128 0)) = some zbb.l4.entry := by kernel_rfl
 have h2 : L = zbb.l4.entry := Option.some.inj (hL.symm.trans h1)
 subst h2
 by_cases hx : ∃ (x0 : Bool) (x1 : Int) (x2 : Nat → Int) (x3 : Nat → Int) (x4 : Nat → Int) (x5 : Nat → Int), vs = [EV.ptr 0 [], EV.ptr 1 [], EV.ptr 2 [], EV.ptr 3 [], EV.bool x0, EV.int IntKind.i64 x1] ∧ H = [some (EV.arr IntKind.u64 6 x2), some (EV.arr IntKind.u64 6 x3), some (EV.arr IntKind.u64 6 x4), some (EV.arr IntKind.u64 6 x5)]
 ·obtain ⟨x0, x1, x2, x3, x4, x5, rfl, rfl⟩ := hx
  right; intro K
  exact exists_congr fun n => iff_of_eq (zbb.l4X.eq K n x0 x1 x2 x3 x4 x5).symm
 ·left; intro K h
  simp only [zbb.l4.entry] at h
  split at h
  ·exact hx ⟨_, _, _, _, _, _, rfl, rfl⟩
  ·exact h
theorem X_zbb.eq (a0 : Nat → Int) (a1 : Nat → Int) (K : EV → yaf → Prop) : yaV E_zbb Tryz.f128 false [.arr .u64 6 a0, .arr .u64 6 a1] [] K = zbb a0 a1 (fun y0 y1 => K (EV.tuple [EV.arr IntKind.u64 6 y0, EV.bool y1]) []) := by
 rw [zbb.is]; exact (yag _ _ _ _ _ _).symm.trans (by kernel_rfl)
theorem X_zbb.ok : SoundE Tryz.prog gl 128 e_zbb := by
 refine ya3 (E := E_zbb) (fn := Tryz.f128) rfl tys_ok rfl (show yaZ _ l_zbb from ⟨X_zay.ok, trivial⟩) mixed (by kernel_rfl) (by kernel_rfl) (by kernel_rfl) 1 (by kernel_rfl) false ⟨zbb.l4X.ok, trivial⟩ ?_
 intro args H
 by_cases hx : ∃ (a0 : Nat → Int) (a1 : Nat → Int), args = [.arr .u64 6 a0, .arr .u64 6 a1] ∧ H = []
 ·obtain ⟨a0, a1, rfl, rfl⟩ := hx
  right; intro K
  exact iff_of_eq (X_zbb.eq a0 a1 K).symm
 ·left; intro K h
  simp only [e_zbb] at h
  split at h
  ·exact hx ⟨_, _, rfl, rfl⟩
  ·exact h
noncomputable def e_zck : yan := ⟨[none, none], false, fun args H K => match args, H with
 | [.int .u8 a0, .agg [.int .u64 a1_0, .int .u64 a1_1]], [] => zck a0 a1_0 a1_1 (fun y0 y1 y2 y3 => K (EV.agg [EV.int IntKind.u8 y0, EV.arr IntKind.u64 6 y1, EV.int IntKind.i64 y2, EV.arr IntKind.u64 6 y3]) [])
 | _, _ => False⟩
noncomputable def l_zck : List (Nat × yan) := [(70, e_zca), (72, e_zbu), (73, e_zbv), (124, e_zce), (125, e_zbw), (126, e_zbg), (127, e_zbj), (128, e_zbb)]
noncomputable def E_zck : Env := ⟨look tys, look l_zck, look [], gl, yaq [], false⟩
theorem X_zck.eq (a0 : Int) (a1_0 : Int) (a1_1 : Int) (K : EV → yaf → Prop) : yaV E_zck Tryz.f54 false [.int .u8 a0, .agg [.int .u64 a1_0, .int .u64 a1_1]] [] K = zck a0 a1_0 a1_1 (fun y0 y1 y2 y3 => K (EV.agg [EV.int IntKind.u8 y0, EV.arr IntKind.u64 6 y1, EV.int IntKind.i64 y2, EV.arr IntKind.u64 6 y3]) []) := by
 rw [zck.is]; exact (yag _ _ _ _ _ _).symm.trans (by kernel_rfl)
theorem X_zck.ok : SoundE Tryz.prog gl 54 e_zck := by
 refine ya3 (E := E_zck) (fn := Tryz.f54) rfl tys_ok rfl (show yaZ _ l_zck from ⟨X_zca.ok, X_zbu.ok, X_zbv.ok, X_zce.ok, X_zbw.ok, X_zbg.ok, X_zbj.ok, X_zbb.ok, trivial⟩) mixed (by kernel_rfl) (by kernel_rfl) (by kernel_rfl) 0 (by kernel_rfl) false trivial ?_
 intro args H
 by_cases hx : ∃ (a0 : Int) (a1_0 : Int) (a1_1 : Int), args = [.int .u8 a0, .agg [.int .u64 a1_0, .int .u64 a1_1]] ∧ H = []
 ·obtain ⟨a0, a1_0, a1_1, rfl, rfl⟩ := hx
  right; intro K
  exact iff_of_eq (X_zck.eq a0 a1_0 a1_1 K).symm
 ·left; intro K h
  simp only [e_zck] at h
  split at h
  ·exact hx ⟨_, _, _, rfl, rfl⟩
  ·exact h
noncomputable def e_zci : yan := ⟨[none, none], false, fun args H K => match args, H with
 | [.int .u8 a0, .agg [.int .u64 a1_0, .int .u64 a1_1]], [] => zci a0 a1_0 a1_1 (fun y0 => K (EV.bool y0) [])
 | _, _ => False⟩
noncomputable def l_zci : List (Nat × yan) := [(53, e_zbx), (125, e_zbw)]
noncomputable def E_zci : Env := ⟨look tys, look l_zci, look [], gl, yaq [], false⟩
theorem X_zci.eq (a0 : Int) (a1_0 : Int) (a1_1 : Int) (K : EV → yaf → Prop) : yaV E_zci Tryz.f55 false [.int .u8 a0, .agg [.int .u64 a1_0, .int .u64 a1_1]] [] K = zci a0 a1_0 a1_1 (fun y0 => K (EV.bool y0) []) := by
 rw [zci.is]; exact (yag _ _ _ _ _ _).symm.trans (by kernel_rfl)
theorem X_zci.ok : SoundE Tryz.prog gl 55 e_zci := by
 refine ya3 (E := E_zci) (fn := Tryz.f55) rfl tys_ok rfl (show yaZ _ l_zci from ⟨X_zbx.ok, X_zbw.ok, trivial⟩) mixed (by kernel_rfl) (by kernel_rfl) (by kernel_rfl) 0 (by kernel_rfl) false trivial ?_
 intro args H
 by_cases hx : ∃ (a0 : Int) (a1_0 : Int) (a1_1 : Int), args = [.int .u8 a0, .agg [.int .u64 a1_0, .int .u64 a1_1]] ∧ H = []
 ·obtain ⟨a0, a1_0, a1_1, rfl, rfl⟩ := hx
  right; intro K
  exact iff_of_eq (X_zci.eq a0 a1_0 a1_1 K).symm
 ·left; intro K h
  simp only [e_zci] at h
  split at h
  ·exact hx ⟨_, _, _, rfl, rfl⟩
  ·exact h
noncomputable def e_zbp : yan := ⟨[none], false, fun args H K => match args, H with
 | [.int .u64 a0], [] => zbp a0 (fun y0 => K (EV.str y0) [])
 | _, _ => False⟩
noncomputable def E_zbp : Env := ⟨look tys, look [], look [], gl, yaq [], false⟩
theorem X_zbp.eq (a0 : Int) (K : EV → yaf → Prop) : yaV E_zbp Tryz.f150 false [.int .u64 a0] [] K = zbp a0 (fun y0 => K (EV.str y0) []) := by
 rw [zbp.is]; exact (yag _ _ _ _ _ _).symm.trans (by kernel_rfl)
theorem X_zbp.ok : SoundE Tryz.prog gl 150 e_zbp := by
 refine ya3 (E := E_zbp) (fn := Tryz.f150) rfl tys_ok rfl (show yaZ _ [] from trivial) mixed (by kernel_rfl) (by kernel_rfl) (by kernel_rfl) 0 (by kernel_rfl) false trivial ?_
 intro args H
 by_cases hx : ∃ (a0 : Int), args = [.int .u64 a0] ∧ H = []
 ·obtain ⟨a0, rfl, rfl⟩ := hx
  right; intro K
  exact iff_of_eq (X_zbp.eq a0 K).symm
 ·left; intro K h
  simp only [e_zbp] at h
  split at h
  ·exact hx ⟨_, rfl, rfl⟩
  ·exact h
noncomputable def e_zbn : yan := ⟨[none], false, fun args H K => match args, H with
 | [.arr .u64 6 a0], [] => zbn a0 (fun y0 => K (EV.str y0) [])
 | _, _ => False⟩
noncomputable def l_zbn : List (Nat × yan) := [(150, e_zbp)]
noncomputable def E_zbn : Env := ⟨look tys, look l_zbn, look [(3, zbn.l3.entry)], gl, yaq [], false⟩
theorem zbn.l3X.stepEq (R : List EV → yaf → Prop) (K : Ex → List EV → yaf → Prop) (x0 : List UInt8) (x1 : Int) (x2 : Nat → Int) : yao (yap E_zbn (yab Tryz.f93 0) { (LV.mk 8 [(0, 8)] 4 0 false) with nx := live (.loop (yab Tryz.f93 0)) (LV.mk 8 [(0, 8)] 4 0 false) }) (live (.loop (yab Tryz.f93 0)) (LV.mk 8 [(0, 8)] 4 0 false)) (LV.mk 8 [(0, 8)] 4 0 false) 0 35 R [EV.ptr 0 [], EV.str x0, EV.int IntKind.i64 x1] [some (EV.arr IntKind.u64 6 x2)] K = zbn.l3.step (fun x0 x1 x2 => R [EV.ptr 0 [], EV.str x0, EV.int IntKind.i64 x1] [some (EV.arr IntKind.u64 6 x2)]) (fun y0 => K (.exit 0) [EV.str y0] []) x0 x1 x2 := (yaI _ _ _ _ _ _ _ _ _ _ _).symm.trans (by kernel_rfl)
theorem zbn.l3X.eq (K : Ex → List EV → yaf → Prop) : ∀ (n : Nat) (x0 : List UInt8) (x1 : Int) (x2 : Nat → Int), yaC E_zbn (yab Tryz.f93 0) (LV.mk 8 [(0, 8)] 4 0 false) 0 35 K n [EV.ptr 0 [], EV.str x0, EV.int IntKind.i64 x1] [some (EV.arr IntKind.u64 6 x2)] = zbn.l3 (fun y0 => K (.exit 0) [EV.str y0] []) n x0 x1 x2
 | 0, _, _, _ => rfl
 | n + 1, x0, x1, x2 => by
  have ih : (fun (x0 : List UInt8) (x1 : Int) (x2 : Nat → Int) => yaC E_zbn (yab Tryz.f93 0) (LV.mk 8 [(0, 8)] 4 0 false) 0 35 K n [EV.ptr 0 [], EV.str x0, EV.int IntKind.i64 x1] [some (EV.arr IntKind.u64 6 x2)]) = zbn.l3 (fun y0 => K (.exit 0) [EV.str y0] []) n := by funext x0 x1 x2; exact zbn.l3X.eq K n x0 x1 x2
  show yao _ _ _ _ _ (yaC E_zbn (yab Tryz.f93 0) (LV.mk 8 [(0, 8)] 4 0 false) 0 35 K n) [EV.ptr 0 [], EV.str x0, EV.int IntKind.i64 x1] [some (EV.arr IntKind.u64 6 x2)] K = zbn.l3.step (zbn.l3 (fun y0 => K (.exit 0) [EV.str y0] []) n) (fun y0 => K (.exit 0) [EV.str y0] []) x0 x1 x2
  rw [← ih]
  exact zbn.l3X.stepEq _ K x0 x1 x2
theorem zbn.l3X.ok : LoopEq E_zbn (yab Tryz.f93 0) := by
 intro L hL vs H
 have h1 : E_zbn.lp (yal (yab Tryz.f93 0)) = some zbn.l3.entry := by kernel_rfl
 have h2 : L = zbn.l3.entry := Option.some.inj (hL.symm.trans h1)
 subst h2
 by_cases hx : ∃ (x0 : List UInt8) (x1 : Int) (x2 : Nat → Int), vs = [EV.ptr 0 [], EV.str x0, EV.int IntKind.i64 x1] ∧ H = [some (EV.arr IntKind.u64 6 x2)]
 ·obtain ⟨x0, x1, x2, rfl, rfl⟩ := hx
  right; intro K
  exact exists_congr fun n => iff_of_eq (zbn.l3X.eq K n x0 x1 x2).symm
 ·left; intro K h
  simp only [zbn.l3.entry] at h
  split at h
  ·exact hx ⟨_, _, _, rfl, rfl⟩
  ·exact h
theorem X_zbn.eq (a0 : Nat → Int) (K : EV → yaf → Prop) : yaV E_zbn Tryz.f93 false [.arr .u64 6 a0] [] K = zbn a0 (fun y0 => K (EV.str y0) []) := by
 rw [zbn.is]; exact (yag _ _ _ _ _ _).symm.trans (by kernel_rfl)
theorem X_zbn.ok : SoundE Tryz.prog gl 93 e_zbn := by
 refine ya3 (E := E_zbn) (fn := Tryz.f93) rfl tys_ok rfl (show yaZ _ l_zbn from ⟨X_zbp.ok, trivial⟩) mixed (by kernel_rfl) (by kernel_rfl) (by kernel_rfl) 1 (by kernel_rfl) false ⟨zbn.l3X.ok, trivial⟩ ?_
 intro args H
 by_cases hx : ∃ (a0 : Nat → Int), args = [.arr .u64 6 a0] ∧ H = []
 ·obtain ⟨a0, rfl, rfl⟩ := hx
  right; intro K
  exact iff_of_eq (X_zbn.eq a0 K).symm
 ·left; intro K h
  simp only [e_zbn] at h
  split at h
  ·exact hx ⟨_, rfl, rfl⟩
  ·exact h
noncomputable def e_zbs : yan := ⟨[none], false, fun args H K => match args, H with
 | [.int .i64 a0], [] => zbs a0 (fun y0 => K (EV.str y0) [])
 | _, _ => False⟩
noncomputable def E_zbs : Env := ⟨look tys, look [], look [(4, zbs.l4.entry)], gl, yaq [], false⟩
theorem zbs.l4X.stepEq (R : List EV → yaf → Prop) (K : Ex → List EV → yaf → Prop) (x0 : Int) (x1 : List UInt8) : yao (yap E_zbs (yab Tryz.f151 0) { (LV.mk 9 [(0, 9)] 4 0 false) with nx := live (.loop (yab Tryz.f151 0)) (LV.mk 9 [(0, 9)] 4 0 false) }) (live (.loop (yab Tryz.f151 0)) (LV.mk 9 [(0, 9)] 4 0 false)) (LV.mk 9 [(0, 9)] 4 0 false) 0 28 R [EV.int IntKind.i64 x0, EV.str x1] [] K = zbs.l4.step (fun x0 x1 => R [EV.int IntKind.i64 x0, EV.str x1] []) (fun y0 y1 => K (.exit 0) [EV.int IntKind.i64 y0, EV.str y1] []) x0 x1 := (yaI _ _ _ _ _ _ _ _ _ _ _).symm.trans (by kernel_rfl)
theorem zbs.l4X.eq (K : Ex → List EV → yaf → Prop) : ∀ (n : Nat) (x0 : Int) (x1 : List UInt8), yaC E_zbs (yab Tryz.f151 0) (LV.mk 9 [(0, 9)] 4 0 false) 0 28 K n [EV.int IntKind.i64 x0, EV.str x1] [] = zbs.l4 (fun y0 y1 => K (.exit 0) [EV.int IntKind.i64 y0, EV.str y1] []) n x0 x1
 | 0, _, _ => rfl
 | n + 1, x0, x1 => by
  have ih : (fun (x0 : Int) (x1 : List UInt8) => yaC E_zbs (yab Tryz.f151 0) (LV.mk 9 [(0, 9)] 4 0 false) 0 28 K n [EV.int IntKind.i64 x0, EV.str x1] []) = zbs.l4 (fun y0 y1 => K (.exit 0) [EV.int IntKind.i64 y0, EV.str y1] []) n := by funext x0 x1; exact zbs.l4X.eq K n x0 x1
  show yao _ _ _ _ _ (yaC E_zbs (yab Tryz.f151 0) (LV.mk 9 [(0, 9)] 4 0 false) 0 28 K n) [EV.int IntKind.i64 x0, EV.str x1] [] K = zbs.l4.step (zbs.l4 (fun y0 y1 => K (.exit 0) [EV.int IntKind.i64 y0, EV.str y1] []) n) (fun y0 y1 => K (.exit 0) [EV.int IntKind.i64 y0, EV.str y1] []) x0 x1
  rw [← ih]
  exact zbs.l4X.stepEq _ K x0 x1
theorem zbs.l4X.ok : LoopEq E_zbs (yab Tryz.f151 0) := by
 intro L hL vs H
 have h1 : E_zbs.lp (yal (yab Tryz.f151 0)) = some zbs.l4.entry := by kernel_rfl
 have h2 : L = zbs.l4.entry := Option.some.inj (hL.symm.trans h1)
 subst h2
 by_cases hx : ∃ (x0 : Int) (x1 : List UInt8), vs = [EV.int IntKind.i64 x0, EV.str x1] ∧ H = []
 ·obtain ⟨x0, x1, rfl, rfl⟩ := hx
  right; intro K
  exact exists_congr fun n => iff_of_eq (zbs.l4X.eq K n x0 x1).symm
 ·left; intro K h
  simp only [zbs.l4.entry] at h
  split at h
  ·exact hx ⟨_, _, rfl, rfl⟩
  ·exact h
theorem X_zbs.eq (a0 : Int) (K : EV → yaf → Prop) : yaV E_zbs Tryz.f151 false [.int .i64 a0] [] K = zbs a0 (fun y0 => K (EV.str y0) []) := by
 rw [zbs.is]; exact (yag _ _ _ _ _ _).symm.trans (by kernel_rfl)
theorem X_zbs.ok : SoundE Tryz.prog gl 151 e_zbs := by
 refine ya3 (E := E_zbs) (fn := Tryz.f151) rfl tys_ok rfl (show yaZ _ [] from trivial) mixed (by kernel_rfl) (by kernel_rfl) (by kernel_rfl) 1 (by kernel_rfl) false ⟨zbs.l4X.ok, trivial⟩ ?_
 intro args H
 by_cases hx : ∃ (a0 : Int), args = [.int .i64 a0] ∧ H = []
 ·obtain ⟨a0, rfl, rfl⟩ := hx
  right; intro K
  exact iff_of_eq (X_zbs.eq a0 K).symm
 ·left; intro K h
  simp only [e_zbs] at h
  split at h
  ·exact hx ⟨_, rfl, rfl⟩
  ·exact h
end Go.Ev.S

/- The functions of the seat: that the evaluator has them as they are. -/
set_option maxRecDepth 100000
set_option linter.unusedVariables false
set_option linter.unusedSimpArgs false
namespace Go.Ev.S
open Go Go.Proofs Go.Ev
noncomputable def e_zbr : yan := ⟨[none], false, fun args H K => match args, H with
 | [.int .i64 a0], [] => zbr a0 (fun y0 => K (EV.str y0) [])
 | _, _ => False⟩
noncomputable def l_zbr : List (Nat × yan) := [(151, e_zbs)]
noncomputable def E_zbr : Env := ⟨look tys, look l_zbr, look [(4, zbr.l4.entry)], gl, yaq [], false⟩
theorem zbr.l4X.stepEq (R : List EV → yaf → Prop) (K : Ex → List EV → yaf → Prop) (x0 : Int) (x1 : List UInt8) : yao (yap E_zbr (yab Tryz.f151 0) { (LV.mk 9 [(0, 9)] 4 0 false) with nx := live (.loop (yab Tryz.f151 0)) (LV.mk 9 [(0, 9)] 4 0 false) }) (live (.loop (yab Tryz.f151 0)) (LV.mk 9 [(0, 9)] 4 0 false)) (LV.mk 9 [(0, 9)] 4 0 false) 0 28 R [EV.int IntKind.i64 x0, EV.str x1] [] K = zbr.l4.step (fun x0 x1 => R [EV.int IntKind.i64 x0, EV.str x1] []) (fun y0 y1 => K (.exit 0) [EV.int IntKind.i64 y0, EV.str y1] []) x0 x1 := (yaI _ _ _ _ _ _ _ _ _ _ _).symm.trans (by kernel_rfl)
theorem zbr.l4X.eq (K : Ex → List EV → yaf → Prop) : ∀ (n : Nat) (x0 : Int) (x1 : List UInt8), yaC E_zbr (yab Tryz.f151 0) (LV.mk 9 [(0, 9)] 4 0 false) 0 28 K n [EV.int IntKind.i64 x0, EV.str x1] [] = zbr.l4 (fun y0 y1 => K (.exit 0) [EV.int IntKind.i64 y0, EV.str y1] []) n x0 x1
 | 0, _, _ => rfl
 | n + 1, x0, x1 => by
  have ih : (fun (x0 : Int) (x1 : List UInt8) => yaC E_zbr (yab Tryz.f151 0) (LV.mk 9 [(0, 9)] 4 0 false) 0 28 K n [EV.int IntKind.i64 x0, EV.str x1] []) = zbr.l4 (fun y0 y1 => K (.exit 0) [EV.int IntKind.i64 y0, EV.str y1] []) n := by funext x0 x1; exact zbr.l4X.eq K n x0 x1
  show yao _ _ _ _ _ (yaC E_zbr (yab Tryz.f151 0) (LV.mk 9 [(0, 9)] 4 0 false) 0 28 K n) [EV.int IntKind.i64 x0, EV.str x1] [] K = zbr.l4.step (zbr.l4 (fun y0 y1 => K (.exit 0) [EV.int IntKind.i64 y0, EV.str y1] []) n) (fun y0 y1 => K (.exit 0) [EV.int IntKind.i64 y0, EV.str y1] []) x0 x1
  rw [← ih]
  exact zbr.l4X.stepEq _ K x0 x1
theorem zbr.l4X.ok : LoopEq E_zbr (yab Tryz.f151 0) := by
 intro L hL vs H
 have h1 : E_zbr.lp (yal (yab Tryz.f151 0)) = some zbr.l4.entry := by kernel_rfl
 have h2 : L = zbr.l4.entry := Option.some.inj (hL.symm.trans h1)
 subst h2
 by_cases hx : ∃ (x0 : Int) (x1 : List UInt8), vs = [EV.int IntKind.i64 x0, EV.str x1] ∧ H = []
 ·obtain ⟨x0, x1, rfl, rfl⟩ := hx
  right; intro K
  exact exists_congr fun n => iff_of_eq (zbr.l4X.eq K n x0 x1).symm
 ·left; intro K h
  simp only [zbr.l4.entry] at h
  split at h
  ·exact hx ⟨_, _, rfl, rfl⟩
  ·exact h
theorem X_zbr.eq (a0 : Int) (K : EV → yaf → Prop) : yaV E_zbr Tryz.f151 false [.int .i64 a0] [] K = zbr a0 (fun y0 => K (EV.str y0) []) := by
 rw [zbr.is]; exact (yag _ _ _ _ _ _).symm.trans (by kernel_rfl)
theorem X_zbr.ok : SoundE Tryz.prog gl 151 e_zbr := by
 refine ya3 (E := E_zbr) (fn := Tryz.f151) rfl tys_ok rfl (show yaZ _ l_zbr from ⟨X_zbs.ok, trivial⟩) mixed (by kernel_rfl) (by kernel_rfl) (by kernel_rfl) 1 (by kernel_rfl) false ⟨zbr.l4X.ok, trivial⟩ ?_
 intro args H
 by_cases hx : ∃ (a0 : Int), args = [.int .i64 a0] ∧ H = []
 ·obtain ⟨a0, rfl, rfl⟩ := hx
  right; intro K
  exact iff_of_eq (X_zbr.eq a0 K).symm
 ·left; intro K h
  simp only [e_zbr] at h
  split at h
  ·exact hx ⟨_, rfl, rfl⟩
  ·exact h
noncomputable def e_zbq : yan := ⟨[none], false, fun args H K => match args, H with
 | [.int .i64 a0], [] => zbq a0 (fun y0 => K (EV.str y0) [])
 | _, _ => False⟩
noncomputable def l_zbq : List (Nat × yan) := [(151, e_zbr)]
noncomputable def E_zbq : Env := ⟨look tys, look l_zbq, look [], gl, yaq [], false⟩
theorem X_zbq.eq (a0 : Int) (K : EV → yaf → Prop) : yaV E_zbq Tryz.f94 false [.int .i64 a0] [] K = zbq a0 (fun y0 => K (EV.str y0) []) := by
 rw [zbq.is]; exact (yag _ _ _ _ _ _).symm.trans (by kernel_rfl)
theorem X_zbq.ok : SoundE Tryz.prog gl 94 e_zbq := by
 refine ya3 (E := E_zbq) (fn := Tryz.f94) rfl tys_ok rfl (show yaZ _ l_zbq from ⟨X_zbr.ok, trivial⟩) mixed (by kernel_rfl) (by kernel_rfl) (by kernel_rfl) 0 (by kernel_rfl) false trivial ?_
 intro args H
 by_cases hx : ∃ (a0 : Int), args = [.int .i64 a0] ∧ H = []
 ·obtain ⟨a0, rfl, rfl⟩ := hx
  right; intro K
  exact iff_of_eq (X_zbq.eq a0 K).symm
 ·left; intro K h
  simp only [e_zbq] at h
  split at h
  ·exact hx ⟨_, rfl, rfl⟩
  ·exact h
noncomputable def e_zcj : yan := ⟨[none, none], false, fun args H K => match args, H with
 | [.int .u8 a0, .agg [.int .u64 a1_0, .int .u64 a1_1]], [] => zcj a0 a1_0 a1_1 (fun y0 => K (EV.str y0) [])
 | _, _ => False⟩
noncomputable def l_zcj : List (Nat × yan) := [(54, e_zck), (55, e_zci), (93, e_zbn), (94, e_zbq)]
noncomputable def E_zcj : Env := ⟨look tys, look l_zcj, look [], gl, yaq [], false⟩
theorem X_zcj.eq (a0 : Int) (a1_0 : Int) (a1_1 : Int) (K : EV → yaf → Prop) : yaV E_zcj Tryz.f28 false [.int .u8 a0, .agg [.int .u64 a1_0, .int .u64 a1_1]] [] K = zcj a0 a1_0 a1_1 (fun y0 => K (EV.str y0) []) := by
 rw [zcj.is]; exact (yag _ _ _ _ _ _).symm.trans (by kernel_rfl)
theorem X_zcj.ok : SoundE Tryz.prog gl 28 e_zcj := by
 refine ya3 (E := E_zcj) (fn := Tryz.f28) rfl tys_ok rfl (show yaZ _ l_zcj from ⟨X_zck.ok, X_zci.ok, X_zbn.ok, X_zbq.ok, trivial⟩) mixed (by kernel_rfl) (by kernel_rfl) (by kernel_rfl) 0 (by kernel_rfl) false trivial ?_
 intro args H
 by_cases hx : ∃ (a0 : Int) (a1_0 : Int) (a1_1 : Int), args = [.int .u8 a0, .agg [.int .u64 a1_0, .int .u64 a1_1]] ∧ H = []
 ·obtain ⟨a0, a1_0, a1_1, rfl, rfl⟩ := hx
  right; intro K
  exact iff_of_eq (X_zcj.eq a0 a1_0 a1_1 K).symm
 ·left; intro K h
  simp only [e_zcj] at h
  split at h
  ·exact hx ⟨_, _, _, rfl, rfl⟩
  ·exact h
noncomputable def e_zcw : yan := ⟨[none, none], false, fun args H K => match args, H with
 | [.int .u64 a0, .int .i64 a1], [] => zcw a0 a1 (fun y0 y1 => K (EV.agg [EV.int IntKind.u64 y0, EV.int IntKind.u64 y1]) [])
 | _, _ => False⟩
noncomputable def E_zcw : Env := ⟨look tys, look [], look [], gl, yaq [], false⟩
theorem X_zcw.eq (a0 : Int) (a1 : Int) (K : EV → yaf → Prop) : yaV E_zcw Tryz.f166 false [.int .u64 a0, .int .i64 a1] [] K = zcw a0 a1 (fun y0 y1 => K (EV.agg [EV.int IntKind.u64 y0, EV.int IntKind.u64 y1]) []) := by
 rw [zcw.is]; exact (yag _ _ _ _ _ _).symm.trans (by kernel_rfl)
theorem X_zcw.ok : SoundE Tryz.prog gl 166 e_zcw := by
 refine ya3 (E := E_zcw) (fn := Tryz.f166) rfl tys_ok rfl (show yaZ _ [] from trivial) mixed (by kernel_rfl) (by kernel_rfl) (by kernel_rfl) 0 (by kernel_rfl) false trivial ?_
 intro args H
 by_cases hx : ∃ (a0 : Int) (a1 : Int), args = [.int .u64 a0, .int .i64 a1] ∧ H = []
 ·obtain ⟨a0, a1, rfl, rfl⟩ := hx
  right; intro K
  exact iff_of_eq (X_zcw.eq a0 a1 K).symm
 ·left; intro K h
  simp only [e_zcw] at h
  split at h
  ·exact hx ⟨_, _, rfl, rfl⟩
  ·exact h
noncomputable def e_zcz : yan := ⟨[none, none, none], false, fun args H K => match args, H with
 | [.int .u8 a0, .agg [.int .u64 a1_0, .int .u64 a1_1], .bool a2], [] => zcz a0 a1_0 a1_1 a2 (fun y0 y1 => K (EV.agg [EV.int IntKind.u64 y0, EV.int IntKind.u64 y1]) [])
 | _, _ => False⟩
noncomputable def l_zcz : List (Nat × yan) := [(57, e_zco), (102, e_zcu), (166, e_zcw)]
noncomputable def E_zcz : Env := ⟨look tys, look l_zcz, look [], gl, yaq [], false⟩
theorem X_zcz.eq (a0 : Int) (a1_0 : Int) (a1_1 : Int) (a2 : Bool) (K : EV → yaf → Prop) : yaV E_zcz Tryz.f106 false [.int .u8 a0, .agg [.int .u64 a1_0, .int .u64 a1_1], .bool a2] [] K = zcz a0 a1_0 a1_1 a2 (fun y0 y1 => K (EV.agg [EV.int IntKind.u64 y0, EV.int IntKind.u64 y1]) []) := by
 rw [zcz.is]; exact (yag _ _ _ _ _ _).symm.trans (by kernel_rfl)
theorem X_zcz.ok : SoundE Tryz.prog gl 106 e_zcz := by
 refine ya3 (E := E_zcz) (fn := Tryz.f106) rfl tys_ok rfl (show yaZ _ l_zcz from ⟨X_zco.ok, X_zcu.ok, X_zcw.ok, trivial⟩) mixed (by kernel_rfl) (by kernel_rfl) (by kernel_rfl) 0 (by kernel_rfl) false trivial ?_
 intro args H
 by_cases hx : ∃ (a0 : Int) (a1_0 : Int) (a1_1 : Int) (a2 : Bool), args = [.int .u8 a0, .agg [.int .u64 a1_0, .int .u64 a1_1], .bool a2] ∧ H = []
 ·obtain ⟨a0, a1_0, a1_1, a2, rfl, rfl⟩ := hx
  right; intro K
  exact iff_of_eq (X_zcz.eq a0 a1_0 a1_1 a2 K).symm
 ·left; intro K h
  simp only [e_zcz] at h
  split at h
  ·exact hx ⟨_, _, _, _, rfl, rfl⟩
  ·exact h
noncomputable def e_zcv : yan := ⟨[none, none], false, fun args H K => match args, H with
 | [.int .u8 a0, .bool a1], [] => zcv a0 a1 (fun y0 y1 => K (EV.agg [EV.int IntKind.u64 y0, EV.int IntKind.u64 y1]) [])
 | _, _ => False⟩
noncomputable def l_zcv : List (Nat × yan) := [(106, e_zcz)]
noncomputable def E_zcv : Env := ⟨look tys, look l_zcv, look [], gl, yaq [], false⟩
theorem X_zcv.eq (a0 : Int) (a1 : Bool) (K : EV → yaf → Prop) : yaV E_zcv Tryz.f38 false [.int .u8 a0, .bool a1] [] K = zcv a0 a1 (fun y0 y1 => K (EV.agg [EV.int IntKind.u64 y0, EV.int IntKind.u64 y1]) []) := by
 rw [zcv.is]; exact (yag _ _ _ _ _ _).symm.trans (by kernel_rfl)
theorem X_zcv.ok : SoundE Tryz.prog gl 38 e_zcv := by
 refine ya3 (E := E_zcv) (fn := Tryz.f38) rfl tys_ok rfl (show yaZ _ l_zcv from ⟨X_zcz.ok, trivial⟩) mixed (by kernel_rfl) (by kernel_rfl) (by kernel_rfl) 0 (by kernel_rfl) false trivial ?_
 intro args H
 by_cases hx : ∃ (a0 : Int) (a1 : Bool), args = [.int .u8 a0, .bool a1] ∧ H = []
 ·obtain ⟨a0, a1, rfl, rfl⟩ := hx
  right; intro K
  exact iff_of_eq (X_zcv.eq a0 a1 K).symm
 ·left; intro K h
  simp only [e_zcv] at h
  split at h
  ·exact hx ⟨_, _, rfl, rfl⟩
  ·exact h
noncomputable def e_zdg : yan := ⟨[none, none], false, fun args H K => match args, H with
 | [.arr .u64 6 a0, .int .i64 a1], [] => zdg a0 a1 (fun y0 y1 => K (EV.tuple [EV.arr IntKind.u64 6 y0, EV.bool y1]) [])
 | _, _ => False⟩
noncomputable def l_zdg : List (Nat × yan) := [(37, e_zdh), (110, e_zdr)]
noncomputable def E_zdg : Env := ⟨look tys, look l_zdg, look [(5, zdg.l5.entry)], gl, yaq [], false⟩
theorem zdg.l5X.stepEq (R : List EV → yaf → Prop) (K : Ex → List EV → yaf → Prop) (x0 : Bool) (x1 : Int) (x2 : Int) (x3 : Int) (x4 : Nat → Int) (x5 : Nat → Int) : yao (yap E_zdg (yab Tryz.f44 0) { (LV.mk 48 [(0, 48)] 48 0 false) with nx := live (.loop (yab Tryz.f44 0)) (LV.mk 48 [(0, 48)] 48 0 false) }) (live (.loop (yab Tryz.f44 0)) (LV.mk 48 [(0, 48)] 48 0 false)) (LV.mk 48 [(0, 48)] 48 0 false) 0 59 R [EV.ptr 0 [], EV.ptr 1 [], EV.bool x0, EV.int IntKind.i64 x1, EV.int IntKind.u64 x2, EV.int IntKind.i64 x3] [some (EV.arr IntKind.u64 6 x4), some (EV.arr IntKind.u64 6 x5)] K = zdg.l5.step (fun x0 x1 x2 x3 x4 x5 => R [EV.ptr 0 [], EV.ptr 1 [], EV.bool x0, EV.int IntKind.i64 x1, EV.int IntKind.u64 x2, EV.int IntKind.i64 x3] [some (EV.arr IntKind.u64 6 x4), some (EV.arr IntKind.u64 6 x5)]) (fun y0 y1 => K (.exit 0) [EV.ptr 0 [], EV.bool y0] [some (EV.arr IntKind.u64 6 y1)]) x0 x1 x2 x3 x4 x5 := (yaI _ _ _ _ _ _ _ _ _ _ _).symm.trans (by kernel_rfl)
theorem zdg.l5X.eq (K : Ex → List EV → yaf → Prop) : ∀ (n : Nat) (x0 : Bool) (x1 : Int) (x2 : Int) (x3 : Int) (x4 : Nat → Int) (x5 : Nat → Int), yaC E_zdg (yab Tryz.f44 0) (LV.mk 48 [(0, 48)] 48 0 false) 0 59 K n [EV.ptr 0 [], EV.ptr 1 [], EV.bool x0, EV.int IntKind.i64 x1, EV.int IntKind.u64 x2, EV.int IntKind.i64 x3] [some (EV.arr IntKind.u64 6 x4), some (EV.arr IntKind.u64 6 x5)] = zdg.l5 (fun y0 y1 => K (.exit 0) [EV.ptr 0 [], EV.bool y0] [some (EV.arr IntKind.u64 6 y1)]) n x0 x1 x2 x3 x4 x5
 | 0, _, _, _, _, _, _ => rfl
 | n + 1, x0, x1, x2, x3, x4, x5 => by
  have ih : (fun (x0 : Bool) (x1 : Int) (x2 : Int) (x3 : Int) (x4 : Nat → Int) (x5 : Nat → Int) => yaC E_zdg (yab Tryz.f44 0) (LV.mk 48 [(0, 48)] 48 0 false) 0 59 K n [EV.ptr 0 [], EV.ptr 1 [], EV.bool x0, EV.int IntKind.i64 x1, EV.int IntKind.u64 x2, EV.int IntKind.i64 x3] [some (EV.arr IntKind.u64 6 x4), some (EV.arr IntKind.u64 6 x5)]) = zdg.l5 (fun y0 y1 => K (.exit 0) [EV.ptr 0 [], EV.bool y0] [some (EV.arr IntKind.u64 6 y1)]) n := by funext x0 x1 x2 x3 x4 x5; exact zdg.l5X.eq K n x0 x1 x2 x3 x4 x5
  show yao _ _ _ _ _ (yaC E_zdg (yab Tryz.f44 0) (LV.mk 48 [(0, 48)] 48 0 false) 0 59 K n) [EV.ptr 0 [], EV.ptr 1 [], EV.bool x0, EV.int IntKind.i64 x1, EV.int IntKind.u64 x2, EV.int IntKind.i64 x3] [some (EV.arr IntKind.u64 6 x4), some (EV.arr IntKind.u64 6 x5)] K = zdg.l5.step (zdg.l5 (fun y0 y1 => K (.exit 0) [EV.ptr 0 [], EV.bool y0] [some (EV.arr IntKind.u64 6 y1)]) n) (fun y0 y1 => K (.exit 0) [EV.ptr 0 [], EV.bool y0] [some (EV.arr IntKind.u64 6 y1)]) x0 x1 x2 x3 x4 x5
  rw [← ih]
  exact zdg.l5X.stepEq _ K x0 x1 x2 x3 x4 x5
theorem zdg.l5X.ok : LoopEq E_zdg (yab Tryz.f44 0) := by
 intro L hL vs H
 have h1 : E_zdg.lp (yal (yab Tryz.f44 0)) = some zdg.l5.entry := by kernel_rfl
 have h2 : L = zdg.l5.entry := Option.some.inj (hL.symm.trans h1)
 subst h2
 by_cases hx : ∃ (x0 : Bool) (x1 : Int) (x2 : Int) (x3 : Int) (x4 : Nat → Int) (x5 : Nat → Int), vs = [EV.ptr 0 [], EV.ptr 1 [], EV.bool x0, EV.int IntKind.i64 x1, EV.int IntKind.u64 x2, EV.int IntKind.i64 x3] ∧ H = [some (EV.arr IntKind.u64 6 x4), some (EV.arr IntKind.u64 6 x5)]
 ·obtain ⟨x0, x1, x2, x3, x4, x5, rfl, rfl⟩ := hx
  right; intro K
  exact exists_congr fun n => iff_of_eq (zdg.l5X.eq K n x0 x1 x2 x3 x4 x5).symm
 ·left; intro K h
  simp only [zdg.l5.entry] at h
  split at h
  ·exact hx ⟨_, _, _, _, _, _, rfl, rfl⟩
  ·exact h
theorem X_zdg.eq (a0 : Nat → Int) (a1 : Int) (K : EV → yaf → Prop) : yaV E_zdg Tryz.f44 false [.arr .u64 6 a0, .int .i64 a1] [] K = zdg a0 a1 (fun y0 y1 => K (EV.tuple [EV.arr IntKind.u64 6 y0, EV.bool y1]) []) := by
 rw [zdg.is]; exact (yag _ _ _ _ _ _).symm.trans (by kernel_rfl)
theorem X_zdg.ok : SoundE Tryz.prog gl 44 e_zdg := by
 refine ya3 (E := E_zdg) (fn := Tryz.f44) rfl tys_ok rfl (show yaZ _ l_zdg from ⟨X_zdh.ok, X_zdr.ok, trivial⟩) mixed (by kernel_rfl) (by kernel_rfl) (by kernel_rfl) 1 (by kernel_rfl) false ⟨zdg.l5X.ok, trivial⟩ ?_
 intro args H
 by_cases hx : ∃ (a0 : Nat → Int) (a1 : Int), args = [.arr .u64 6 a0, .int .i64 a1] ∧ H = []
 ·obtain ⟨a0, a1, rfl, rfl⟩ := hx
  right; intro K
  exact iff_of_eq (X_zdg.eq a0 a1 K).symm
 ·left; intro K h
  simp only [e_zdg] at h
  split at h
  ·exact hx ⟨_, _, rfl, rfl⟩
  ·exact h
noncomputable def e_zdk : yan := ⟨[none], false, fun args H K => match args, H with
 | [.int .u64 a0], [] => zdk a0 (fun y0 => K (EV.arr IntKind.u64 6 y0) [])
 | _, _ => False⟩
noncomputable def E_zdk : Env := ⟨look tys, look [], look [], gl, yaq [], false⟩
theorem X_zdk.eq (a0 : Int) (K : EV → yaf → Prop) : yaV E_zdk Tryz.f45 false [.int .u64 a0] [] K = zdk a0 (fun y0 => K (EV.arr IntKind.u64 6 y0) []) := by
 rw [zdk.is]; exact (yag _ _ _ _ _ _).symm.trans (by kernel_rfl)
theorem X_zdk.ok : SoundE Tryz.prog gl 45 e_zdk := by
 refine ya3 (E := E_zdk) (fn := Tryz.f45) rfl tys_ok rfl (show yaZ _ [] from trivial) mixed (by kernel_rfl) (by kernel_rfl) (by kernel_rfl) 0 (by kernel_rfl) false trivial ?_
 intro args H
 by_cases hx : ∃ (a0 : Int), args = [.int .u64 a0] ∧ H = []
 ·obtain ⟨a0, rfl, rfl⟩ := hx
  right; intro K
  exact iff_of_eq (X_zdk.eq a0 K).symm
 ·left; intro K h
  simp only [e_zdk] at h
  split at h
  ·exact hx ⟨_, rfl, rfl⟩
  ·exact h
noncomputable def e_zdq : yan := ⟨[none], false, fun args H K => match args, H with
 | [.arr .u64 6 a0], [] => zdq a0 (fun y0 y1 y2 => K (EV.tuple [EV.agg [EV.int IntKind.u64 y0, EV.int IntKind.u64 y1], EV.bool y2]) [])
 | _, _ => False⟩
noncomputable def E_zdq : Env := ⟨look tys, look [], look [], gl, yaq [], false⟩
theorem X_zdq.eq (a0 : Nat → Int) (K : EV → yaf → Prop) : yaV E_zdq Tryz.f47 false [.arr .u64 6 a0] [] K = zdq a0 (fun y0 y1 y2 => K (EV.tuple [EV.agg [EV.int IntKind.u64 y0, EV.int IntKind.u64 y1], EV.bool y2]) []) := by
 rw [zdq.is]; exact (yag _ _ _ _ _ _).symm.trans (by kernel_rfl)
theorem X_zdq.ok : SoundE Tryz.prog gl 47 e_zdq := by
 refine ya3 (E := E_zdq) (fn := Tryz.f47) rfl tys_ok rfl (show yaZ _ [] from trivial) mixed (by kernel_rfl) (by kernel_rfl) (by kernel_rfl) 0 (by kernel_rfl) false trivial ?_
 intro args H
 by_cases hx : ∃ (a0 : Nat → Int), args = [.arr .u64 6 a0] ∧ H = []
 ·obtain ⟨a0, rfl, rfl⟩ := hx
  right; intro K
  exact iff_of_eq (X_zdq.eq a0 K).symm
 ·left; intro K h
  simp only [e_zdq] at h
  split at h
  ·exact hx ⟨_, rfl, rfl⟩
  ·exact h
noncomputable def e_zdm : yan := ⟨[none, none], false, fun args H K => match args, H with
 | [.arr .u64 6 a0, .arr .u64 6 a1], [] => zdm a0 a1 (fun y0 => K (EV.arr IntKind.u64 6 y0) [])
 | _, _ => False⟩
noncomputable def E_zdm : Env := ⟨look tys, look [], look [(2, zdm.l2.entry)], gl, yaq [], false⟩
theorem zdm.l2X.stepEq (R : List EV → yaf → Prop) (K : Ex → List EV → yaf → Prop) (x0 : Int) (x1 : Nat → Int) (x2 : Nat → Int) (x3 : Nat → Int) : yao (yap E_zdm (yab Tryz.f134 0) { (LV.mk 20 [(0, 20)] 16 0 false) with nx := live (.loop (yab Tryz.f134 0)) (LV.mk 20 [(0, 20)] 16 0 false) }) (live (.loop (yab Tryz.f134 0)) (LV.mk 20 [(0, 20)] 16 0 false)) (LV.mk 20 [(0, 20)] 16 0 false) 0 19 R [EV.ptr 0 [], EV.ptr 1 [], EV.ptr 2 [], EV.int IntKind.i64 x0] [some (EV.arr IntKind.u64 6 x1), some (EV.arr IntKind.u64 6 x2), some (EV.arr IntKind.u64 6 x3)] K = zdm.l2.step (fun x0 x1 x2 x3 => R [EV.ptr 0 [], EV.ptr 1 [], EV.ptr 2 [], EV.int IntKind.i64 x0] [some (EV.arr IntKind.u64 6 x1), some (EV.arr IntKind.u64 6 x2), some (EV.arr IntKind.u64 6 x3)]) (fun y0 y1 => K (.exit 0) [EV.ptr 0 [], EV.ptr 1 []] [some (EV.arr IntKind.u64 6 y0), some (EV.arr IntKind.u64 6 y1)]) x0 x1 x2 x3 := (yaI _ _ _ _ _ _ _ _ _ _ _).symm.trans (by kernel_rfl)
theorem zdm.l2X.eq (K : Ex → List EV → yaf → Prop) : ∀ (n : Nat) (x0 : Int) (x1 : Nat → Int) (x2 : Nat → Int) (x3 : Nat → Int), yaC E_zdm (yab Tryz.f134 0) (LV.mk 20 [(0, 20)] 16 0 false) 0 19 K n [EV.ptr 0 [], EV.ptr 1 [], EV.ptr 2 [], EV.int IntKind.i64 x0] [some (EV.arr IntKind.u64 6 x1), some (EV.arr IntKind.u64 6 x2), some (EV.arr IntKind.u64 6 x3)] = zdm.l2 (fun y0 y1 => K (.exit 0) [EV.ptr 0 [], EV.ptr 1 []] [some (EV.arr IntKind.u64 6 y0), some (EV.arr IntKind.u64 6 y1)]) n x0 x1 x2 x3
 | 0, _, _, _, _ => rfl
 | n + 1, x0, x1, x2, x3 => by
  have ih : (fun (x0 : Int) (x1 : Nat → Int) (x2 : Nat → Int) (x3 : Nat → Int) => yaC E_zdm (yab Tryz.f134 0) (LV.mk 20 [(0, 20)] 16 0 false) 0 19 K n [EV.ptr 0 [], EV.ptr 1 [], EV.ptr 2 [], EV.int IntKind.i64 x0] [some (EV.arr IntKind.u64 6 x1), some (EV.arr IntKind.u64 6 x2), some (EV.arr IntKind.u64 6 x3)]) = zdm.l2 (fun y0 y1 => K (.exit 0) [EV.ptr 0 [], EV.ptr 1 []] [some (EV.arr IntKind.u64 6 y0), some (EV.arr IntKind.u64 6 y1)]) n := by funext x0 x1 x2 x3; exact zdm.l2X.eq K n x0 x1 x2 x3
  show yao _ _ _ _ _ (yaC E_zdm (yab Tryz.f134 0) (LV.mk 20 [(0, 20)] 16 0 false) 0 19 K n) [EV.ptr 0 [], EV.ptr 1 [], EV.ptr 2 [], EV.int IntKind.i64 x0] [some (EV.arr IntKind.u64 6 x1), some (EV.arr IntKind.u64 6 x2), some (EV.arr IntKind.u64 6 x3)] K = zdm.l2.step (zdm.l2 (fun y0 y1 => K (.exit 0) [EV.ptr 0 [], EV.ptr 1 []] [some (EV.arr IntKind.u64 6 y0), some (EV.arr IntKind.u64 6 y1)]) n) (fun y0 y1 => K (.exit 0) [EV.ptr 0 [], EV.ptr 1 []] [some (EV.arr IntKind.u64 6 y0), some (EV.arr IntKind.u64 6 y1)]) x0 x1 x2 x3
  rw [← ih]
  exact zdm.l2X.stepEq _ K x0 x1 x2 x3
theorem zdm.l2X.ok : LoopEq E_zdm (yab Tryz.f134 0) := by
 intro L hL vs H
 have h1 : E_zdm.lp (yal (yab Tryz.f134 0)) = some zdm.l2.entry := by kernel_rfl
 have h2 : L = zdm.l2.entry := Option.some.inj (hL.symm.trans h1)
 subst h2
 by_cases hx : ∃ (x0 : Int) (x1 : Nat → Int) (x2 : Nat → Int) (x3 : Nat → Int), vs = [EV.ptr 0 [], EV.ptr 1 [], EV.ptr 2 [], EV.int IntKind.i64 x0] ∧ H = [some (EV.arr IntKind.u64 6 x1), some (EV.arr IntKind.u64 6 x2), some (EV.arr IntKind.u64 6 x3)]
 ·obtain ⟨x0, x1, x2, x3, rfl, rfl⟩ := hx
  right; intro K
  exact exists_congr fun n => iff_of_eq (zdm.l2X.eq K n x0 x1 x2 x3).symm
 ·left; intro K h
  simp only [zdm.l2.entry] at h
  split at h
  ·exact hx ⟨_, _, _, _, rfl, rfl⟩
  ·exact h
theorem X_zdm.eq (a0 : Nat → Int) (a1 : Nat → Int) (K : EV → yaf → Prop) : yaV E_zdm Tryz.f134 false [.arr .u64 6 a0, .arr .u64 6 a1] [] K = zdm a0 a1 (fun y0 => K (EV.arr IntKind.u64 6 y0) []) := by
 rw [zdm.is]; exact (yag _ _ _ _ _ _).symm.trans (by kernel_rfl)
theorem X_zdm.ok : SoundE Tryz.prog gl 134 e_zdm := by
 refine ya3 (E := E_zdm) (fn := Tryz.f134) rfl tys_ok rfl (show yaZ _ [] from trivial) mixed (by kernel_rfl) (by kernel_rfl) (by kernel_rfl) 1 (by kernel_rfl) false ⟨zdm.l2X.ok, trivial⟩ ?_
 intro args H
 by_cases hx : ∃ (a0 : Nat → Int) (a1 : Nat → Int), args = [.arr .u64 6 a0, .arr .u64 6 a1] ∧ H = []
 ·obtain ⟨a0, a1, rfl, rfl⟩ := hx
  right; intro K
  exact iff_of_eq (X_zdm.eq a0 a1 K).symm
 ·left; intro K h
  simp only [e_zdm] at h
  split at h
  ·exact hx ⟨_, _, rfl, rfl⟩
  ·exact h
noncomputable def e_zar : yan := ⟨[none, none, none, none], false, fun args H K => match args, H with
 | [.int .u8 a0, .bool a1, .int .i64 a2, .arr .u64 6 a3], [] => zar a0 a1 a2 a3 (fun y0 y1 => K (EV.agg [EV.int IntKind.u64 y0, EV.int IntKind.u64 y1]) [])
 | _, _ => False⟩
noncomputable def l_zar : List (Nat × yan) := [(35, e_zct), (44, e_zdg), (45, e_zdk), (47, e_zdq), (102, e_zcu), (134, e_zdm)]
noncomputable def E_zar : Env := ⟨look tys, look l_zar, look [], gl, yaq [], false⟩
theorem X_zar.eq (a0 : Int) (a1 : Bool) (a2 : Int) (a3 : Nat → Int) (K : EV → yaf → Prop) : yaV E_zar Tryz.f63 false [.int .u8 a0, .bool a1, .int .i64 a2, .arr .u64 6 a3] [] K = zar a0 a1 a2 a3 (fun y0 y1 => K (EV.agg [EV.int IntKind.u64 y0, EV.int IntKind.u64 y1]) []) := by
 rw [zar.is]; exact (yag _ _ _ _ _ _).symm.trans (by kernel_rfl)
theorem X_zar.ok : SoundE Tryz.prog gl 63 e_zar := by
 refine ya3 (E := E_zar) (fn := Tryz.f63) rfl tys_ok rfl (show yaZ _ l_zar from ⟨X_zct.ok, X_zdg.ok, X_zdk.ok, X_zdq.ok, X_zcu.ok, X_zdm.ok, trivial⟩) mixed (by kernel_rfl) (by kernel_rfl) (by kernel_rfl) 0 (by kernel_rfl) false trivial ?_
 intro args H
 by_cases hx : ∃ (a0 : Int) (a1 : Bool) (a2 : Int) (a3 : Nat → Int), args = [.int .u8 a0, .bool a1, .int .i64 a2, .arr .u64 6 a3] ∧ H = []
 ·obtain ⟨a0, a1, a2, a3, rfl, rfl⟩ := hx
  right; intro K
  exact iff_of_eq (X_zar.eq a0 a1 a2 a3 K).symm
 ·left; intro K h
  simp only [e_zar] at h
  split at h
  ·exact hx ⟨_, _, _, _, rfl, rfl⟩
  ·exact h
noncomputable def e_zcx : yan := ⟨[none, none], false, fun args H K => match args, H with
 | [.int .u8 a0, .int .i64 a1], [] => zcx a0 a1 (fun y0 y1 => K (EV.agg [EV.int IntKind.u64 y0, EV.int IntKind.u64 y1]) [])
 | _, _ => False⟩
noncomputable def l_zcx : List (Nat × yan) := [(35, e_zct), (166, e_zcw)]
noncomputable def E_zcx : Env := ⟨look tys, look l_zcx, look [], gl, yaq [], false⟩
theorem X_zcx.eq (a0 : Int) (a1 : Int) (K : EV → yaf → Prop) : yaV E_zcx Tryz.f164 false [.int .u8 a0, .int .i64 a1] [] K = zcx a0 a1 (fun y0 y1 => K (EV.agg [EV.int IntKind.u64 y0, EV.int IntKind.u64 y1]) []) := by
 rw [zcx.is]; exact (yag _ _ _ _ _ _).symm.trans (by kernel_rfl)
theorem X_zcx.ok : SoundE Tryz.prog gl 164 e_zcx := by
 refine ya3 (E := E_zcx) (fn := Tryz.f164) rfl tys_ok rfl (show yaZ _ l_zcx from ⟨X_zct.ok, X_zcw.ok, trivial⟩) mixed (by kernel_rfl) (by kernel_rfl) (by kernel_rfl) 0 (by kernel_rfl) false trivial ?_
 intro args H
 by_cases hx : ∃ (a0 : Int) (a1 : Int), args = [.int .u8 a0, .int .i64 a1] ∧ H = []
 ·obtain ⟨a0, a1, rfl, rfl⟩ := hx
  right; intro K
  exact iff_of_eq (X_zcx.eq a0 a1 K).symm
 ·left; intro K h
  simp only [e_zcx] at h
  split at h
  ·exact hx ⟨_, _, rfl, rfl⟩
  ·exact h
noncomputable def e_zcs : yan := ⟨[none, none], false, fun args H K => match args, H with
 | [.int .u8 a0, .bool a1], [] => zcs a0 a1 (fun y0 y1 => K (EV.agg [EV.int IntKind.u64 y0, EV.int IntKind.u64 y1]) [])
 | _, _ => False⟩
noncomputable def l_zcs : List (Nat × yan) := [(40, e_zcp), (57, e_zco), (106, e_zcz), (164, e_zcx)]
noncomputable def E_zcs : Env := ⟨look tys, look l_zcs, look [], gl, yaq [], false⟩
theorem X_zcs.eq (a0 : Int) (a1 : Bool) (K : EV → yaf → Prop) : yaV E_zcs Tryz.f100 false [.int .u8 a0, .bool a1] [] K = zcs a0 a1 (fun y0 y1 => K (EV.agg [EV.int IntKind.u64 y0, EV.int IntKind.u64 y1]) []) := by
 rw [zcs.is]; exact (yag _ _ _ _ _ _).symm.trans (by kernel_rfl)
theorem X_zcs.ok : SoundE Tryz.prog gl 100 e_zcs := by
 refine ya3 (E := E_zcs) (fn := Tryz.f100) rfl tys_ok rfl (show yaZ _ l_zcs from ⟨X_zcp.ok, X_zco.ok, X_zcz.ok, X_zcx.ok, trivial⟩) mixed (by kernel_rfl) (by kernel_rfl) (by kernel_rfl) 0 (by kernel_rfl) false trivial ?_
 intro args H
 by_cases hx : ∃ (a0 : Int) (a1 : Bool), args = [.int .u8 a0, .bool a1] ∧ H = []
 ·obtain ⟨a0, a1, rfl, rfl⟩ := hx
  right; intro K
  exact iff_of_eq (X_zcs.eq a0 a1 K).symm
 ·left; intro K h
  simp only [e_zcs] at h
  split at h
  ·exact hx ⟨_, _, rfl, rfl⟩
  ·exact h
noncomputable def e_zam : yan := ⟨[none, none], false, fun args H K => match args, H with
 | [.int .u8 a0, .agg [.int .u8 a1_0, .arr .u64 6 a1_1, .int .i64 a1_2, .arr .u64 6 a1_3]], [] => zam a0 a1_0 a1_1 a1_2 a1_3 (fun y0 y1 y2 => K (EV.tuple [EV.agg [EV.int IntKind.u64 y0, EV.int IntKind.u64 y1], EV.int IntKind.i64 y2]) [])
 | _, _ => False⟩
noncomputable def l_zam : List (Nat × yan) := [(31, e_zaq), (35, e_zct), (37, e_zdh), (38, e_zcv), (39, e_zcq), (40, e_zcp), (57, e_zco), (62, e_zdf), (63, e_zar), (64, e_zde), (65, e_zdj), (100, e_zcs)]
noncomputable def E_zam : Env := ⟨look tys, look l_zam, look [], gl, yaq [], false⟩
theorem X_zam.eq (a0 : Int) (a1_0 : Int) (a1_1 : Nat → Int) (a1_2 : Int) (a1_3 : Nat → Int) (K : EV → yaf → Prop) : yaV E_zam Tryz.f32 false [.int .u8 a0, .agg [.int .u8 a1_0, .arr .u64 6 a1_1, .int .i64 a1_2, .arr .u64 6 a1_3]] [] K = zam a0 a1_0 a1_1 a1_2 a1_3 (fun y0 y1 y2 => K (EV.tuple [EV.agg [EV.int IntKind.u64 y0, EV.int IntKind.u64 y1], EV.int IntKind.i64 y2]) []) := by
 rw [zam.is]; exact (yag _ _ _ _ _ _).symm.trans (by kernel_rfl)
theorem X_zam.ok : SoundE Tryz.prog gl 32 e_zam := by
 refine ya3 (E := E_zam) (fn := Tryz.f32) rfl tys_ok rfl (show yaZ _ l_zam from ⟨X_zaq.ok, X_zct.ok, X_zdh.ok, X_zcv.ok, X_zcq.ok, X_zcp.ok, X_zco.ok, X_zdf.ok, X_zar.ok, X_zde.ok, X_zdj.ok, X_zcs.ok, trivial⟩) mixed (by kernel_rfl) (by kernel_rfl) (by kernel_rfl) 0 (by kernel_rfl) false trivial ?_
 intro args H
 by_cases hx : ∃ (a0 : Int) (a1_0 : Int) (a1_1 : Nat → Int) (a1_2 : Int) (a1_3 : Nat → Int), args = [.int .u8 a0, .agg [.int .u8 a1_0, .arr .u64 6 a1_1, .int .i64 a1_2, .arr .u64 6 a1_3]] ∧ H = []
 ·obtain ⟨a0, a1_0, a1_1, a1_2, a1_3, rfl, rfl⟩ := hx
  right; intro K
  exact iff_of_eq (X_zam.eq a0 a1_0 a1_1 a1_2 a1_3 K).symm
 ·left; intro K h
  simp only [e_zam] at h
  split at h
  ·exact hx ⟨_, _, _, _, _, rfl, rfl⟩
  ·exact h
noncomputable def e_zal : yan := ⟨[none, none], false, fun args H K => match args, H with
 | [.int .u8 a0, .agg [.int .u64 a1_0, .int .u64 a1_1]], [] => zal a0 a1_0 a1_1 (fun y0 y1 => K (EV.agg [EV.int IntKind.u64 y0, EV.int IntKind.u64 y1]) [])
 | _, _ => False⟩
noncomputable def l_zal : List (Nat × yan) := [(38, e_zcv), (97, e_zcr)]
noncomputable def E_zal : Env := ⟨look tys, look l_zal, look [], gl, yaq [], false⟩
theorem X_zal.eq (a0 : Int) (a1_0 : Int) (a1_1 : Int) (K : EV → yaf → Prop) : yaV E_zal Tryz.f33 false [.int .u8 a0, .agg [.int .u64 a1_0, .int .u64 a1_1]] [] K = zal a0 a1_0 a1_1 (fun y0 y1 => K (EV.agg [EV.int IntKind.u64 y0, EV.int IntKind.u64 y1]) []) := by
 rw [zal.is]; exact (yag _ _ _ _ _ _).symm.trans (by kernel_rfl)
theorem X_zal.ok : SoundE Tryz.prog gl 33 e_zal := by
 refine ya3 (E := E_zal) (fn := Tryz.f33) rfl tys_ok rfl (show yaZ _ l_zal from ⟨X_zcv.ok, X_zcr.ok, trivial⟩) mixed (by kernel_rfl) (by kernel_rfl) (by kernel_rfl) 0 (by kernel_rfl) false trivial ?_
 intro args H
 by_cases hx : ∃ (a0 : Int) (a1_0 : Int) (a1_1 : Int), args = [.int .u8 a0, .agg [.int .u64 a1_0, .int .u64 a1_1]] ∧ H = []
 ·obtain ⟨a0, a1_0, a1_1, rfl, rfl⟩ := hx
  right; intro K
  exact iff_of_eq (X_zal.eq a0 a1_0 a1_1 K).symm
 ·left; intro K h
  simp only [e_zal] at h
  split at h
  ·exact hx ⟨_, _, _, rfl, rfl⟩
  ·exact h
noncomputable def e_zah : yan := ⟨[none, none], false, fun args H K => match args, H with
 | [.str a0, .str a1], [] => zah a0 a1 (fun y0 => K (EV.bool y0) [])
 | _, _ => False⟩
noncomputable def E_zah : Env := ⟨look tys, look [], look [], gl, yaq [], false⟩
theorem X_zah.eq (a0 : List UInt8) (a1 : List UInt8) (K : EV → yaf → Prop) : yaV E_zah Tryz.f207 false [.str a0, .str a1] [] K = zah a0 a1 (fun y0 => K (EV.bool y0) []) := by
 rw [zah.is]; exact (yag _ _ _ _ _ _).symm.trans (by kernel_rfl)
theorem X_zah.ok : SoundE Tryz.prog gl 207 e_zah := by
 refine ya3 (E := E_zah) (fn := Tryz.f207) rfl tys_ok rfl (show yaZ _ [] from trivial) mixed (by kernel_rfl) (by kernel_rfl) (by kernel_rfl) 0 (by kernel_rfl) false trivial ?_
 intro args H
 by_cases hx : ∃ (a0 : List UInt8) (a1 : List UInt8), args = [.str a0, .str a1] ∧ H = []
 ·obtain ⟨a0, a1, rfl, rfl⟩ := hx
  right; intro K
  exact iff_of_eq (X_zah.eq a0 a1 K).symm
 ·left; intro K h
  simp only [e_zah] at h
  split at h
  ·exact hx ⟨_, _, rfl, rfl⟩
  ·exact h
noncomputable def e_zag : yan := ⟨[none, none], false, fun args H K => match args, H with
 | [.str a0, .str a1], [] => zag a0 a1 (fun y0 y1 => K (EV.tuple [EV.str y0, EV.bool y1]) [])
 | _, _ => False⟩
noncomputable def l_zag : List (Nat × yan) := [(207, e_zah)]
noncomputable def E_zag : Env := ⟨look tys, look l_zag, look [], gl, yaq [], false⟩
theorem X_zag.eq (a0 : List UInt8) (a1 : List UInt8) (K : EV → yaf → Prop) : yaV E_zag Tryz.f189 false [.str a0, .str a1] [] K = zag a0 a1 (fun y0 y1 => K (EV.tuple [EV.str y0, EV.bool y1]) []) := by
 rw [zag.is]; exact (yag _ _ _ _ _ _).symm.trans (by kernel_rfl)
theorem X_zag.ok : SoundE Tryz.prog gl 189 e_zag := by
 refine ya3 (E := E_zag) (fn := Tryz.f189) rfl tys_ok rfl (show yaZ _ l_zag from ⟨X_zah.ok, trivial⟩) mixed (by kernel_rfl) (by kernel_rfl) (by kernel_rfl) 0 (by kernel_rfl) false trivial ?_
 intro args H
 by_cases hx : ∃ (a0 : List UInt8) (a1 : List UInt8), args = [.str a0, .str a1] ∧ H = []
 ·obtain ⟨a0, a1, rfl, rfl⟩ := hx
  right; intro K
  exact iff_of_eq (X_zag.eq a0 a1 K).symm
 ·left; intro K h
  simp only [e_zag] at h
  split at h
  ·exact hx ⟨_, _, rfl, rfl⟩
  ·exact h
noncomputable def e_zdd : yan := ⟨[none, none], false, fun args H K => match args, H with
 | [.str a0, .str a1], [] => zdd a0 a1 (fun y0 y1 => K (EV.tuple [EV.str y0, EV.bool y1]) [])
 | _, _ => False⟩
noncomputable def l_zdd : List (Nat × yan) := [(189, e_zag)]
noncomputable def E_zdd : Env := ⟨look tys, look l_zdd, look [], gl, yaq [], false⟩
theorem X_zdd.eq (a0 : List UInt8) (a1 : List UInt8) (K : EV → yaf → Prop) : yaV E_zdd Tryz.f152 false [.str a0, .str a1] [] K = zdd a0 a1 (fun y0 y1 => K (EV.tuple [EV.str y0, EV.bool y1]) []) := by
 rw [zdd.is]; exact (yag _ _ _ _ _ _).symm.trans (by kernel_rfl)
theorem X_zdd.ok : SoundE Tryz.prog gl 152 e_zdd := by
 refine ya3 (E := E_zdd) (fn := Tryz.f152) rfl tys_ok rfl (show yaZ _ l_zdd from ⟨X_zag.ok, trivial⟩) mixed (by kernel_rfl) (by kernel_rfl) (by kernel_rfl) 0 (by kernel_rfl) false trivial ?_
 intro args H
 by_cases hx : ∃ (a0 : List UInt8) (a1 : List UInt8), args = [.str a0, .str a1] ∧ H = []
 ·obtain ⟨a0, a1, rfl, rfl⟩ := hx
  right; intro K
  exact iff_of_eq (X_zdd.eq a0 a1 K).symm
 ·left; intro K h
  simp only [e_zdd] at h
  split at h
  ·exact hx ⟨_, _, rfl, rfl⟩
  ·exact h
open Go.Shelf in
def lays_internal_stringslite_IndexByte_ren : Go.Shelf.Ren := ⟨fun | 217 => 221 | 266 => 229 | n => n, fun | 9 => 9 | 5 => 5 | 3 => 3 | n => n, fun | n => n⟩
open Go.Shelf in
theorem lays_internal_stringslite_IndexByte : Go.Proofs.Lays.n217 Tryz.prog lays_internal_stringslite_IndexByte_ren where
 mixed := by kernel_rfl
 f217 := Tryz.func221.trans (congrArg some (by kernel_rfl))
 f266 := Tryz.func229.trans (congrArg some (by kernel_rfl))
 t3 := Tryz.underlying3
 a3 := Tryz.isAgg3
 z3 := Tryz.sizeOf3
 v3 := Tryz.zeroValue3
 t5 := Tryz.underlying5
 a5 := Tryz.isAgg5
 z5 := Tryz.sizeOf5
 v5 := Tryz.zeroValue5
 t9 := Tryz.underlying9
 a9 := Tryz.isAgg9
 z9 := Tryz.sizeOf9
 v9 := Tryz.zeroValue9
theorem X_zaj.ok : SoundE Tryz.prog gl 221 yon := yje lays_internal_stringslite_IndexByte (by kernel_rfl) ⟨_, Tryz.func221, by kernel_rfl, by kernel_rfl⟩
noncomputable def e_zac : yan := ⟨[none], false, fun args H K => match args, H with
 | [.int .i64 a0], [] => zac a0 (fun y0 => K (EV.int IntKind.i64 y0) [])
 | _, _ => False⟩
noncomputable def E_zac : Env := ⟨look tys, look [], look [], gl, yaq [], false⟩
theorem X_zac.eq (a0 : Int) (K : EV → yaf → Prop) : yaV E_zac Tryz.f223 false [.int .i64 a0] [] K = zac a0 (fun y0 => K (EV.int IntKind.i64 y0) []) := by
 rw [zac.is]; exact (yag _ _ _ _ _ _).symm.trans (by kernel_rfl)
theorem X_zac.ok : SoundE Tryz.prog gl 223 e_zac := by
 refine ya3 (E := E_zac) (fn := Tryz.f223) rfl tys_ok rfl (show yaZ _ [] from trivial) mixed (by kernel_rfl) (by kernel_rfl) (by kernel_rfl) 0 (by kernel_rfl) false trivial ?_
 intro args H
 by_cases hx : ∃ (a0 : Int), args = [.int .i64 a0] ∧ H = []
 ·obtain ⟨a0, rfl, rfl⟩ := hx
  right; intro K
  exact iff_of_eq (X_zac.eq a0 K).symm
 ·left; intro K h
  simp only [e_zac] at h
  split at h
  ·exact hx ⟨_, rfl, rfl⟩
  ·exact h
noncomputable def e_zae : yan := ⟨[none], false, fun args H K => match args, H with
 | [.str a0], [] => zae a0 (fun y0 y1 => K (EV.tuple [EV.int IntKind.u32 y0, EV.int IntKind.u32 y1]) [])
 | _, _ => False⟩
noncomputable def E_zae : Env := ⟨look tys, look [], look [(3, zae.l3.entry), (8, zae.l8.entry)], gl, yaq [], false⟩
theorem zae.l3X.stepEq (R : List EV → yaf → Prop) (K : Ex → List EV → yaf → Prop) (x0 : List UInt8) (x1 : Int) (x2 : Int) : yao (yap E_zae (yab Tryz.f230 0) { (LV.mk 17 [(0, 17)] 12 0 false) with nx := live (.loop (yab Tryz.f230 0)) (LV.mk 17 [(0, 17)] 12 0 false) }) (live (.loop (yab Tryz.f230 0)) (LV.mk 17 [(0, 17)] 12 0 false)) (LV.mk 17 [(0, 17)] 12 0 false) 0 39 R [EV.str x0, EV.int IntKind.u32 x1, EV.int IntKind.i64 x2] [] K = zae.l3.step (fun x0 x1 x2 => R [EV.str x0, EV.int IntKind.u32 x1, EV.int IntKind.i64 x2] []) (fun y0 y1 => K (.exit 0) [EV.str y0, EV.int IntKind.u32 y1] []) x0 x1 x2 := (yaI _ _ _ _ _ _ _ _ _ _ _).symm.trans (by kernel_rfl)
theorem zae.l3X.eq (K : Ex → List EV → yaf → Prop) : ∀ (n : Nat) (x0 : List UInt8) (x1 : Int) (x2 : Int), yaC E_zae (yab Tryz.f230 0) (LV.mk 17 [(0, 17)] 12 0 false) 0 39 K n [EV.str x0, EV.int IntKind.u32 x1, EV.int IntKind.i64 x2] [] = zae.l3 (fun y0 y1 => K (.exit 0) [EV.str y0, EV.int IntKind.u32 y1] []) n x0 x1 x2
 | 0, _, _, _ => rfl
 | n + 1, x0, x1, x2 => by
  have ih : (fun (x0 : List UInt8) (x1 : Int) (x2 : Int) => yaC E_zae (yab Tryz.f230 0) (LV.mk 17 [(0, 17)] 12 0 false) 0 39 K n [EV.str x0, EV.int IntKind.u32 x1, EV.int IntKind.i64 x2] []) = zae.l3 (fun y0 y1 => K (.exit 0) [EV.str y0, EV.int IntKind.u32 y1] []) n := by funext x0 x1 x2; exact zae.l3X.eq K n x0 x1 x2
  show yao _ _ _ _ _ (yaC E_zae (yab Tryz.f230 0) (LV.mk 17 [(0, 17)] 12 0 false) 0 39 K n) [EV.str x0, EV.int IntKind.u32 x1, EV.int IntKind.i64 x2] [] K = zae.l3.step (zae.l3 (fun y0 y1 => K (.exit 0) [EV.str y0, EV.int IntKind.u32 y1] []) n) (fun y0 y1 => K (.exit 0) [EV.str y0, EV.int IntKind.u32 y1] []) x0 x1 x2
  rw [← ih]
  exact zae.l3X.stepEq _ K x0 x1 x2
theorem zae.l3X.ok : LoopEq E_zae (yab Tryz.f230 0) := by
 intro L hL vs H
 have h1 : E_zae.lp (yal (yab Tryz.f230 0)) = some zae.l3.entry := by kernel_rfl
 have h2 : L = zae.l3.entry := Option.some.inj (hL.symm.trans h1)
 subst h2
 by_cases hx : ∃ (x0 : List UInt8) (x1 : Int) (x2 : Int), vs = [EV.str x0, EV.int IntKind.u32 x1, EV.int IntKind.i64 x2] ∧ H = []
 ·obtain ⟨x0, x1, x2, rfl, rfl⟩ := hx
  right; intro K
  exact exists_congr fun n => iff_of_eq (zae.l3X.eq K n x0 x1 x2).symm
 ·left; intro K h
  simp only [zae.l3.entry] at h
  split at h
  ·exact hx ⟨_, _, _, rfl, rfl⟩
  ·exact h
theorem zae.l8X.stepEq (R : List EV → yaf → Prop) (K : Ex → List EV → yaf → Prop) (x0 : Int) (x1 : Int) (x2 : Int) (x3 : Int) : yao (yap E_zae (yab Tryz.f230 1) { (LV.mk 80 [(2, 80)] 12 0 false) with nx := live (.loop (yab Tryz.f230 1)) (LV.mk 80 [(2, 80)] 12 0 false) }) (live (.loop (yab Tryz.f230 1)) (LV.mk 80 [(2, 80)] 12 0 false)) (LV.mk 80 [(2, 80)] 12 0 false) 0 39 R [EV.int IntKind.u32 x0, EV.int IntKind.u32 x1, EV.int IntKind.u32 x2, EV.int IntKind.i64 x3] [] K = zae.l8.step (fun x0 x1 x2 x3 => R [EV.int IntKind.u32 x0, EV.int IntKind.u32 x1, EV.int IntKind.u32 x2, EV.int IntKind.i64 x3] []) (fun y0 y1 => K (.exit 2) [EV.int IntKind.u32 y0, EV.int IntKind.u32 y1] []) x0 x1 x2 x3 := (yaI _ _ _ _ _ _ _ _ _ _ _).symm.trans (by kernel_rfl)
theorem zae.l8X.eq (K : Ex → List EV → yaf → Prop) : ∀ (n : Nat) (x0 : Int) (x1 : Int) (x2 : Int) (x3 : Int), yaC E_zae (yab Tryz.f230 1) (LV.mk 80 [(2, 80)] 12 0 false) 0 39 K n [EV.int IntKind.u32 x0, EV.int IntKind.u32 x1, EV.int IntKind.u32 x2, EV.int IntKind.i64 x3] [] = zae.l8 (fun y0 y1 => K (.exit 2) [EV.int IntKind.u32 y0, EV.int IntKind.u32 y1] []) n x0 x1 x2 x3
 | 0, _, _, _, _ => rfl
 | n + 1, x0, x1, x2, x3 => by
  have ih : (fun (x0 : Int) (x1 : Int) (x2 : Int) (x3 : Int) => yaC E_zae (yab Tryz.f230 1) (LV.mk 80 [(2, 80)] 12 0 false) 0 39 K n [EV.int IntKind.u32 x0, EV.int IntKind.u32 x1, EV.int IntKind.u32 x2, EV.int IntKind.i64 x3] []) = zae.l8 (fun y0 y1 => K (.exit 2) [EV.int IntKind.u32 y0, EV.int IntKind.u32 y1] []) n := by funext x0 x1 x2 x3; exact zae.l8X.eq K n x0 x1 x2 x3
  show yao _ _ _ _ _ (yaC E_zae (yab Tryz.f230 1) (LV.mk 80 [(2, 80)] 12 0 false) 0 39 K n) [EV.int IntKind.u32 x0, EV.int IntKind.u32 x1, EV.int IntKind.u32 x2, EV.int IntKind.i64 x3] [] K = zae.l8.step (zae.l8 (fun y0 y1 => K (.exit 2) [EV.int IntKind.u32 y0, EV.int IntKind.u32 y1] []) n) (fun y0 y1 => K (.exit 2) [EV.int IntKind.u32 y0, EV.int IntKind.u32 y1] []) x0 x1 x2 x3
  rw [← ih]
  exact zae.l8X.stepEq _ K x0 x1 x2 x3
theorem zae.l8X.ok : LoopEq E_zae (yab Tryz.f230 1) := by
 intro L hL vs H
 have h1 : E_zae.lp (yal (yab Tryz.f230 1)) = some zae.l8.entry := by kernel_rfl
 have h2 : L = zae.l8.entry := Option.some.inj (hL.symm.trans h1)
 subst h2
 by_cases hx : ∃ (x0 : Int) (x1 : Int) (x2 : Int) (x3 : Int), vs = [EV.int IntKind.u32 x0, EV.int IntKind.u32 x1, EV.int IntKind.u32 x2, EV.int IntKind.i64 x3] ∧ H = []
 ·obtain ⟨x0, x1, x2, x3, rfl, rfl⟩ := hx
  right; intro K
  exact exists_congr fun n => iff_of_eq (zae.l8X.eq K n x0 x1 x2 x3).symm
 ·left; intro K h
  simp only [zae.l8.entry] at h
  split at h
  ·exact hx ⟨_, _, _, _, rfl, rfl⟩
  ·exact h
theorem X_zae.eq (a0 : List UInt8) (K : EV → yaf → Prop) : yaV E_zae Tryz.f230 false [.str a0] [] K = zae a0 (fun y0 y1 => K (EV.tuple [EV.int IntKind.u32 y0, EV.int IntKind.u32 y1]) []) := by
 rw [zae.is]; exact (yag _ _ _ _ _ _).symm.trans (by kernel_rfl)
theorem X_zae.ok : SoundE Tryz.prog gl 230 e_zae := by
 refine ya3 (E := E_zae) (fn := Tryz.f230) rfl tys_ok rfl (show yaZ _ [] from trivial) mixed (by kernel_rfl) (by kernel_rfl) (by kernel_rfl) 2 (by kernel_rfl) false ⟨zae.l3X.ok, zae.l8X.ok, trivial⟩ ?_
 intro args H
 by_cases hx : ∃ (a0 : List UInt8), args = [.str a0] ∧ H = []
 ·obtain ⟨a0, rfl, rfl⟩ := hx
  right; intro K
  exact iff_of_eq (X_zae.eq a0 K).symm
 ·left; intro K h
  simp only [e_zae] at h
  split at h
  ·exact hx ⟨_, rfl, rfl⟩
  ·exact h
noncomputable def e_zad : yan := ⟨[none, none], false, fun args H K => match args, H with
 | [.str a0, .str a1], [] => zad a0 a1 (fun y0 => K (EV.int IntKind.i64 y0) [])
 | _, _ => False⟩
noncomputable def l_zad : List (Nat × yan) := [(230, e_zae)]
noncomputable def E_zad : Env := ⟨look tys, look l_zad, look [(5, zad.l5.entry), (11, zad.l11.entry)], gl, yaq [], false⟩
theorem zad.l5X.stepEq (R : List EV → yaf → Prop) (K : Ex → List EV → yaf → Prop) (x0 : List UInt8) (x1 : List UInt8) (x2 : Int) (x3 : Int) (x4 : Int) (x5 : Int) (x6 : Int) : yao (yap E_zad (yab Tryz.f224 0) { (LV.mk 483 [(0, 483)] 16 0 false) with nx := live (.loop (yab Tryz.f224 0)) (LV.mk 483 [(0, 483)] 16 0 false) }) (live (.loop (yab Tryz.f224 0)) (LV.mk 483 [(0, 483)] 16 0 false)) (LV.mk 483 [(0, 483)] 16 0 false) 0 81 R [EV.str x0, EV.str x1, EV.int IntKind.u32 x2, EV.int IntKind.u32 x3, EV.int IntKind.i64 x4, EV.int IntKind.u32 x5, EV.int IntKind.i64 x6] [] K = zad.l5.step (fun x0 x1 x2 x3 x4 x5 x6 => R [EV.str x0, EV.str x1, EV.int IntKind.u32 x2, EV.int IntKind.u32 x3, EV.int IntKind.i64 x4, EV.int IntKind.u32 x5, EV.int IntKind.i64 x6] []) (fun y0 y1 y2 y3 y4 y5 => K (.exit 0) [EV.str y0, EV.str y1, EV.int IntKind.u32 y2, EV.int IntKind.u32 y3, EV.int IntKind.i64 y4, EV.int IntKind.u32 y5] []) x0 x1 x2 x3 x4 x5 x6 := (yaI _ _ _ _ _ _ _ _ _ _ _).symm.trans (by kernel_rfl)
theorem zad.l5X.eq (K : Ex → List EV → yaf → Prop) : ∀ (n : Nat) (x0 : List UInt8) (x1 : List UInt8) (x2 : Int) (x3 : Int) (x4 : Int) (x5 : Int) (x6 : Int), yaC E_zad (yab Tryz.f224 0) (LV.mk 483 [(0, 483)] 16 0 false) 0 81 K n [EV.str x0, EV.str x1, EV.int IntKind.u32 x2, EV.int IntKind.u32 x3, EV.int IntKind.i64 x4, EV.int IntKind.u32 x5, EV.int IntKind.i64 x6] [] = zad.l5 (fun y0 y1 y2 y3 y4 y5 => K (.exit 0) [EV.str y0, EV.str y1, EV.int IntKind.u32 y2, EV.int IntKind.u32 y3, EV.int IntKind.i64 y4, EV.int IntKind.u32 y5] []) n x0 x1 x2 x3 x4 x5 x6
 | 0, _, _, _, _, _, _, _ => rfl
 | n + 1, x0, x1, x2, x3, x4, x5, x6 => by
  have ih : (fun (x0 : List UInt8) (x1 : List UInt8) (x2 : Int) (x3 : Int) (x4 : Int) (x5 : Int) (x6 : Int) => yaC E_zad (yab Tryz.f224 0) (LV.mk 483 [(0, 483)] 16 0 false) 0 81 K n [EV.str x0, EV.str x1, EV.int IntKind.u32 x2, EV.int IntKind.u32 x3, EV.int IntKind.i64 x4, EV.int IntKind.u32 x5, EV.int IntKind.i64 x6] []) = zad.l5 (fun y0 y1 y2 y3 y4 y5 => K (.exit 0) [EV.str y0, EV.str y1, EV.int IntKind.u32 y2, EV.int IntKind.u32 y3, EV.int IntKind.i64 y4, EV.int IntKind.u32 y5] []) n := by funext x0 x1 x2 x3 x4 x5 x6; exact zad.l5X.eq K n x0 x1 x2 x3 x4 x5 x6
  show yao _ _ _ _ _ (yaC E_zad (yab Tryz.f224 0) (LV.mk 483 [(0, 483)] 16 0 false) 0 81 K n) [EV.str x0, EV.str x1, EV.int IntKind.u32 x2, EV.int IntKind.u32 x3, EV.int IntKind.i64 x4, EV.int IntKind.u32 x5, EV.int IntKind.i64 x6] [] K = zad.l5.step (zad.l5 (fun y0 y1 y2 y3 y4 y5 => K (.exit 0) [EV.str y0, EV.str y1, EV.int IntKind.u32 y2, EV.int IntKind.u32 y3, EV.int IntKind.i64 y4, EV.int IntKind.u32 y5] []) n) (fun y0 y1 y2 y3 y4 y5 => K (.exit 0) [EV.str y0, EV.str y1, EV.int IntKind.u32 y2, EV.int IntKind.u32 y3, EV.int IntKind.i64 y4, EV.int IntKind.u32 y5] []) x0 x1 x2 x3 x4 x5 x6
  rw [← ih]
  exact zad.l5X.stepEq _ K x0 x1 x2 x3 x4 x5 x6
theorem zad.l5X.ok : LoopEq E_zad (yab Tryz.f224 0) := by
 intro L hL vs H
 have h1 : E_zad.lp (yal (yab Tryz.f224 0)) = some zad.l5.entry := by kernel_rfl
 have h2 : L = zad.l5.entry := Option.some.inj (hL.symm.trans h1)
 subst h2
 by_cases hx : ∃ (x0 : List UInt8) (x1 : List UInt8) (x2 : Int) (x3 : Int) (x4 : Int) (x5 : Int) (x6 : Int), vs = [EV.str x0, EV.str x1, EV.int IntKind.u32 x2, EV.int IntKind.u32 x3, EV.int IntKind.i64 x4, EV.int IntKind.u32 x5, EV.int IntKind.i64 x6] ∧ H = []
 ·obtain ⟨x0, x1, x2, x3, x4, x5, x6, rfl, rfl⟩ := hx
  right; intro K
  exact exists_congr fun n => iff_of_eq (zad.l5X.eq K n x0 x1 x2 x3 x4 x5 x6).symm
 ·left; intro K h
  simp only [zad.l5.entry] at h
  split at h
  ·exact hx ⟨_, _, _, _, _, _, _, rfl, rfl⟩
  ·exact h
theorem zad.l11X.stepEq (R : List EV → yaf → Prop) (K : Ex → List EV → yaf → Prop) (x0 : List UInt8) (x1 : List UInt8) (x2 : Int) (x3 : Int) (x4 : Int) (x5 : Int) (x6 : Int) : yao (yap E_zad (yab Tryz.f224 1) { (LV.mk 0 [(2, 0)] 16 0 false) with nx := live (.loop (yab Tryz.f224 1)) (LV.mk 0 [(2, 0)] 16 0 false) }) (live (.loop (yab Tryz.f224 1)) (LV.mk 0 [(2, 0)] 16 0 false)) (LV.mk 0 [(2, 0)] 16 0 false) 0 81 R [EV.str x0, EV.str x1, EV.int IntKind.u32 x2, EV.int IntKind.u32 x3, EV.int IntKind.i64 x4, EV.int IntKind.u32 x5, EV.int IntKind.i64 x6] [] K = zad.l11.step (fun x0 x1 x2 x3 x4 x5 x6 => R [EV.str x0, EV.str x1, EV.int IntKind.u32 x2, EV.int IntKind.u32 x3, EV.int IntKind.i64 x4, EV.int IntKind.u32 x5, EV.int IntKind.i64 x6] []) (fun y0 => K .ret [EV.int IntKind.i64 y0] []) (K (.exit 2) [] []) x0 x1 x2 x3 x4 x5 x6 := (yaI _ _ _ _ _ _ _ _ _ _ _).symm.trans (by kernel_rfl)
theorem zad.l11X.eq (K : Ex → List EV → yaf → Prop) : ∀ (n : Nat) (x0 : List UInt8) (x1 : List UInt8) (x2 : Int) (x3 : Int) (x4 : Int) (x5 : Int) (x6 : Int), yaC E_zad (yab Tryz.f224 1) (LV.mk 0 [(2, 0)] 16 0 false) 0 81 K n [EV.str x0, EV.str x1, EV.int IntKind.u32 x2, EV.int IntKind.u32 x3, EV.int IntKind.i64 x4, EV.int IntKind.u32 x5, EV.int IntKind.i64 x6] [] = zad.l11 (fun y0 => K .ret [EV.int IntKind.i64 y0] []) (K (.exit 2) [] []) n x0 x1 x2 x3 x4 x5 x6
 | 0, _, _, _, _, _, _, _ => rfl
 | n + 1, x0, x1, x2, x3, x4, x5, x6 => by
  have ih : (fun (x0 : List UInt8) (x1 : List UInt8) (x2 : Int) (x3 : Int) (x4 : Int) (x5 : Int) (x6 : Int) => yaC E_zad (yab Tryz.f224 1) (LV.mk 0 [(2, 0)] 16 0 false) 0 81 K n [EV.str x0, EV.str x1, EV.int IntKind.u32 x2, EV.int IntKind.u32 x3, EV.int IntKind.i64 x4, EV.int IntKind.u32 x5, EV.int IntKind.i64 x6] []) = zad.l11 (fun y0 => K .ret [EV.int IntKind.i64 y0] []) (K (.exit 2) [] []) n := by funext x0 x1 x2 x3 x4 x5 x6; exact zad.l11X.eq K n x0 x1 x2 x3 x4 x5 x6
  show yao _ _ _ _ _ (yaC E_zad (yab Tryz.f224 1) (LV.mk 0 [(2, 0)] 16 0 false) 0 81 K n) [EV.str x0, EV.str x1, EV.int IntKind.u32 x2, EV.int IntKind.u32 x3, EV.int IntKind.i64 x4, EV.int IntKind.u32 x5, EV.int IntKind.i64 x6] [] K = zad.l11.step (zad.l11 (fun y0 => K .ret [EV.int IntKind.i64 y0] []) (K (.exit 2) [] []) n) (fun y0 => K .ret [EV.int IntKind.i64 y0] []) (K (.exit 2) [] []) x0 x1 x2 x3 x4 x5 x6
  rw [← ih]
  exact zad.l11X.stepEq _ K x0 x1 x2 x3 x4 x5 x6
theorem zad.l11X.ok : LoopEq E_zad (yab Tryz.f224 1) := by
 intro L hL vs H
 have h1 : E_zad.lp (yal (yab Tryz.f224 1)) = some zad.l11.entry := by kernel_rfl
 have h2 : L = zad.l11.entry := Option.some.inj (hL.symm.trans h1)
 subst h2
 by_cases hx : ∃ (x0 : List UInt8) (x1 : List UInt8) (x2 : Int) (x3 : Int) (x4 : Int) (x5 : Int) (x6 : Int), vs = [EV.str x0, EV.str x1, EV.int IntKind.u32 x2, EV.int IntKind.u32 x3, EV.int IntKind.i64 x4, EV.int IntKind.u32 x5, EV.int IntKind.i64 x6] ∧ H = []
 ·obtain ⟨x0, x1, x2, x3, x4, x5, x6, rfl, rfl⟩ := hx
  right; intro K
  exact exists_congr fun n => iff_of_eq (zad.l11X.eq K n x0 x1 x2 x3 x4 x5 x6).symm
 ·left; intro K h
  simp only [zad.l11.entry] at h
  split at h
  ·exact hx ⟨_, _, _, _, _, _, _, rfl, rfl⟩
  ·exact h
theorem X_zad.eq (a0 : List UInt8) (a1 : List UInt8) (K : EV → yaf → Prop) : yaV E_zad Tryz.f224 false [.str a0, .str a1] [] K = zad a0 a1 (fun y0 => K (EV.int IntKind.i64 y0) []) := by
 rw [zad.is]; exact (yag _ _ _ _ _ _).symm.trans (by kernel_rfl)
theorem X_zad.ok : SoundE Tryz.prog gl 224 e_zad := by
 refine ya3 (E := E_zad) (fn := Tryz.f224) rfl tys_ok rfl (show yaZ _ l_zad from ⟨X_zae.ok, trivial⟩) mixed (by kernel_rfl) (by kernel_rfl) (by kernel_rfl) 2 (by kernel_rfl) false ⟨zad.l5X.ok, zad.l11X.ok, trivial⟩ ?_
 intro args H
 by_cases hx : ∃ (a0 : List UInt8) (a1 : List UInt8), args = [.str a0, .str a1] ∧ H = []
 ·obtain ⟨a0, a1, rfl, rfl⟩ := hx
  right; intro K
  exact iff_of_eq (X_zad.eq a0 a1 K).symm
 ·left; intro K h
  simp only [e_zad] at h
  split at h
  ·exact hx ⟨_, _, rfl, rfl⟩
  ·exact h
noncomputable def e_zai : yan := ⟨[none, none], false, fun args H K => match args, H with
 | [.str a0, .str a1], [] => zai a0 a1 (fun y0 => K (EV.int IntKind.i64 y0) [])
 | _, _ => False⟩
noncomputable def l_zai : List (Nat × yan) := [(221, yon), (223, e_zac), (224, e_zad)]
noncomputable def E_zai : Env := ⟨look tys, look l_zai, look [], gl, yaq [(9001, 1)], false⟩
theorem internal_stringslite_Index_u9001.ok : LoopEq E_zai (yab Tryz.f208 0) := LoopEq.none (by kernel_rfl)
theorem X_zai.eq (a0 : List UInt8) (a1 : List UInt8) (K : EV → yaf → Prop) : yaV E_zai Tryz.f208 false [.str a0, .str a1] [] K = zai a0 a1 (fun y0 => K (EV.int IntKind.i64 y0) []) := by
 rw [zai.is]; exact (yag _ _ _ _ _ _).symm.trans (by kernel_rfl)
theorem X_zai.ok : SoundE Tryz.prog gl 208 e_zai := by
 refine ya3 (E := E_zai) (fn := Tryz.f208) rfl tys_ok rfl (show yaZ _ l_zai from ⟨X_zaj.ok, X_zac.ok, X_zad.ok, trivial⟩) mixed (by kernel_rfl) (by kernel_rfl) (by kernel_rfl) 1 (by kernel_rfl) false ⟨internal_stringslite_Index_u9001.ok, trivial⟩ ?_
 intro args H
 by_cases hx : ∃ (a0 : List UInt8) (a1 : List UInt8), args = [.str a0, .str a1] ∧ H = []
 ·obtain ⟨a0, a1, rfl, rfl⟩ := hx
  right; intro K
  exact iff_of_eq (X_zai.eq a0 a1 K).symm
 ·left; intro K h
  simp only [e_zai] at h
  split at h
  ·exact hx ⟨_, _, rfl, rfl⟩
  ·exact h
noncomputable def e_zaf : yan := ⟨[none, none], false, fun args H K => match args, H with
 | [.str a0, .str a1], [] => zaf a0 a1 (fun y0 y1 y2 => K (EV.tuple [EV.str y0, EV.str y1, EV.bool y2]) [])
 | _, _ => False⟩
noncomputable def l_zaf : List (Nat × yan) := [(208, e_zai)]
noncomputable def E_zaf : Env := ⟨look tys, look l_zaf, look [], gl, yaq [], false⟩
theorem X_zaf.eq (a0 : List UInt8) (a1 : List UInt8) (K : EV → yaf → Prop) : yaV E_zaf Tryz.f190 false [.str a0, .str a1] [] K = zaf a0 a1 (fun y0 y1 y2 => K (EV.tuple [EV.str y0, EV.str y1, EV.bool y2]) []) := by
 rw [zaf.is]; exact (yag _ _ _ _ _ _).symm.trans (by kernel_rfl)
theorem X_zaf.ok : SoundE Tryz.prog gl 190 e_zaf := by
 refine ya3 (E := E_zaf) (fn := Tryz.f190) rfl tys_ok rfl (show yaZ _ l_zaf from ⟨X_zai.ok, trivial⟩) mixed (by kernel_rfl) (by kernel_rfl) (by kernel_rfl) 0 (by kernel_rfl) false trivial ?_
 intro args H
 by_cases hx : ∃ (a0 : List UInt8) (a1 : List UInt8), args = [.str a0, .str a1] ∧ H = []
 ·obtain ⟨a0, a1, rfl, rfl⟩ := hx
  right; intro K
  exact iff_of_eq (X_zaf.eq a0 a1 K).symm
 ·left; intro K h
  simp only [e_zaf] at h
  split at h
  ·exact hx ⟨_, _, rfl, rfl⟩
  ·exact h
noncomputable def e_zdc : yan := ⟨[none, none], false, fun args H K => match args, H with
 | [.str a0, .str a1], [] => zdc a0 a1 (fun y0 y1 y2 => K (EV.tuple [EV.str y0, EV.str y1, EV.bool y2]) [])
 | _, _ => False⟩
noncomputable def l_zdc : List (Nat × yan) := [(190, e_zaf)]
noncomputable def E_zdc : Env := ⟨look tys, look l_zdc, look [], gl, yaq [], false⟩
theorem X_zdc.eq (a0 : List UInt8) (a1 : List UInt8) (K : EV → yaf → Prop) : yaV E_zdc Tryz.f153 false [.str a0, .str a1] [] K = zdc a0 a1 (fun y0 y1 y2 => K (EV.tuple [EV.str y0, EV.str y1, EV.bool y2]) []) := by
 rw [zdc.is]; exact (yag _ _ _ _ _ _).symm.trans (by kernel_rfl)
theorem X_zdc.ok : SoundE Tryz.prog gl 153 e_zdc := by
 refine ya3 (E := E_zdc) (fn := Tryz.f153) rfl tys_ok rfl (show yaZ _ l_zdc from ⟨X_zaf.ok, trivial⟩) mixed (by kernel_rfl) (by kernel_rfl) (by kernel_rfl) 0 (by kernel_rfl) false trivial ?_
 intro args H
 by_cases hx : ∃ (a0 : List UInt8) (a1 : List UInt8), args = [.str a0, .str a1] ∧ H = []
 ·obtain ⟨a0, a1, rfl, rfl⟩ := hx
  right; intro K
  exact iff_of_eq (X_zdc.eq a0 a1 K).symm
 ·left; intro K h
  simp only [e_zdc] at h
  split at h
  ·exact hx ⟨_, _, rfl, rfl⟩
  ·exact h
noncomputable def e_zdn : yan := ⟨[none], false, fun args H K => match args, H with
 | [.str a0], [] => zdn a0 (fun y0 y1 => K (EV.tuple [EV.arr IntKind.u64 6 y0, EV.int IntKind.i64 y1]) [])
 | _, _ => False⟩
noncomputable def E_zdn : Env := ⟨look tys, look [], look [(5, zdn.l5.entry)], gl, yaq [], false⟩
theorem zdn.l5X.stepEq (R : List EV → yaf → Prop) (K : Ex → List EV → yaf → Prop) (x0 : List UInt8) (x1 : Int) (x2 : Nat → Int) (x3 : Nat → Int) : yao (yap E_zdn (yab Tryz.f154 0) { (LV.mk 20 [(0, 20)] 12 0 false) with nx := live (.loop (yab Tryz.f154 0)) (LV.mk 20 [(0, 20)] 12 0 false) }) (live (.loop (yab Tryz.f154 0)) (LV.mk 20 [(0, 20)] 12 0 false)) (LV.mk 20 [(0, 20)] 12 0 false) 0 77 R [EV.str x0, EV.ptr 0 [], EV.ptr 1 [], EV.int IntKind.i64 x1] [some (EV.arr IntKind.u64 6 x2), some (EV.arr IntKind.u64 6 x3)] K = zdn.l5.step (fun x0 x1 x2 x3 => R [EV.str x0, EV.ptr 0 [], EV.ptr 1 [], EV.int IntKind.i64 x1] [some (EV.arr IntKind.u64 6 x2), some (EV.arr IntKind.u64 6 x3)]) (fun y0 y1 => K .ret [EV.ptr 0 [], EV.int IntKind.i64 y0] [some (EV.arr IntKind.u64 6 y1)]) (fun y0 y1 => K (.exit 0) [EV.ptr 0 [], EV.ptr 1 []] [some (EV.arr IntKind.u64 6 y0), some (EV.arr IntKind.u64 6 y1)]) x0 x1 x2 x3 := (yaI _ _ _ _ _ _ _ _ _ _ _).symm.trans (by kernel_rfl)
theorem zdn.l5X.eq (K : Ex → List EV → yaf → Prop) : ∀ (n : Nat) (x0 : List UInt8) (x1 : Int) (x2 : Nat → Int) (x3 : Nat → Int), yaC E_zdn (yab Tryz.f154 0) (LV.mk 20 [(0, 20)] 12 0 false) 0 77 K n [EV.str x0, EV.ptr 0 [], EV.ptr 1 [], EV.int IntKind.i64 x1] [some (EV.arr IntKind.u64 6 x2), some (EV.arr IntKind.u64 6 x3)] = zdn.l5 (fun y0 y1 => K .ret [EV.ptr 0 [], EV.int IntKind.i64 y0] [some (EV.arr IntKind.u64 6 y1)]) (fun y0 y1 => K (.exit 0) [EV.ptr 0 [], EV.ptr 1 []] [some (EV.arr IntKind.u64 6 y0), some (EV.arr IntKind.u64 6 y1)]) n x0 x1 x2 x3
 | 0, _, _, _, _ => rfl
 | n + 1, x0, x1, x2, x3 => by
  have ih : (fun (x0 : List UInt8) (x1 : Int) (x2 : Nat → Int) (x3 : Nat → Int) => yaC E_zdn (yab Tryz.f154 0) (LV.mk 20 [(0, 20)] 12 0 false) 0 77 K n [EV.str x0, EV.ptr 0 [], EV.ptr 1 [], EV.int IntKind.i64 x1] [some (EV.arr IntKind.u64 6 x2), some (EV.arr IntKind.u64 6 x3)]) = zdn.l5 (fun y0 y1 => K .ret [EV.ptr 0 [], EV.int IntKind.i64 y0] [some (EV.arr IntKind.u64 6 y1)]) (fun y0 y1 => K (.exit 0) [EV.ptr 0 [], EV.ptr 1 []] [some (EV.arr IntKind.u64 6 y0), some (EV.arr IntKind.u64 6 y1)]) n := by funext x0 x1 x2 x3; exact zdn.l5X.eq K n x0 x1 x2 x3
  show yao _ _ _ _ _ (yaC E_zdn (yab Tryz.f154 0) (LV.mk 20 [(0, 20)] 12 0 false) 0 77 K n) [EV.str x0, EV.ptr 0 [], EV.ptr 1 [], EV.int IntKind.i64 x1] [some (EV.arr IntKind.u64 6 x2), some (EV.arr IntKind.u64 6 x3)] K = zdn.l5.step (zdn.l5 (fun y0 y1 => K .ret [EV.ptr 0 [], EV.int IntKind.i64 y0] [some (EV.arr IntKind.u64 6 y1)]) (fun y0 y1 => K (.exit 0) [EV.ptr 0 [], EV.ptr 1 []] [some (EV.arr IntKind.u64 6 y0), some (EV.arr IntKind.u64 6 y1)]) n) (fun y0 y1 => K .ret [EV.ptr 0 [], EV.int IntKind.i64 y0] [some (EV.arr IntKind.u64 6 y1)]) (fun y0 y1 => K (.exit 0) [EV.ptr 0 [], EV.ptr 1 []] [some (EV.arr IntKind.u64 6 y0), some (EV.arr IntKind.u64 6 y1)]) x0 x1 x2 x3
  rw [← ih]
  exact zdn.l5X.stepEq _ K x0 x1 x2 x3
theorem zdn.l5X.ok : LoopEq E_zdn (yab Tryz.f154 0) := by
 intro L hL vs H
 have h1 : E_zdn.lp (yal (yab Tryz.f154 0)) = some zdn.l5.entry := by kernel_rfl
 have h2 : L = zdn.l5.entry := Option.some.inj (hL.symm.trans h1)
 subst h2
 by_cases hx : ∃ (x0 : List UInt8) (x1 : Int) (x2 : Nat → Int) (x3 : Nat → Int), vs = [EV.str x0, EV.ptr 0 [], EV.ptr 1 [], EV.int IntKind.i64 x1] ∧ H = [some (EV.arr IntKind.u64 6 x2), some (EV.arr IntKind.u64 6 x3)]
 ·obtain ⟨x0, x1, x2, x3, rfl, rfl⟩ := hx
  right; intro K
  exact exists_congr fun n => iff_of_eq (zdn.l5X.eq K n x0 x1 x2 x3).symm
 ·left; intro K h
  simp only [zdn.l5.entry] at h
  split at h
  ·exact hx ⟨_, _, _, _, rfl, rfl⟩
  ·exact h
theorem X_zdn.eq (a0 : List UInt8) (K : EV → yaf → Prop) : yaV E_zdn Tryz.f154 false [.str a0] [] K = zdn a0 (fun y0 y1 => K (EV.tuple [EV.arr IntKind.u64 6 y0, EV.int IntKind.i64 y1]) []) := by
 rw [zdn.is]; exact (yag _ _ _ _ _ _).symm.trans (by kernel_rfl)
theorem X_zdn.ok : SoundE Tryz.prog gl 154 e_zdn := by
 refine ya3 (E := E_zdn) (fn := Tryz.f154) rfl tys_ok rfl (show yaZ _ [] from trivial) mixed (by kernel_rfl) (by kernel_rfl) (by kernel_rfl) 1 (by kernel_rfl) false ⟨zdn.l5X.ok, trivial⟩ ?_
 intro args H
 by_cases hx : ∃ (a0 : List UInt8), args = [.str a0] ∧ H = []
 ·obtain ⟨a0, rfl, rfl⟩ := hx
  right; intro K
  exact iff_of_eq (X_zdn.eq a0 K).symm
 ·left; intro K h
  simp only [e_zdn] at h
  split at h
  ·exact hx ⟨_, rfl, rfl⟩
  ·exact h
open Go.Shelf in
def lays_strconv_Atoi_ren : Go.Shelf.Ren := ⟨fun | 172 => 155 | 244 => 191 | 245 => 192 | 247 => 209 | 279 => 210 | 280 => 211 | 281 => 212 | 282 => 213 | 287 => 225 | 316 => 226 | 171 => 92 | 205 => 227 | 321 => 231 | 322 => 232 | 243 => 149 | 246 => 188 | 283 => 203 | 284 => 204 | 285 => 205 | 286 => 206 | 129 => 165 | 317 => 217 | 318 => 218 | 319 => 219 | 320 => 220 | 337 => 228 | 338 => 199 | n => n, fun | 9 => 9 | 3 => 3 | 75 => 181 | 76 => 182 | 4 => 4 | 5 => 5 | 167 => 226 | 37 => 119 | 0 => 0 | 85 => 227 | 2 => 2 | 168 => 229 | 53 => 24 | 175 => 238 | 46 => 121 | 210 => 242 | 127 => 248 | 145 => 251 | 143 => 249 | 21 => 21 | 171 => 221 | 173 => 223 | 212 => 235 | 51 => 161 | 20 => 20 | 213 => 236 | 232 => 252 | 233 => 232 | 80 => 253 | n => n, fun | 15 => 3 | 16 => 4 | 17 => 1 | 18 => 5 | 19 => 0 | n => n⟩
open Go.Shelf in
theorem lays_strconv_Atoi : Go.Proofs.LaysC.n172 Tryz.prog lays_strconv_Atoi_ren where
 mixed := by kernel_rfl
 f129 := Tryz.func165.trans (congrArg some (by kernel_rfl))
 f171 := Tryz.func92.trans (congrArg some (by kernel_rfl))
 f172 := Tryz.func155.trans (congrArg some (by kernel_rfl))
 f205 := Tryz.func227.trans (congrArg some (by kernel_rfl))
 f243 := Tryz.func149.trans (congrArg some (by kernel_rfl))
 f244 := Tryz.func191.trans (congrArg some (by kernel_rfl))
 f245 := Tryz.func192.trans (congrArg some (by kernel_rfl))
 f246 := Tryz.func188.trans (congrArg some (by kernel_rfl))
 f247 := Tryz.func209.trans (congrArg some (by kernel_rfl))
 f279 := Tryz.func210.trans (congrArg some (by kernel_rfl))
 f280 := Tryz.func211.trans (congrArg some (by kernel_rfl))
 f281 := Tryz.func212.trans (congrArg some (by kernel_rfl))
 f282 := Tryz.func213.trans (congrArg some (by kernel_rfl))
 f283 := Tryz.func203.trans (congrArg some (by kernel_rfl))
 f284 := Tryz.func204.trans (congrArg some (by kernel_rfl))
 f285 := Tryz.func205.trans (congrArg some (by kernel_rfl))
 f286 := Tryz.func206.trans (congrArg some (by kernel_rfl))
 f287 := Tryz.func225.trans (congrArg some (by kernel_rfl))
 f316 := Tryz.func226.trans (congrArg some (by kernel_rfl))
 f317 := Tryz.func217.trans (congrArg some (by kernel_rfl))
 f318 := Tryz.func218.trans (congrArg some (by kernel_rfl))
 f319 := Tryz.func219.trans (congrArg some (by kernel_rfl))
 f320 := Tryz.func220.trans (congrArg some (by kernel_rfl))
 f321 := Tryz.func231.trans (congrArg some (by kernel_rfl))
 f322 := Tryz.func232.trans (congrArg some (by kernel_rfl))
 f337 := Tryz.func228.trans (congrArg some (by kernel_rfl))
 f338 := Tryz.func199.trans (congrArg some (by kernel_rfl))
 t0 := Tryz.underlying0
 a0 := Tryz.isAgg0
 z0 := Tryz.sizeOf0
 v0 := Tryz.zeroValue0
 t2 := Tryz.underlying2
 a2 := Tryz.isAgg2
 z2 := Tryz.sizeOf2
 v2 := Tryz.zeroValue2
 t3 := Tryz.underlying3
 a3 := Tryz.isAgg3
 z3 := Tryz.sizeOf3
 v3 := Tryz.zeroValue3
 t4 := Tryz.underlying4
 a4 := Tryz.isAgg4
 z4 := Tryz.sizeOf4
 v4 := Tryz.zeroValue4
 t5 := Tryz.underlying5
 a5 := Tryz.isAgg5
 z5 := Tryz.sizeOf5
 v5 := Tryz.zeroValue5
 t9 := Tryz.underlying9
 a9 := Tryz.isAgg9
 z9 := Tryz.sizeOf9
 v9 := Tryz.zeroValue9
 t20 := Tryz.underlying20
 a20 := Tryz.isAgg20
 z20 := Tryz.sizeOf20
 v20 := Tryz.zeroValue20
 t21 := Tryz.underlying21
 a21 := Tryz.isAgg21
 z21 := Tryz.sizeOf21
 v21 := Tryz.zeroValue21
 t37 := Tryz.underlying119
 a37 := Tryz.isAgg119
 z37 := Tryz.sizeOf119
 v37 := Tryz.zeroValue119
 t46 := Tryz.underlying121
 a46 := Tryz.isAgg121
 z46 := Tryz.sizeOf121
 v46 := Tryz.zeroValue121
 t51 := Tryz.underlying161
 a51 := Tryz.isAgg161
 z51 := Tryz.sizeOf161
 v51 := Tryz.zeroValue161
 t53 := Tryz.underlying24
 a53 := Tryz.isAgg24
 z53 := Tryz.sizeOf24
 v53 := Tryz.zeroValue24
 t75 := Tryz.underlying181
 a75 := Tryz.isAgg181
 z75 := Tryz.sizeOf181
 v75 := Tryz.zeroValue181
 t76 := Tryz.underlying182
 a76 := Tryz.isAgg182
 z76 := Tryz.sizeOf182
 v76 := Tryz.zeroValue182
 t85 := Tryz.underlying227
 a85 := Tryz.isAgg227
 z85 := Tryz.sizeOf227
 v85 := Tryz.zeroValue227
 t127 := Tryz.underlying248
 a127 := Tryz.isAgg248
 z127 := Tryz.sizeOf248
 v127 := Tryz.zeroValue248
 t143 := Tryz.underlying249
 a143 := Tryz.isAgg249
 z143 := Tryz.sizeOf249
 v143 := Tryz.zeroValue249
 t145 := Tryz.underlying251
 a145 := Tryz.isAgg251
 z145 := Tryz.sizeOf251
 v145 := Tryz.zeroValue251
 t167 := Tryz.underlying226
 a167 := Tryz.isAgg226
 z167 := Tryz.sizeOf226
 v167 := Tryz.zeroValue226
 t168 := Tryz.underlying229
 a168 := Tryz.isAgg229
 z168 := Tryz.sizeOf229
 v168 := Tryz.zeroValue229
 t171 := Tryz.underlying221
 a171 := Tryz.isAgg221
 z171 := Tryz.sizeOf221
 v171 := Tryz.zeroValue221
 t173 := Tryz.underlying223
 a173 := Tryz.isAgg223
 z173 := Tryz.sizeOf223
 v173 := Tryz.zeroValue223
 t175 := Tryz.underlying238
 a175 := Tryz.isAgg238
 z175 := Tryz.sizeOf238
 v175 := Tryz.zeroValue238
 t210 := Tryz.underlying242
 a210 := Tryz.isAgg242
 z210 := Tryz.sizeOf242
 v210 := Tryz.zeroValue242
 t212 := Tryz.underlying235
 a212 := Tryz.isAgg235
 z212 := Tryz.sizeOf235
 v212 := Tryz.zeroValue235
 t213 := Tryz.underlying236
 a213 := Tryz.isAgg236
 z213 := Tryz.sizeOf236
 t232 := Tryz.underlying252
 a232 := Tryz.isAgg252
 z232 := Tryz.sizeOf252
 v232 := Tryz.zeroValue252
 t233 := Tryz.underlying232
 a233 := Tryz.isAgg232
 z233 := Tryz.sizeOf232
 v233 := Tryz.zeroValue232
 g15 := by kernel_rfl
 g16 := by kernel_rfl
 g17 := by kernel_rfl
 g18 := by kernel_rfl
 g19 := by kernel_rfl
 t80 := Tryz.underlying253
 a80 := Tryz.isAgg253
 z80 := Tryz.sizeOf253
 v80 := Tryz.zeroValue253
 i0 := by kernel_rfl
 i2 := by kernel_rfl
 i3 := by kernel_rfl
 i4 := by kernel_rfl
 i5 := by kernel_rfl
 i9 := by kernel_rfl
 i20 := by kernel_rfl
 i21 := by kernel_rfl
 i37 := by kernel_rfl
 i46 := by kernel_rfl
 i51 := by kernel_rfl
 i53 := by kernel_rfl
 i75 := by kernel_rfl
 i76 := by kernel_rfl
 i80 := by kernel_rfl
 i85 := by kernel_rfl
 i127 := by kernel_rfl
 i143 := by kernel_rfl
 i145 := by kernel_rfl
 i167 := by kernel_rfl
 i168 := by kernel_rfl
 i171 := by kernel_rfl
 i173 := by kernel_rfl
 i175 := by kernel_rfl
 i210 := by kernel_rfl
 i212 := by kernel_rfl
 i232 := by kernel_rfl
 i233 := by kernel_rfl
 m15 := by kernel_rfl
 m16 := by kernel_rfl
 m17 := by kernel_rfl
 m18 := by kernel_rfl
 m19 := by kernel_rfl
 c0 := by kernel_rfl
 c2 := by kernel_rfl
 c3 := by kernel_rfl
 c4 := by kernel_rfl
 c5 := by kernel_rfl
 c9 := by kernel_rfl
 c20 := by kernel_rfl
 c21 := by kernel_rfl
 c37 := by kernel_rfl
 c46 := by kernel_rfl
 c51 := by kernel_rfl
 c53 := by kernel_rfl
 c75 := by kernel_rfl
 c76 := by kernel_rfl
 c80 := by kernel_rfl
 c85 := by kernel_rfl
 c127 := by kernel_rfl
 c143 := by kernel_rfl
 c145 := by kernel_rfl
 c167 := by kernel_rfl
 c168 := by kernel_rfl
 c171 := by kernel_rfl
 c173 := by kernel_rfl
 c175 := by kernel_rfl
 c210 := by kernel_rfl
 c212 := by kernel_rfl
 c213 := by kernel_rfl
 c232 := by kernel_rfl
 c233 := by kernel_rfl
noncomputable def e_zda : yan := ylj 229
theorem X_zda.ok : SoundE Tryz.prog gl 155 e_zda := yqC (t1 := 249) (v1 := .rref (.str [105, 110, 118, 97, 108, 105, 100, 32, 115, 121, 110, 116, 97, 120])) (t2 := 249) (v2 := .rref (.str [118, 97, 108, 117, 101, 32, 111, 117, 116, 32, 111, 102, 32, 114, 97, 110, 103, 101])) lays_strconv_Atoi (by kernel_rfl) (by kernel_rfl) (by kernel_rfl) (by kernel_rfl) ⟨_, Tryz.func155, by kernel_rfl, by kernel_rfl⟩
noncomputable def e_zau : yan := ⟨[none, none], false, fun args H K => match args, H with
 | [.int .u8 a0, .str a1], [] => zau a0 a1 (fun y0 y1 y2 => K (EV.tuple [EV.agg [EV.int IntKind.u64 y0, EV.int IntKind.u64 y1], EV.bool y2]) [])
 | _, _ => False⟩
noncomputable def l_zau : List (Nat × yan) := [(32, e_zam), (33, e_zal), (35, e_zct), (37, e_zdh), (38, e_zcv), (40, e_zcp), (63, e_zar), (100, e_zcs), (152, e_zdd), (153, e_zdc), (154, e_zdn), (155, e_zda)]
noncomputable def E_zau : Env := ⟨look tys, look l_zau, look [], gl, yaq [], false⟩
theorem X_zau.eq (a0 : Int) (a1 : List UInt8) (K : EV → yaf → Prop) : yaV E_zau Tryz.f95 false [.int .u8 a0, .str a1] [] K = zau a0 a1 (fun y0 y1 y2 => K (EV.tuple [EV.agg [EV.int IntKind.u64 y0, EV.int IntKind.u64 y1], EV.bool y2]) []) := by
 rw [zau.is]; exact (yag _ _ _ _ _ _).symm.trans (by kernel_rfl)
theorem X_zau.ok : SoundE Tryz.prog gl 95 e_zau := by
 refine ya3 (E := E_zau) (fn := Tryz.f95) rfl tys_ok rfl (show yaZ _ l_zau from ⟨X_zam.ok, X_zal.ok, X_zct.ok, X_zdh.ok, X_zcv.ok, X_zcp.ok, X_zar.ok, X_zcs.ok, X_zdd.ok, X_zdc.ok, X_zdn.ok, X_zda.ok, trivial⟩) mixed (by kernel_rfl) (by kernel_rfl) (by kernel_rfl) 0 (by kernel_rfl) false trivial ?_
 intro args H
 by_cases hx : ∃ (a0 : Int) (a1 : List UInt8), args = [.int .u8 a0, .str a1] ∧ H = []
 ·obtain ⟨a0, a1, rfl, rfl⟩ := hx
  right; intro K
  exact iff_of_eq (X_zau.eq a0 a1 K).symm
 ·left; intro K h
  simp only [e_zau] at h
  split at h
  ·exact hx ⟨_, _, rfl, rfl⟩
  ·exact h
noncomputable def e_zan : yan := ⟨[none, none], false, fun args H K => match args, H with
 | [.int .u8 a0, .str a1], [] => zan a0 a1 (fun y0 y1 y2 => K (EV.tuple [EV.agg [EV.int IntKind.u64 y0, EV.int IntKind.u64 y1], EV.int IntKind.i64 y2]) [])
 | _, _ => False⟩
noncomputable def l_zan : List (Nat × yan) := [(27, e_zap), (57, e_zco), (95, e_zau)]
noncomputable def E_zan : Env := ⟨look tys, look l_zan, look [], gl, yaq [], false⟩
theorem X_zan.eq (a0 : Int) (a1 : List UInt8) (K : EV → yaf → Prop) : yaV E_zan Tryz.f29 false [.int .u8 a0, .str a1] [] K = zan a0 a1 (fun y0 y1 y2 => K (EV.tuple [EV.agg [EV.int IntKind.u64 y0, EV.int IntKind.u64 y1], EV.int IntKind.i64 y2]) []) := by
 rw [zan.is]; exact (yag _ _ _ _ _ _).symm.trans (by kernel_rfl)
theorem X_zan.ok : SoundE Tryz.prog gl 29 e_zan := by
 refine ya3 (E := E_zan) (fn := Tryz.f29) rfl tys_ok rfl (show yaZ _ l_zan from ⟨X_zap.ok, X_zco.ok, X_zau.ok, trivial⟩) mixed (by kernel_rfl) (by kernel_rfl) (by kernel_rfl) 0 (by kernel_rfl) false trivial ?_
 intro args H
 by_cases hx : ∃ (a0 : Int) (a1 : List UInt8), args = [.int .u8 a0, .str a1] ∧ H = []
 ·obtain ⟨a0, a1, rfl, rfl⟩ := hx
  right; intro K
  exact iff_of_eq (X_zan.eq a0 a1 K).symm
 ·left; intro K h
  simp only [e_zan] at h
  split at h
  ·exact hx ⟨_, _, rfl, rfl⟩
  ·exact h
noncomputable def e_zbo : yan := ⟨[none], false, fun args H K => match args, H with
 | [.arr .u64 6 a0], [] => zbo a0 (fun y0 y1 y2 => K (EV.tuple [EV.agg [EV.int IntKind.u64 y0, EV.int IntKind.u64 y1], EV.bool y2]) [])
 | _, _ => False⟩
noncomputable def E_zbo : Env := ⟨look tys, look [], look [], gl, yaq [], false⟩
theorem X_zbo.eq (a0 : Nat → Int) (K : EV → yaf → Prop) : yaV E_zbo Tryz.f139 false [.arr .u64 6 a0] [] K = zbo a0 (fun y0 y1 y2 => K (EV.tuple [EV.agg [EV.int IntKind.u64 y0, EV.int IntKind.u64 y1], EV.bool y2]) []) := by
 rw [zbo.is]; exact (yag _ _ _ _ _ _).symm.trans (by kernel_rfl)
theorem X_zbo.ok : SoundE Tryz.prog gl 139 e_zbo := by
 refine ya3 (E := E_zbo) (fn := Tryz.f139) rfl tys_ok rfl (show yaZ _ [] from trivial) mixed (by kernel_rfl) (by kernel_rfl) (by kernel_rfl) 0 (by kernel_rfl) false trivial ?_
 intro args H
 by_cases hx : ∃ (a0 : Nat → Int), args = [.arr .u64 6 a0] ∧ H = []
 ·obtain ⟨a0, rfl, rfl⟩ := hx
  right; intro K
  exact iff_of_eq (X_zbo.eq a0 K).symm
 ·left; intro K h
  simp only [e_zbo] at h
  split at h
  ·exact hx ⟨_, rfl, rfl⟩
  ·exact h
noncomputable def e_zbt : yan := ⟨[none, none, none, none], false, fun args H K => match args, H with
 | [.int .u8 a0, .bool a1, .int .i64 a2, .arr .u64 6 a3], [] => zbt a0 a1 a2 a3 (fun y0 y1 => K (EV.agg [EV.int IntKind.u64 y0, EV.int IntKind.u64 y1]) [])
 | _, _ => False⟩
noncomputable def l_zbt : List (Nat × yan) := [(16, e_zcb), (70, e_zca), (123, e_zcc), (126, e_zbg), (127, e_zbj), (128, e_zbb), (139, e_zbo)]
noncomputable def E_zbt : Env := ⟨look tys, look l_zbt, look [], gl, yaq [], false⟩
theorem X_zbt.eq (a0 : Int) (a1 : Bool) (a2 : Int) (a3 : Nat → Int) (K : EV → yaf → Prop) : yaV E_zbt Tryz.f77 false [.int .u8 a0, .bool a1, .int .i64 a2, .arr .u64 6 a3] [] K = zbt a0 a1 a2 a3 (fun y0 y1 => K (EV.agg [EV.int IntKind.u64 y0, EV.int IntKind.u64 y1]) []) := by
 rw [zbt.is]; exact (yag _ _ _ _ _ _).symm.trans (by kernel_rfl)
theorem X_zbt.ok : SoundE Tryz.prog gl 77 e_zbt := by
 refine ya3 (E := E_zbt) (fn := Tryz.f77) rfl tys_ok rfl (show yaZ _ l_zbt from ⟨X_zcb.ok, X_zca.ok, X_zcc.ok, X_zbg.ok, X_zbj.ok, X_zbb.ok, X_zbo.ok, trivial⟩) mixed (by kernel_rfl) (by kernel_rfl) (by kernel_rfl) 0 (by kernel_rfl) false trivial ?_
 intro args H
 by_cases hx : ∃ (a0 : Int) (a1 : Bool) (a2 : Int) (a3 : Nat → Int), args = [.int .u8 a0, .bool a1, .int .i64 a2, .arr .u64 6 a3] ∧ H = []
 ·obtain ⟨a0, a1, a2, a3, rfl, rfl⟩ := hx
  right; intro K
  exact iff_of_eq (X_zbt.eq a0 a1 a2 a3 K).symm
 ·left; intro K h
  simp only [e_zbt] at h
  split at h
  ·exact hx ⟨_, _, _, _, rfl, rfl⟩
  ·exact h
noncomputable def e_zcd : yan := ⟨[none, none], false, fun args H K => match args, H with
 | [.int .u8 a0, .bool a1], [] => zcd a0 a1 (fun y0 y1 => K (EV.agg [EV.int IntKind.u64 y0, EV.int IntKind.u64 y1]) [])
 | _, _ => False⟩
noncomputable def l_zcd : List (Nat × yan) := [(77, e_zbt)]
noncomputable def E_zcd : Env := ⟨look tys, look l_zcd, look [], gl, yaq [], false⟩
theorem X_zcd.eq (a0 : Int) (a1 : Bool) (K : EV → yaf → Prop) : yaV E_zcd Tryz.f48 false [.int .u8 a0, .bool a1] [] K = zcd a0 a1 (fun y0 y1 => K (EV.agg [EV.int IntKind.u64 y0, EV.int IntKind.u64 y1]) []) := by
 rw [zcd.is]; exact (yag _ _ _ _ _ _).symm.trans (by kernel_rfl)
theorem X_zcd.ok : SoundE Tryz.prog gl 48 e_zcd := by
 refine ya3 (E := E_zcd) (fn := Tryz.f48) rfl tys_ok rfl (show yaZ _ l_zcd from ⟨X_zbt.ok, trivial⟩) mixed (by kernel_rfl) (by kernel_rfl) (by kernel_rfl) 0 (by kernel_rfl) false trivial ?_
 intro args H
 by_cases hx : ∃ (a0 : Int) (a1 : Bool), args = [.int .u8 a0, .bool a1] ∧ H = []
 ·obtain ⟨a0, a1, rfl, rfl⟩ := hx
  right; intro K
  exact iff_of_eq (X_zcd.eq a0 a1 K).symm
 ·left; intro K h
  simp only [e_zcd] at h
  split at h
  ·exact hx ⟨_, _, rfl, rfl⟩
  ·exact h
noncomputable def e_zby : yan := ⟨[none, none], false, fun args H K => match args, H with
 | [.int .u8 a0, .bool a1], [] => zby a0 a1 (fun y0 y1 => K (EV.agg [EV.int IntKind.u64 y0, EV.int IntKind.u64 y1]) [])
 | _, _ => False⟩
noncomputable def l_zby : List (Nat × yan) := [(77, e_zbt), (159, e_zbz)]
noncomputable def E_zby : Env := ⟨look tys, look l_zby, look [], gl, yaq [], false⟩
theorem X_zby.eq (a0 : Int) (a1 : Bool) (K : EV → yaf → Prop) : yaV E_zby Tryz.f156 false [.int .u8 a0, .bool a1] [] K = zby a0 a1 (fun y0 y1 => K (EV.agg [EV.int IntKind.u64 y0, EV.int IntKind.u64 y1]) []) := by
 rw [zby.is]; exact (yag _ _ _ _ _ _).symm.trans (by kernel_rfl)
theorem X_zby.ok : SoundE Tryz.prog gl 156 e_zby := by
 refine ya3 (E := E_zby) (fn := Tryz.f156) rfl tys_ok rfl (show yaZ _ l_zby from ⟨X_zbt.ok, X_zbz.ok, trivial⟩) mixed (by kernel_rfl) (by kernel_rfl) (by kernel_rfl) 0 (by kernel_rfl) false trivial ?_
 intro args H
 by_cases hx : ∃ (a0 : Int) (a1 : Bool), args = [.int .u8 a0, .bool a1] ∧ H = []
 ·obtain ⟨a0, a1, rfl, rfl⟩ := hx
  right; intro K
  exact iff_of_eq (X_zby.eq a0 a1 K).symm
 ·left; intro K h
  simp only [e_zby] at h
  split at h
  ·exact hx ⟨_, _, rfl, rfl⟩
  ·exact h
noncomputable def e_zcl : yan := ⟨[none, none], false, fun args H K => match args, H with
 | [.str a0, .int .u8 a1], [] => zcl a0 a1 (fun y0 => K (EV.int IntKind.i64 y0) [])
 | _, _ => False⟩
noncomputable def E_zcl : Env := ⟨look tys, look [], look [(2, zcl.l2.entry)], gl, yaq [], false⟩
theorem zcl.l2X.stepEq (R : List EV → yaf → Prop) (K : Ex → List EV → yaf → Prop) (x0 : List UInt8) (x1 : Int) (x2 : Int) : yao (yap E_zcl (yab Tryz.f157 0) { (LV.mk 0 [(0, 0)] 16 0 false) with nx := live (.loop (yab Tryz.f157 0)) (LV.mk 0 [(0, 0)] 16 0 false) }) (live (.loop (yab Tryz.f157 0)) (LV.mk 0 [(0, 0)] 16 0 false)) (LV.mk 0 [(0, 0)] 16 0 false) 0 18 R [EV.str x0, EV.int IntKind.u8 x1, EV.int IntKind.i64 x2] [] K = zcl.l2.step (fun x0 x1 x2 => R [EV.str x0, EV.int IntKind.u8 x1, EV.int IntKind.i64 x2] []) (fun y0 => K .ret [EV.int IntKind.i64 y0] []) (K (.exit 0) [] []) x0 x1 x2 := (yaI _ _ _ _ _ _ _ _ _ _ _).symm.trans (by kernel_rfl)
theorem zcl.l2X.eq (K : Ex → List EV → yaf → Prop) : ∀ (n : Nat) (x0 : List UInt8) (x1 : Int) (x2 : Int), yaC E_zcl (yab Tryz.f157 0) (LV.mk 0 [(0, 0)] 16 0 false) 0 18 K n [EV.str x0, EV.int IntKind.u8 x1, EV.int IntKind.i64 x2] [] = zcl.l2 (fun y0 => K .ret [EV.int IntKind.i64 y0] []) (K (.exit 0) [] []) n x0 x1 x2
 | 0, _, _, _ => rfl
 | n + 1, x0, x1, x2 => by
  have ih : (fun (x0 : List UInt8) (x1 : Int) (x2 : Int) => yaC E_zcl (yab Tryz.f157 0) (LV.mk 0 [(0, 0)] 16 0 false) 0 18 K n [EV.str x0, EV.int IntKind.u8 x1, EV.int IntKind.i64 x2] []) = zcl.l2 (fun y0 => K .ret [EV.int IntKind.i64 y0] []) (K (.exit 0) [] []) n := by funext x0 x1 x2; exact zcl.l2X.eq K n x0 x1 x2
  show yao _ _ _ _ _ (yaC E_zcl (yab Tryz.f157 0) (LV.mk 0 [(0, 0)] 16 0 false) 0 18 K n) [EV.str x0, EV.int IntKind.u8 x1, EV.int IntKind.i64 x2] [] K = zcl.l2.step (zcl.l2 (fun y0 => K .ret [EV.int IntKind.i64 y0] []) (K (.exit 0) [] []) n) (fun y0 => K .ret [EV.int IntKind.i64 y0] []) (K (.exit 0) [] []) x0 x1 x2
  rw [← ih]
  exact zcl.l2X.stepEq _ K x0 x1 x2
theorem zcl.l2X.ok : LoopEq E_zcl (yab Tryz.f157 0) := by
 intro L hL vs H
 have h1 : E_zcl.lp (yal (yab Tryz.f157 0)) = some zcl.l2.entry := by kernel_rfl
 have h2 : L = zcl.l2.entry := Option.some.inj (hL.symm.trans h1)
 subst h2
 by_cases hx : ∃ (x0 : List UInt8) (x1 : Int) (x2 : Int), vs = [EV.str x0, EV.int IntKind.u8 x1, EV.int IntKind.i64 x2] ∧ H = []
 ·obtain ⟨x0, x1, x2, rfl, rfl⟩ := hx
  right; intro K
  exact exists_congr fun n => iff_of_eq (zcl.l2X.eq K n x0 x1 x2).symm
 ·left; intro K h
  simp only [zcl.l2.entry] at h
  split at h
  ·exact hx ⟨_, _, _, rfl, rfl⟩
  ·exact h
theorem X_zcl.eq (a0 : List UInt8) (a1 : Int) (K : EV → yaf → Prop) : yaV E_zcl Tryz.f157 false [.str a0, .int .u8 a1] [] K = zcl a0 a1 (fun y0 => K (EV.int IntKind.i64 y0) []) := by
 rw [zcl.is]; exact (yag _ _ _ _ _ _).symm.trans (by kernel_rfl)
theorem X_zcl.ok : SoundE Tryz.prog gl 157 e_zcl := by
 refine ya3 (E := E_zcl) (fn := Tryz.f157) rfl tys_ok rfl (show yaZ _ [] from trivial) mixed (by kernel_rfl) (by kernel_rfl) (by kernel_rfl) 1 (by kernel_rfl) false ⟨zcl.l2X.ok, trivial⟩ ?_
 intro args H
 by_cases hx : ∃ (a0 : List UInt8) (a1 : Int), args = [.str a0, .int .u8 a1] ∧ H = []
 ·obtain ⟨a0, a1, rfl, rfl⟩ := hx
  right; intro K
  exact iff_of_eq (X_zcl.eq a0 a1 K).symm
 ·left; intro K h
  simp only [e_zcl] at h
  split at h
  ·exact hx ⟨_, _, rfl, rfl⟩
  ·exact h
noncomputable def e_zbf : yan := ⟨[none], false, fun args H K => match args, H with
 | [.int .u8 a0], [] => zbf a0 (fun y0 y1 => K (EV.tuple [EV.int IntKind.u64 y0, EV.bool y1]) [])
 | _, _ => False⟩
noncomputable def E_zbf : Env := ⟨look tys, look [], look [], gl, yaq [], false⟩
theorem X_zbf.eq (a0 : Int) (K : EV → yaf → Prop) : yaV E_zbf Tryz.f193 false [.int .u8 a0] [] K = zbf a0 (fun y0 y1 => K (EV.tuple [EV.int IntKind.u64 y0, EV.bool y1]) []) := by
 rw [zbf.is]; exact (yag _ _ _ _ _ _).symm.trans (by kernel_rfl)
theorem X_zbf.ok : SoundE Tryz.prog gl 193 e_zbf := by
 refine ya3 (E := E_zbf) (fn := Tryz.f193) rfl tys_ok rfl (show yaZ _ [] from trivial) mixed (by kernel_rfl) (by kernel_rfl) (by kernel_rfl) 0 (by kernel_rfl) false trivial ?_
 intro args H
 by_cases hx : ∃ (a0 : Int), args = [.int .u8 a0] ∧ H = []
 ·obtain ⟨a0, rfl, rfl⟩ := hx
  right; intro K
  exact iff_of_eq (X_zbf.eq a0 K).symm
 ·left; intro K h
  simp only [e_zbf] at h
  split at h
  ·exact hx ⟨_, rfl, rfl⟩
  ·exact h
noncomputable def e_zbl : yan := ⟨[none], false, fun args H K => match args, H with
 | [.str a0], [] => zbl a0 (fun y0 y1 => K (EV.tuple [EV.arr IntKind.u64 6 y0, EV.int IntKind.i64 y1]) [])
 | _, _ => False⟩
noncomputable def l_zbl : List (Nat × yan) := [(126, e_zbg), (193, e_zbf)]
noncomputable def E_zbl : Env := ⟨look tys, look l_zbl, look [(5, zbl.l5.entry)], gl, yaq [], false⟩
theorem zbl.l5X.stepEq (R : List EV → yaf → Prop) (K : Ex → List EV → yaf → Prop) (x0 : List UInt8) (x1 : Int) (x2 : Nat → Int) (x3 : Nat → Int) : yao (yap E_zbl (yab Tryz.f158 0) { (LV.mk 20 [(0, 20)] 12 0 false) with nx := live (.loop (yab Tryz.f158 0)) (LV.mk 20 [(0, 20)] 12 0 false) }) (live (.loop (yab Tryz.f158 0)) (LV.mk 20 [(0, 20)] 12 0 false)) (LV.mk 20 [(0, 20)] 12 0 false) 0 54 R [EV.str x0, EV.ptr 0 [], EV.ptr 1 [], EV.int IntKind.i64 x1] [some (EV.arr IntKind.u64 6 x2), some (EV.arr IntKind.u64 6 x3)] K = zbl.l5.step (fun x0 x1 x2 x3 => R [EV.str x0, EV.ptr 0 [], EV.ptr 1 [], EV.int IntKind.i64 x1] [some (EV.arr IntKind.u64 6 x2), some (EV.arr IntKind.u64 6 x3)]) (fun y0 y1 => K .ret [EV.ptr 0 [], EV.int IntKind.i64 y0] [some (EV.arr IntKind.u64 6 y1)]) (fun y0 y1 => K (.exit 0) [EV.ptr 0 [], EV.ptr 1 []] [some (EV.arr IntKind.u64 6 y0), some (EV.arr IntKind.u64 6 y1)]) x0 x1 x2 x3 := (yaI _ _ _ _ _ _ _ _ _ _ _).symm.trans (by kernel_rfl)
theorem zbl.l5X.eq (K : Ex → List EV → yaf → Prop) : ∀ (n : Nat) (x0 : List UInt8) (x1 : Int) (x2 : Nat → Int) (x3 : Nat → Int), yaC E_zbl (yab Tryz.f158 0) (LV.mk 20 [(0, 20)] 12 0 false) 0 54 K n [EV.str x0, EV.ptr 0 [], EV.ptr 1 [], EV.int IntKind.i64 x1] [some (EV.arr IntKind.u64 6 x2), some (EV.arr IntKind.u64 6 x3)] = zbl.l5 (fun y0 y1 => K .ret [EV.ptr 0 [], EV.int IntKind.i64 y0] [some (EV.arr IntKind.u64 6 y1)]) (fun y0 y1 => K (.exit 0) [EV.ptr 0 [], EV.ptr 1 []] [some (EV.arr IntKind.u64 6 y0), some (EV.arr IntKind.u64 6 y1)]) n x0 x1 x2 x3
 | 0, _, _, _, _ => rfl
 | n + 1, x0, x1, x2, x3 => by
  have ih : (fun (x0 : List UInt8) (x1 : Int) (x2 : Nat → Int) (x3 : Nat → Int) => yaC E_zbl (yab Tryz.f158 0) (LV.mk 20 [(0, 20)] 12 0 false) 0 54 K n [EV.str x0, EV.ptr 0 [], EV.ptr 1 [], EV.int IntKind.i64 x1] [some (EV.arr IntKind.u64 6 x2), some (EV.arr IntKind.u64 6 x3)]) = zbl.l5 (fun y0 y1 => K .ret [EV.ptr 0 [], EV.int IntKind.i64 y0] [some (EV.arr IntKind.u64 6 y1)]) (fun y0 y1 => K (.exit 0) [EV.ptr 0 [], EV.ptr 1 []] [some (EV.arr IntKind.u64 6 y0), some (EV.arr IntKind.u64 6 y1)]) n := by funext x0 x1 x2 x3; exact zbl.l5X.eq K n x0 x1 x2 x3
  show yao _ _ _ _ _ (yaC E_zbl (yab Tryz.f158 0) (LV.mk 20 [(0, 20)] 12 0 false) 0 54 K n) [EV.str x0, EV.ptr 0 [], EV.ptr 1 [], EV.int IntKind.i64 x1] [some (EV.arr IntKind.u64 6 x2), some (EV.arr IntKind.u64 6 x3)] K = zbl.l5.step (zbl.l5 (fun y0 y1 => K .ret [EV.ptr 0 [], EV.int IntKind.i64 y0] [some (EV.arr IntKind.u64 6 y1)]) (fun y0 y1 => K (.exit 0) [EV.ptr 0 [], EV.ptr 1 []] [some (EV.arr IntKind.u64 6 y0), some (EV.arr IntKind.u64 6 y1)]) n) (fun y0 y1 => K .ret [EV.ptr 0 [], EV.int IntKind.i64 y0] [some (EV.arr IntKind.u64 6 y1)]) (fun y0 y1 => K (.exit 0) [EV.ptr 0 [], EV.ptr 1 []] [some (EV.arr IntKind.u64 6 y0), some (EV.arr IntKind.u64 6 y1)]) x0 x1 x2 x3
  rw [← ih]
  exact zbl.l5X.stepEq _ K x0 x1 x2 x3
theorem zbl.l5X.ok : LoopEq E_zbl (yab Tryz.f158 0) := by
 intro L hL vs H
 have h1 : E_zbl.lp (yal (yab Tryz.f158 0)) = some zbl.l5.entry := by kernel_rfl
 have h2 : L = zbl.l5.entry := Option.some.inj (hL.symm.trans h1)
 subst h2
 by_cases hx : ∃ (x0 : List UInt8) (x1 : Int) (x2 : Nat → Int) (x3 : Nat → Int), vs = [EV.str x0, EV.ptr 0 [], EV.ptr 1 [], EV.int IntKind.i64 x1] ∧ H = [some (EV.arr IntKind.u64 6 x2), some (EV.arr IntKind.u64 6 x3)]
 ·obtain ⟨x0, x1, x2, x3, rfl, rfl⟩ := hx
  right; intro K
  exact exists_congr fun n => iff_of_eq (zbl.l5X.eq K n x0 x1 x2 x3).symm
 ·left; intro K h
  simp only [zbl.l5.entry] at h
  split at h
  ·exact hx ⟨_, _, _, _, rfl, rfl⟩
  ·exact h
theorem X_zbl.eq (a0 : List UInt8) (K : EV → yaf → Prop) : yaV E_zbl Tryz.f158 false [.str a0] [] K = zbl a0 (fun y0 y1 => K (EV.tuple [EV.arr IntKind.u64 6 y0, EV.int IntKind.i64 y1]) []) := by
 rw [zbl.is]; exact (yag _ _ _ _ _ _).symm.trans (by kernel_rfl)
theorem X_zbl.ok : SoundE Tryz.prog gl 158 e_zbl := by
 refine ya3 (E := E_zbl) (fn := Tryz.f158) rfl tys_ok rfl (show yaZ _ l_zbl from ⟨X_zbg.ok, X_zbf.ok, trivial⟩) mixed (by kernel_rfl) (by kernel_rfl) (by kernel_rfl) 1 (by kernel_rfl) false ⟨zbl.l5X.ok, trivial⟩ ?_
 intro args H
 by_cases hx : ∃ (a0 : List UInt8), args = [.str a0] ∧ H = []
 ·obtain ⟨a0, rfl, rfl⟩ := hx
  right; intro K
  exact iff_of_eq (X_zbl.eq a0 K).symm
 ·left; intro K h
  simp only [e_zbl] at h
  split at h
  ·exact hx ⟨_, rfl, rfl⟩
  ·exact h
noncomputable def e_zcn : yan := ⟨[none], false, fun args H K => match args, H with
 | [.str a0], [] => zcn a0 (fun y0 y1 => K (EV.tuple [EV.int IntKind.i64 y0, EV.bool y1]) [])
 | _, _ => False⟩
noncomputable def E_zcn : Env := ⟨look tys, look [], look [(8, zcn.l8.entry)], gl, yaq [], false⟩
theorem zcn.l8X.stepEq (R : List EV → yaf → Prop) (K : Ex → List EV → yaf → Prop) (x0 : List UInt8) (x1 : Bool) (x2 : Int) (x3 : Int) : yao (yap E_zcn (yab Tryz.f160 0) { (LV.mk 48 [(0, 48)] 12 0 false) with nx := live (.loop (yab Tryz.f160 0)) (LV.mk 48 [(0, 48)] 12 0 false) }) (live (.loop (yab Tryz.f160 0)) (LV.mk 48 [(0, 48)] 12 0 false)) (LV.mk 48 [(0, 48)] 12 0 false) 0 52 R [EV.str x0, EV.bool x1, EV.int IntKind.i64 x2, EV.int IntKind.i64 x3] [] K = zcn.l8.step (fun x0 x1 x2 x3 => R [EV.str x0, EV.bool x1, EV.int IntKind.i64 x2, EV.int IntKind.i64 x3] []) (fun y0 y1 => K .ret [EV.int IntKind.i64 y0, EV.bool y1] []) (fun y0 y1 => K (.exit 0) [EV.bool y0, EV.int IntKind.i64 y1] []) x0 x1 x2 x3 := (yaI _ _ _ _ _ _ _ _ _ _ _).symm.trans (by kernel_rfl)
theorem zcn.l8X.eq (K : Ex → List EV → yaf → Prop) : ∀ (n : Nat) (x0 : List UInt8) (x1 : Bool) (x2 : Int) (x3 : Int), yaC E_zcn (yab Tryz.f160 0) (LV.mk 48 [(0, 48)] 12 0 false) 0 52 K n [EV.str x0, EV.bool x1, EV.int IntKind.i64 x2, EV.int IntKind.i64 x3] [] = zcn.l8 (fun y0 y1 => K .ret [EV.int IntKind.i64 y0, EV.bool y1] []) (fun y0 y1 => K (.exit 0) [EV.bool y0, EV.int IntKind.i64 y1] []) n x0 x1 x2 x3
 | 0, _, _, _, _ => rfl
 | n + 1, x0, x1, x2, x3 => by
  have ih : (fun (x0 : List UInt8) (x1 : Bool) (x2 : Int) (x3 : Int) => yaC E_zcn (yab Tryz.f160 0) (LV.mk 48 [(0, 48)] 12 0 false) 0 52 K n [EV.str x0, EV.bool x1, EV.int IntKind.i64 x2, EV.int IntKind.i64 x3] []) = zcn.l8 (fun y0 y1 => K .ret [EV.int IntKind.i64 y0, EV.bool y1] []) (fun y0 y1 => K (.exit 0) [EV.bool y0, EV.int IntKind.i64 y1] []) n := by funext x0 x1 x2 x3; exact zcn.l8X.eq K n x0 x1 x2 x3
  show yao _ _ _ _ _ (yaC E_zcn (yab Tryz.f160 0) (LV.mk 48 [(0, 48)] 12 0 false) 0 52 K n) [EV.str x0, EV.bool x1, EV.int IntKind.i64 x2, EV.int IntKind.i64 x3] [] K = zcn.l8.step (zcn.l8 (fun y0 y1 => K .ret [EV.int IntKind.i64 y0, EV.bool y1] []) (fun y0 y1 => K (.exit 0) [EV.bool y0, EV.int IntKind.i64 y1] []) n) (fun y0 y1 => K .ret [EV.int IntKind.i64 y0, EV.bool y1] []) (fun y0 y1 => K (.exit 0) [EV.bool y0, EV.int IntKind.i64 y1] []) x0 x1 x2 x3
  rw [← ih]
  exact zcn.l8X.stepEq _ K x0 x1 x2 x3
theorem zcn.l8X.ok : LoopEq E_zcn (yab Tryz.f160 0) := by
 intro L hL vs H
 have h1 : E_zcn.lp (yal (yab Tryz.f160 0)) = some zcn.l8.entry := by kernel_rfl
 have h2 : L = zcn.l8.entry := Option.some.inj (hL.symm.trans h1)
 subst h2
 by_cases hx : ∃ (x0 : List UInt8) (x1 : Bool) (x2 : Int) (x3 : Int), vs = [EV.str x0, EV.bool x1, EV.int IntKind.i64 x2, EV.int IntKind.i64 x3] ∧ H = []
 ·obtain ⟨x0, x1, x2, x3, rfl, rfl⟩ := hx
  right; intro K
  exact exists_congr fun n => iff_of_eq (zcn.l8X.eq K n x0 x1 x2 x3).symm
 ·left; intro K h
  simp only [zcn.l8.entry] at h
  split at h
  ·exact hx ⟨_, _, _, _, rfl, rfl⟩
  ·exact h
theorem X_zcn.eq (a0 : List UInt8) (K : EV → yaf → Prop) : yaV E_zcn Tryz.f160 false [.str a0] [] K = zcn a0 (fun y0 y1 => K (EV.tuple [EV.int IntKind.i64 y0, EV.bool y1]) []) := by
 rw [zcn.is]; exact (yag _ _ _ _ _ _).symm.trans (by kernel_rfl)
theorem X_zcn.ok : SoundE Tryz.prog gl 160 e_zcn := by
 refine ya3 (E := E_zcn) (fn := Tryz.f160) rfl tys_ok rfl (show yaZ _ [] from trivial) mixed (by kernel_rfl) (by kernel_rfl) (by kernel_rfl) 1 (by kernel_rfl) false ⟨zcn.l8X.ok, trivial⟩ ?_
 intro args H
 by_cases hx : ∃ (a0 : List UInt8), args = [.str a0] ∧ H = []
 ·obtain ⟨a0, rfl, rfl⟩ := hx
  right; intro K
  exact iff_of_eq (X_zcn.eq a0 K).symm
 ·left; intro K h
  simp only [e_zcn] at h
  split at h
  ·exact hx ⟨_, rfl, rfl⟩
  ·exact h
noncomputable def e_zcg : yan := ⟨[none, none], false, fun args H K => match args, H with
 | [.int .u8 a0, .agg [.int .u8 a1_0, .arr .u64 6 a1_1, .int .i64 a1_2, .arr .u64 6 a1_3]], [] => zcg a0 a1_0 a1_1 a1_2 a1_3 (fun y0 y1 y2 => K (EV.tuple [EV.agg [EV.int IntKind.u64 y0, EV.int IntKind.u64 y1], EV.int IntKind.i64 y2]) [])
 | _, _ => False⟩
noncomputable def l_zcg : List (Nat × yan) := [(48, e_zcd), (54, e_zck), (70, e_zca), (72, e_zbu), (73, e_zbv), (76, e_zbh), (77, e_zbt), (78, e_zbc), (79, e_zbi), (156, e_zby), (159, e_zbz)]
noncomputable def E_zcg : Env := ⟨look tys, look l_zcg, look [], gl, yaq [], false⟩
theorem X_zcg.eq (a0 : Int) (a1_0 : Int) (a1_1 : Nat → Int) (a1_2 : Int) (a1_3 : Nat → Int) (K : EV → yaf → Prop) : yaV E_zcg Tryz.f161 false [.int .u8 a0, .agg [.int .u8 a1_0, .arr .u64 6 a1_1, .int .i64 a1_2, .arr .u64 6 a1_3]] [] K = zcg a0 a1_0 a1_1 a1_2 a1_3 (fun y0 y1 y2 => K (EV.tuple [EV.agg [EV.int IntKind.u64 y0, EV.int IntKind.u64 y1], EV.int IntKind.i64 y2]) []) := by
 rw [zcg.is]; exact (yag _ _ _ _ _ _).symm.trans (by kernel_rfl)
theorem X_zcg.ok : SoundE Tryz.prog gl 161 e_zcg := by
 refine ya3 (E := E_zcg) (fn := Tryz.f161) rfl tys_ok rfl (show yaZ _ l_zcg from ⟨X_zcd.ok, X_zck.ok, X_zca.ok, X_zbu.ok, X_zbv.ok, X_zbh.ok, X_zbt.ok, X_zbc.ok, X_zbi.ok, X_zby.ok, X_zbz.ok, trivial⟩) mixed (by kernel_rfl) (by kernel_rfl) (by kernel_rfl) 0 (by kernel_rfl) false trivial ?_
 intro args H
 by_cases hx : ∃ (a0 : Int) (a1_0 : Int) (a1_1 : Nat → Int) (a1_2 : Int) (a1_3 : Nat → Int), args = [.int .u8 a0, .agg [.int .u8 a1_0, .arr .u64 6 a1_1, .int .i64 a1_2, .arr .u64 6 a1_3]] ∧ H = []
 ·obtain ⟨a0, a1_0, a1_1, a1_2, a1_3, rfl, rfl⟩ := hx
  right; intro K
  exact iff_of_eq (X_zcg.eq a0 a1_0 a1_1 a1_2 a1_3 K).symm
 ·left; intro K h
  simp only [e_zcg] at h
  split at h
  ·exact hx ⟨_, _, _, _, _, rfl, rfl⟩
  ·exact h
noncomputable def e_zcf : yan := ⟨[none, none], false, fun args H K => match args, H with
 | [.int .u8 a0, .agg [.int .u64 a1_0, .int .u64 a1_1]], [] => zcf a0 a1_0 a1_1 (fun y0 y1 => K (EV.agg [EV.int IntKind.u64 y0, EV.int IntKind.u64 y1]) [])
 | _, _ => False⟩
noncomputable def l_zcf : List (Nat × yan) := [(53, e_zbx), (77, e_zbt), (125, e_zbw)]
noncomputable def E_zcf : Env := ⟨look tys, look l_zcf, look [], gl, yaq [], false⟩
theorem X_zcf.eq (a0 : Int) (a1_0 : Int) (a1_1 : Int) (K : EV → yaf → Prop) : yaV E_zcf Tryz.f162 false [.int .u8 a0, .agg [.int .u64 a1_0, .int .u64 a1_1]] [] K = zcf a0 a1_0 a1_1 (fun y0 y1 => K (EV.agg [EV.int IntKind.u64 y0, EV.int IntKind.u64 y1]) []) := by
 rw [zcf.is]; exact (yag _ _ _ _ _ _).symm.trans (by kernel_rfl)
theorem X_zcf.ok : SoundE Tryz.prog gl 162 e_zcf := by
 refine ya3 (E := E_zcf) (fn := Tryz.f162) rfl tys_ok rfl (show yaZ _ l_zcf from ⟨X_zbx.ok, X_zbt.ok, X_zbw.ok, trivial⟩) mixed (by kernel_rfl) (by kernel_rfl) (by kernel_rfl) 0 (by kernel_rfl) false trivial ?_
 intro args H
 by_cases hx : ∃ (a0 : Int) (a1_0 : Int) (a1_1 : Int), args = [.int .u8 a0, .agg [.int .u64 a1_0, .int .u64 a1_1]] ∧ H = []
 ·obtain ⟨a0, a1_0, a1_1, rfl, rfl⟩ := hx
  right; intro K
  exact iff_of_eq (X_zcf.eq a0 a1_0 a1_1 K).symm
 ·left; intro K h
  simp only [e_zcf] at h
  split at h
  ·exact hx ⟨_, _, _, rfl, rfl⟩
  ·exact h
noncomputable def e_zcm : yan := ⟨[none, none], false, fun args H K => match args, H with
 | [.int .u8 a0, .str a1], [] => zcm a0 a1 (fun y0 y1 => K (EV.agg [EV.int IntKind.u64 y0, EV.int IntKind.u64 y1]) [])
 | _, _ => False⟩
noncomputable def l_zcm : List (Nat × yan) := [(48, e_zcd), (70, e_zca), (76, e_zbh), (77, e_zbt), (156, e_zby), (157, e_zcl), (158, e_zbl), (159, e_zbz), (160, e_zcn), (161, e_zcg), (162, e_zcf)]
noncomputable def E_zcm : Env := ⟨look tys, look l_zcm, look [], gl, yaq [], false⟩
theorem X_zcm.eq (a0 : Int) (a1 : List UInt8) (K : EV → yaf → Prop) : yaV E_zcm Tryz.f96 false [.int .u8 a0, .str a1] [] K = zcm a0 a1 (fun y0 y1 => K (EV.agg [EV.int IntKind.u64 y0, EV.int IntKind.u64 y1]) []) := by
 rw [zcm.is]; exact (yag _ _ _ _ _ _).symm.trans (by kernel_rfl)
theorem X_zcm.ok : SoundE Tryz.prog gl 96 e_zcm := by
 refine ya3 (E := E_zcm) (fn := Tryz.f96) rfl tys_ok rfl (show yaZ _ l_zcm from ⟨X_zcd.ok, X_zca.ok, X_zbh.ok, X_zbt.ok, X_zby.ok, X_zcl.ok, X_zbl.ok, X_zbz.ok, X_zcn.ok, X_zcg.ok, X_zcf.ok, trivial⟩) mixed (by kernel_rfl) (by kernel_rfl) (by kernel_rfl) 0 (by kernel_rfl) false trivial ?_
 intro args H
 by_cases hx : ∃ (a0 : Int) (a1 : List UInt8), args = [.int .u8 a0, .str a1] ∧ H = []
 ·obtain ⟨a0, a1, rfl, rfl⟩ := hx
  right; intro K
  exact iff_of_eq (X_zcm.eq a0 a1 K).symm
 ·left; intro K h
  simp only [e_zcm] at h
  split at h
  ·exact hx ⟨_, _, rfl, rfl⟩
  ·exact h
noncomputable def e_zch : yan := ⟨[none, none], false, fun args H K => match args, H with
 | [.int .u8 a0, .str a1], [] => zch a0 a1 (fun y0 y1 y2 => K (EV.tuple [EV.agg [EV.int IntKind.u64 y0, EV.int IntKind.u64 y1], EV.int IntKind.i64 y2]) [])
 | _, _ => False⟩
noncomputable def l_zch : List (Nat × yan) := [(28, e_zcj), (96, e_zcm)]
noncomputable def E_zch : Env := ⟨look tys, look l_zch, look [], gl, yaq [], false⟩
theorem X_zch.eq (a0 : Int) (a1 : List UInt8) (K : EV → yaf → Prop) : yaV E_zch Tryz.f30 false [.int .u8 a0, .str a1] [] K = zch a0 a1 (fun y0 y1 y2 => K (EV.tuple [EV.agg [EV.int IntKind.u64 y0, EV.int IntKind.u64 y1], EV.int IntKind.i64 y2]) []) := by
 rw [zch.is]; exact (yag _ _ _ _ _ _).symm.trans (by kernel_rfl)
theorem X_zch.ok : SoundE Tryz.prog gl 30 e_zch := by
 refine ya3 (E := E_zch) (fn := Tryz.f30) rfl tys_ok rfl (show yaZ _ l_zch from ⟨X_zcj.ok, X_zcm.ok, trivial⟩) mixed (by kernel_rfl) (by kernel_rfl) (by kernel_rfl) 0 (by kernel_rfl) false trivial ?_
 intro args H
 by_cases hx : ∃ (a0 : Int) (a1 : List UInt8), args = [.int .u8 a0, .str a1] ∧ H = []
 ·obtain ⟨a0, a1, rfl, rfl⟩ := hx
  right; intro K
  exact iff_of_eq (X_zch.eq a0 a1 K).symm
 ·left; intro K h
  simp only [e_zch] at h
  split at h
  ·exact hx ⟨_, _, rfl, rfl⟩
  ·exact h
noncomputable def e_zav : yan := ⟨[none, none, none], false, fun args H K => match args, H with
 | [.int .u8 a0, .agg [.int .u64 a1_0, .int .u64 a1_1], .str a2], [] => zav a0 a1_0 a1_1 a2 (fun y0 => K (EV.bool y0) [])
 | _, _ => False⟩
noncomputable def l_zav : List (Nat × yan) := [(12, e_zax), (14, e_zaw), (16, e_zcb), (27, e_zap), (28, e_zcj), (29, e_zan), (30, e_zch)]
noncomputable def E_zav : Env := ⟨look tys, look l_zav, look [], gl, yaq [], false⟩
theorem X_zav.eq (a0 : Int) (a1_0 : Int) (a1_1 : Int) (a2 : List UInt8) (K : EV → yaf → Prop) : yaV E_zav Tryz.f6 false [.int .u8 a0, .agg [.int .u64 a1_0, .int .u64 a1_1], .str a2] [] K = zav a0 a1_0 a1_1 a2 (fun y0 => K (EV.bool y0) []) := by
 rw [zav.is]; exact (yag _ _ _ _ _ _).symm.trans (by kernel_rfl)
theorem X_zav.ok : SoundE Tryz.prog gl 6 e_zav := by
 refine ya3 (E := E_zav) (fn := Tryz.f6) rfl tys_ok rfl (show yaZ _ l_zav from ⟨X_zax.ok, X_zaw.ok, X_zcb.ok, X_zap.ok, X_zcj.ok, X_zan.ok, X_zch.ok, trivial⟩) mixed (by kernel_rfl) (by kernel_rfl) (by kernel_rfl) 0 (by kernel_rfl) false trivial ?_
 intro args H
 by_cases hx : ∃ (a0 : Int) (a1_0 : Int) (a1_1 : Int) (a2 : List UInt8), args = [.int .u8 a0, .agg [.int .u64 a1_0, .int .u64 a1_1], .str a2] ∧ H = []
 ·obtain ⟨a0, a1_0, a1_1, a2, rfl, rfl⟩ := hx
  right; intro K
  exact iff_of_eq (X_zav.eq a0 a1_0 a1_1 a2 K).symm
 ·left; intro K h
  simp only [e_zav] at h
  split at h
  ·exact hx ⟨_, _, _, _, rfl, rfl⟩
  ·exact h
end Go.Ev.S
