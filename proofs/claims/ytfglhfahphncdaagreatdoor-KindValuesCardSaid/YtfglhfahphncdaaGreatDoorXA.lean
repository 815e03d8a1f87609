/- The functions of the seat: that the evaluator has them as they are. -/
import Derived.Test.YtfglhfahphncdaaGreatDoorProg
import Derived.Test.YtfglhfahphncdaaGreatDoorEvC
import Derived.Test.YtfglhfahphncdaaGreatDoorDA
import Derived.KernelRfl
set_option maxRecDepth 100000
set_option linter.unusedVariables false
set_option linter.unusedSimpArgs false
namespace Go.Ev.S
open Go Go.Proofs Go.Ev
def tys : List (Nat × TI) := [
  (1, ⟨.func, 1, 8, .nilFunc⟩),
  (2, ⟨.int .i64, 1, 8, .int .i64 0⟩),
  (3, ⟨.int .i64, 1, 8, .int .i64 0⟩),
  (4, ⟨.bool, 1, 1, .bool false⟩),
  (5, ⟨.int .u8, 1, 1, .int .u8 0⟩),
  (6, ⟨.int .u8, 1, 1, .int .u8 0⟩),
  (7, ⟨.struct [(0, 2), (1, 3), (2, 4), (3, 6)], 4, 24, .agg [.int .i64 0, .int .i64 0, .bool false, .int .u8 0]⟩),
  (8, ⟨.struct [(0, 2), (1, 3), (2, 4), (3, 6)], 4, 24, .agg [.int .i64 0, .int .i64 0, .bool false, .int .u8 0]⟩),
  (9, ⟨.str, 1, 16, .str []⟩),
  (10, ⟨.str, 1, 16, .str []⟩),
  (11, ⟨.str, 1, 16, .str []⟩),
  (12, ⟨.int .u64, 1, 8, .int .u64 0⟩),
  (15, ⟨.ptr, 1, 8, .nilPtr⟩),
  (16, ⟨.ptr, 1, 8, .nilPtr⟩),
  (17, ⟨.ptr, 1, 8, .nilPtr⟩),
  (21, ⟨.int .i32, 1, 4, .int .i32 0⟩),
  (22, ⟨.int .u8, 1, 1, .int .u8 0⟩),
  (23, ⟨.int .u8, 1, 1, .int .u8 0⟩),
  (24, ⟨.int .u64, 1, 8, .int .u64 0⟩),
  (25, ⟨.array 6 24, 6, 48, .arr .u64 6 (fun _ => 0)⟩),
  (26, ⟨.array 6 24, 6, 48, .arr .u64 6 (fun _ => 0)⟩),
  (27, ⟨.struct [(0, 4), (1, 26), (7, 3), (8, 4)], 9, 72, .agg [.bool false, .arr .u64 6 (fun _ => 0), .int .i64 0, .bool false]⟩),
  (28, ⟨.struct [(0, 4), (1, 26), (7, 3), (8, 4)], 9, 72, .agg [.bool false, .arr .u64 6 (fun _ => 0), .int .i64 0, .bool false]⟩),
  (29, ⟨.struct [(0, 24), (1, 24)], 2, 16, .agg [.int .u64 0, .int .u64 0]⟩),
  (30, ⟨.struct [(0, 24), (1, 24)], 2, 16, .agg [.int .u64 0, .int .u64 0]⟩),
  (31, ⟨.int .u8, 1, 1, .int .u8 0⟩),
  (32, ⟨.int .i64, 1, 8, .int .i64 0⟩),
  (34, ⟨.func, 1, 8, .nilFunc⟩),
  (36, ⟨.func, 1, 8, .nilFunc⟩),
  (37, ⟨.func, 1, 8, .nilFunc⟩),
  (38, ⟨.func, 1, 8, .nilFunc⟩),
  (39, ⟨.str, 1, 16, .str []⟩),
  (40, ⟨.struct [(0, 4), (1, 39), (2, 39), (3, 3)], 4, 48, .agg [.bool false, .str [], .str [], .int .i64 0]⟩),
  (41, ⟨.struct [(0, 4), (1, 39), (2, 39), (3, 3)], 4, 48, .agg [.bool false, .str [], .str [], .int .i64 0]⟩),
  (43, ⟨.func, 1, 8, .nilFunc⟩),
  (44, ⟨.func, 1, 8, .nilFunc⟩),
  (46, ⟨.func, 1, 8, .nilFunc⟩),
  (48, ⟨.func, 1, 8, .nilFunc⟩),
  (49, ⟨.func, 1, 8, .nilFunc⟩),
  (50, ⟨.func, 1, 8, .nilFunc⟩),
  (52, ⟨.func, 1, 8, .nilFunc⟩),
  (53, ⟨.func, 1, 8, .nilFunc⟩),
  (54, ⟨.func, 1, 8, .nilFunc⟩),
  (55, ⟨.func, 1, 8, .nilFunc⟩),
  (57, ⟨.func, 1, 8, .nilFunc⟩),
  (58, ⟨.func, 1, 8, .nilFunc⟩),
  (59, ⟨.func, 1, 8, .nilFunc⟩),
  (60, ⟨.func, 1, 8, .nilFunc⟩),
  (61, ⟨.func, 1, 8, .nilFunc⟩),
  (62, ⟨.func, 1, 8, .nilFunc⟩),
  (63, ⟨.func, 1, 8, .nilFunc⟩),
  (65, ⟨.func, 1, 8, .nilFunc⟩),
  (66, ⟨.func, 1, 8, .nilFunc⟩),
  (68, ⟨.func, 1, 8, .nilFunc⟩),
  (70, ⟨.func, 1, 8, .nilFunc⟩),
  (71, ⟨.func, 1, 8, .nilFunc⟩),
  (72, ⟨.int .u8, 1, 1, .int .u8 0⟩),
  (73, ⟨.struct [(0, 72), (1, 26), (7, 3), (8, 26)], 14, 112, .agg [.int .u8 0, .arr .u64 6 (fun _ => 0), .int .i64 0, .arr .u64 6 (fun _ => 0)]⟩),
  (74, ⟨.struct [(0, 72), (1, 26), (7, 3), (8, 26)], 14, 112, .agg [.int .u8 0, .arr .u64 6 (fun _ => 0), .int .i64 0, .arr .u64 6 (fun _ => 0)]⟩),
  (76, ⟨.func, 1, 8, .nilFunc⟩),
  (77, ⟨.func, 1, 8, .nilFunc⟩),
  (78, ⟨.func, 1, 8, .nilFunc⟩),
  (79, ⟨.func, 1, 8, .nilFunc⟩),
  (80, ⟨.func, 1, 8, .nilFunc⟩),
  (81, ⟨.func, 1, 8, .nilFunc⟩),
  (82, ⟨.func, 1, 8, .nilFunc⟩),
  (83, ⟨.func, 1, 8, .nilFunc⟩),
  (85, ⟨.func, 1, 8, .nilFunc⟩),
  (86, ⟨.func, 1, 8, .nilFunc⟩),
  (87, ⟨.func, 1, 8, .nilFunc⟩),
  (88, ⟨.func, 1, 8, .nilFunc⟩),
  (89, ⟨.func, 1, 8, .nilFunc⟩),
  (90, ⟨.func, 1, 8, .nilFunc⟩),
  (92, ⟨.func, 1, 8, .nilFunc⟩),
  (93, ⟨.func, 1, 8, .nilFunc⟩),
  (94, ⟨.func, 1, 8, .nilFunc⟩),
  (95, ⟨.func, 1, 8, .nilFunc⟩),
  (96, ⟨.func, 1, 8, .nilFunc⟩),
  (98, ⟨.func, 1, 8, .nilFunc⟩),
  (99, ⟨.func, 1, 8, .nilFunc⟩),
  (100, ⟨.func, 1, 8, .nilFunc⟩),
  (102, ⟨.func, 1, 8, .nilFunc⟩),
  (104, ⟨.func, 1, 8, .nilFunc⟩),
  (105, ⟨.func, 1, 8, .nilFunc⟩),
  (106, ⟨.func, 1, 8, .nilFunc⟩),
  (107, ⟨.func, 1, 8, .nilFunc⟩),
  (108, ⟨.func, 1, 8, .nilFunc⟩),
  (109, ⟨.func, 1, 8, .nilFunc⟩),
  (110, ⟨.func, 1, 8, .nilFunc⟩),
  (111, ⟨.func, 1, 8, .nilFunc⟩),
  (112, ⟨.func, 1, 8, .nilFunc⟩),
  (114, ⟨.func, 1, 8, .nilFunc⟩),
  (116, ⟨.func, 1, 8, .nilFunc⟩),
  (117, ⟨.func, 1, 8, .nilFunc⟩),
  (118, ⟨.func, 1, 8, .nilFunc⟩),
  (119, ⟨.slice 5, 1, 24, .nilSlice⟩),
  (120, ⟨.func, 1, 8, .nilFunc⟩),
  (121, ⟨.int .u64, 1, 8, .int .u64 0⟩),
  (122, ⟨.func, 1, 8, .nilFunc⟩),
  (123, ⟨.func, 1, 8, .nilFunc⟩),
  (124, ⟨.func, 1, 8, .nilFunc⟩),
  (126, ⟨.func, 1, 8, .nilFunc⟩),
  (127, ⟨.func, 1, 8, .nilFunc⟩),
  (128, ⟨.func, 1, 8, .nilFunc⟩),
  (129, ⟨.struct [(0, 41), (4, 4)], 5, 56, .agg [.agg [.bool false, .str [], .str [], .int .i64 0], .bool false]⟩),
  (130, ⟨.struct [(0, 41), (4, 4)], 5, 56, .agg [.agg [.bool false, .str [], .str [], .int .i64 0], .bool false]⟩),
  (131, ⟨.func, 1, 8, .nilFunc⟩),
  (132, ⟨.func, 1, 8, .nilFunc⟩),
  (133, ⟨.func, 1, 8, .nilFunc⟩),
  (135, ⟨.func, 1, 8, .nilFunc⟩),
  (136, ⟨.func, 1, 8, .nilFunc⟩),
  (137, ⟨.func, 1, 8, .nilFunc⟩),
  (139, ⟨.func, 1, 8, .nilFunc⟩),
  (140, ⟨.func, 1, 8, .nilFunc⟩),
  (141, ⟨.func, 1, 8, .nilFunc⟩),
  (142, ⟨.func, 1, 8, .nilFunc⟩),
  (144, ⟨.func, 1, 8, .nilFunc⟩),
  (145, ⟨.func, 1, 8, .nilFunc⟩),
  (146, ⟨.func, 1, 8, .nilFunc⟩),
  (148, ⟨.func, 1, 8, .nilFunc⟩),
  (149, ⟨.func, 1, 8, .nilFunc⟩),
  (151, ⟨.func, 1, 8, .nilFunc⟩),
  (152, ⟨.func, 1, 8, .nilFunc⟩),
  (153, ⟨.func, 1, 8, .nilFunc⟩),
  (154, ⟨.func, 1, 8, .nilFunc⟩),
  (155, ⟨.func, 1, 8, .nilFunc⟩),
  (157, ⟨.func, 1, 8, .nilFunc⟩),
  (159, ⟨.func, 1, 8, .nilFunc⟩),
  (160, ⟨.slice 161, 1, 24, .nilSlice⟩),
  (161, ⟨.int .u32, 1, 4, .int .u32 0⟩),
  (162, ⟨.func, 1, 8, .nilFunc⟩),
  (163, ⟨.func, 1, 8, .nilFunc⟩),
  (164, ⟨.func, 1, 8, .nilFunc⟩),
  (165, ⟨.func, 1, 8, .nilFunc⟩),
  (166, ⟨.func, 1, 8, .nilFunc⟩),
  (167, ⟨.func, 1, 8, .nilFunc⟩),
  (168, ⟨.func, 1, 8, .nilFunc⟩),
  (169, ⟨.func, 1, 8, .nilFunc⟩),
  (170, ⟨.func, 1, 8, .nilFunc⟩),
  (172, ⟨.func, 1, 8, .nilFunc⟩),
  (173, ⟨.func, 1, 8, .nilFunc⟩),
  (175, ⟨.func, 1, 8, .nilFunc⟩),
  (177, ⟨.func, 1, 8, .nilFunc⟩),
  (179, ⟨.func, 1, 8, .nilFunc⟩),
  (183, ⟨.func, 1, 8, .nilFunc⟩),
  (184, ⟨.func, 1, 8, .nilFunc⟩),
  (186, ⟨.func, 1, 8, .nilFunc⟩),
  (188, ⟨.func, 1, 8, .nilFunc⟩),
  (189, ⟨.func, 1, 8, .nilFunc⟩),
  (190, ⟨.func, 1, 8, .nilFunc⟩),
  (191, ⟨.struct [(0, 3), (1, 3), (2, 3), (3, 9)], 4, 40, .agg [.int .i64 0, .int .i64 0, .int .i64 0, .str []]⟩),
  (192, ⟨.array 4 191, 16, 160, .agg [.agg [.int .i64 0, .int .i64 0, .int .i64 0, .str []], .agg [.int .i64 0, .int .i64 0, .int .i64 0, .str []], .agg [.int .i64 0, .int .i64 0, .int .i64 0, .str []], .agg [.int .i64 0, .int .i64 0, .int .i64 0, .str []]]⟩),
  (193, ⟨.func, 1, 8, .nilFunc⟩),
  (194, ⟨.func, 1, 8, .nilFunc⟩),
  (195, ⟨.func, 1, 8, .nilFunc⟩),
  (196, ⟨.func, 1, 8, .nilFunc⟩),
  (197, ⟨.struct [(0, 9), (1, 3), (2, 3), (3, 4)], 4, 40, .agg [.str [], .int .i64 0, .int .i64 0, .bool false]⟩),
  (198, ⟨.struct [(0, 9), (1, 3), (2, 3), (3, 4)], 4, 40, .agg [.str [], .int .i64 0, .int .i64 0, .bool false]⟩),
  (199, ⟨.func, 1, 8, .nilFunc⟩),
  (200, ⟨.func, 1, 8, .nilFunc⟩),
  (201, ⟨.func, 1, 8, .nilFunc⟩),
  (202, ⟨.func, 1, 8, .nilFunc⟩),
  (203, ⟨.func, 1, 8, .nilFunc⟩),
  (205, ⟨.func, 1, 8, .nilFunc⟩),
  (206, ⟨.func, 1, 8, .nilFunc⟩),
  (207, ⟨.func, 1, 8, .nilFunc⟩),
  (208, ⟨.func, 1, 8, .nilFunc⟩),
  (209, ⟨.func, 1, 8, .nilFunc⟩),
  (210, ⟨.func, 1, 8, .nilFunc⟩),
  (211, ⟨.func, 1, 8, .nilFunc⟩),
  (212, ⟨.func, 1, 8, .nilFunc⟩),
  (213, ⟨.func, 1, 8, .nilFunc⟩),
  (214, ⟨.func, 1, 8, .nilFunc⟩),
  (216, ⟨.func, 1, 8, .nilFunc⟩),
  (217, ⟨.func, 1, 8, .nilFunc⟩),
  (218, ⟨.func, 1, 8, .nilFunc⟩),
  (219, ⟨.func, 1, 8, .nilFunc⟩),
  (220, ⟨.func, 1, 8, .nilFunc⟩),
  (221, ⟨.array 24 5, 24, 24, .arr .u8 24 (fun _ => 0)⟩),
  (222, ⟨.func, 1, 8, .nilFunc⟩),
  (224, ⟨.func, 1, 8, .nilFunc⟩),
  (225, ⟨.func, 1, 8, .nilFunc⟩),
  (226, ⟨.int .i64, 1, 8, .int .i64 0⟩),
  (228, ⟨.func, 1, 8, .nilFunc⟩),
  (229, ⟨.ptr, 1, 8, .nilPtr⟩),
  (230, ⟨.func, 1, 8, .nilFunc⟩),
  (231, ⟨.func, 1, 8, .nilFunc⟩),
  (232, ⟨.array 64 5, 64, 64, .arr .u8 64 (fun _ => 0)⟩),
  (233, ⟨.func, 1, 8, .nilFunc⟩),
  (234, ⟨.func, 1, 8, .nilFunc⟩),
  (235, ⟨.array 20 24, 20, 160, .arr .u64 20 (fun _ => 0)⟩),
  (236, ⟨.array 65 5, 65, 65, .arr .u8 65 (fun _ => 0)⟩),
  (237, ⟨.func, 1, 8, .nilFunc⟩),
  (239, ⟨.func, 1, 8, .nilFunc⟩),
  (240, ⟨.func, 1, 8, .nilFunc⟩),
  (243, ⟨.func, 1, 8, .nilFunc⟩),
  (244, ⟨.func, 1, 8, .nilFunc⟩),
  (246, ⟨.func, 1, 8, .nilFunc⟩),
  (247, ⟨.func, 1, 8, .nilFunc⟩),
  (248, ⟨.ptr, 1, 8, .nilPtr⟩),
  (249, ⟨.ptr, 1, 8, .nilPtr⟩),
  (250, ⟨.struct [(0, 9)], 1, 16, .agg [.str []]⟩),
  (251, ⟨.struct [(0, 9)], 1, 16, .agg [.str []]⟩),
  (252, ⟨.array 32 5, 32, 32, .arr .u8 32 (fun _ => 0)⟩),
  (253, ⟨.func, 1, 8, .nilFunc⟩),
  (256, ⟨.array 0 16, 0, 0, .agg []⟩),
  (259, ⟨.int .u8, 1, 1, .int .u8 0⟩),
  (260, ⟨.int .u8, 1, 1, .int .u8 0⟩),
  (261, ⟨.func, 1, 8, .nilFunc⟩),
  (262, ⟨.int .i32, 1, 4, .int .i32 0⟩),
  (263, ⟨.int .i32, 1, 4, .int .i32 0⟩)]
theorem tys_ok : AllL (OkTI Tryz.prog) tys :=
  ⟨.of (by kernel_rfl) (by kernel_rfl), .of (by kernel_rfl) (by kernel_rfl), .of (by kernel_rfl) (by kernel_rfl), .of (by kernel_rfl) (by kernel_rfl), .of (by kernel_rfl) (by kernel_rfl), .of (by kernel_rfl) (by kernel_rfl), .of (by kernel_rfl) (by kernel_rfl), .of (by kernel_rfl) (by kernel_rfl), .of (by kernel_rfl) (by kernel_rfl), .of (by kernel_rfl) (by kernel_rfl), .of (by kernel_rfl) (by kernel_rfl), .of (by kernel_rfl) (by kernel_rfl), .of (by kernel_rfl) (by kernel_rfl), .of (by kernel_rfl) (by kernel_rfl), .of (by kernel_rfl) (by kernel_rfl), .of (by kernel_rfl) (by kernel_rfl), .of (by kernel_rfl) (by kernel_rfl), .of (by kernel_rfl) (by kernel_rfl), .of (by kernel_rfl) (by kernel_rfl), .of (by kernel_rfl) (by kernel_rfl), .of (by kernel_rfl) (by kernel_rfl), .of (by kernel_rfl) (by kernel_rfl), .of (by kernel_rfl) (by kernel_rfl), .of (by kernel_rfl) (by kernel_rfl), .of (by kernel_rfl) (by kernel_rfl), .of (by kernel_rfl) (by kernel_rfl), .of (by kernel_rfl) (by kernel_rfl), .of (by kernel_rfl) (by kernel_rfl), .of (by kernel_rfl) (by kernel_rfl), .of (by kernel_rfl) (by kernel_rfl), .of (by kernel_rfl) (by kernel_rfl), .of (by kernel_rfl) (by kernel_rfl), .of (by kernel_rfl) (by kernel_rfl), .of (by kernel_rfl) (by kernel_rfl), .of (by kernel_rfl) (by kernel_rfl), .of (by kernel_rfl) (by kernel_rfl), .of (by kernel_rfl) (by kernel_rfl), .of (by kernel_rfl) (by kernel_rfl), .of (by kernel_rfl) (by kernel_rfl), .of (by kernel_rfl) (by kernel_rfl), .of (by kernel_rfl) (by kernel_rfl), .of (by kernel_rfl) (by kernel_rfl), .of (by kernel_rfl) (by kernel_rfl), .of (by kernel_rfl) (by kernel_rfl), .of (by kernel_rfl) (by kernel_rfl), .of (by kernel_rfl) (by kernel_rfl), .of (by kernel_rfl) (by kernel_rfl), .of (by kernel_rfl) (by kernel_rfl), .of (by kernel_rfl) (by kernel_rfl), .of (by kernel_rfl) (by kernel_rfl), .of (by kernel_rfl) (by kernel_rfl), .of (by kernel_rfl) (by kernel_rfl), .of (by kernel_rfl) (by kernel_rfl), .of (by kernel_rfl) (by kernel_rfl), .of (by kernel_rfl) (by kernel_rfl), .of (by kernel_rfl) (by kernel_rfl), .of (by kernel_rfl) (by kernel_rfl), .of (by kernel_rfl) (by kernel_rfl), .of (by kernel_rfl) (by kernel_rfl), .of (by kernel_rfl) (by kernel_rfl), .of (by kernel_rfl) (by kernel_rfl), .of (by kernel_rfl) (by kernel_rfl), .of (by kernel_rfl) (by kernel_rfl), .of (by kernel_rfl) (by kernel_rfl), .of (by kernel_rfl) (by kernel_rfl), .of (by kernel_rfl) (by kernel_rfl), .of (by kernel_rfl) (by kernel_rfl), .of (by kernel_rfl) (by kernel_rfl), .of (by kernel_rfl) (by kernel_rfl), .of (by kernel_rfl) (by kernel_rfl), .of (by kernel_rfl) (by kernel_rfl), .of (by kernel_rfl) (by kernel_rfl), .of (by kernel_rfl) (by kernel_rfl), .of (by kernel_rfl) (by kernel_rfl), .of (by kernel_rfl) (by kernel_rfl), .of (by kernel_rfl) (by kernel_rfl), .of (by kernel_rfl) (by kernel_rfl), .of (by kernel_rfl) (by kernel_rfl), .of (by kernel_rfl) (by kernel_rfl), .of (by kernel_rfl) (by kernel_rfl), .of (by kernel_rfl) (by kernel_rfl), .of (by kernel_rfl) (by kernel_rfl), .of (by kernel_rfl) (by kernel_rfl), .of (by kernel_rfl) (by kernel_rfl), .of (by kernel_rfl) (by kernel_rfl), .of (by kernel_rfl) (by kernel_rfl), .of (by kernel_rfl) (by kernel_rfl), .of (by kernel_rfl) (by kernel_rfl), .of (by kernel_rfl) (by kernel_rfl), .of (by kernel_rfl) (by kernel_rfl), .of (by kernel_rfl) (by kernel_rfl), .of (by kernel_rfl) (by kernel_rfl), .of (by kernel_rfl) (by kernel_rfl), .of (by kernel_rfl) (by kernel_rfl), .of (by kernel_rfl) (by kernel_rfl), .of (by kernel_rfl) (by kernel_rfl), .of (by kernel_rfl) (by kernel_rfl), .of (by kernel_rfl) (by kernel_rfl), .of (by kernel_rfl) (by kernel_rfl), .of (by kernel_rfl) (by kernel_rfl), .of (by kernel_rfl) (by kernel_rfl), .of (by kernel_rfl) (by kernel_rfl), .of (by kernel_rfl) (by kernel_rfl), .of (by kernel_rfl) (by kernel_rfl), .of (by kernel_rfl) (by kernel_rfl), .of (by kernel_rfl) (by kernel_rfl), .of (by kernel_rfl) (by kernel_rfl), .of (by kernel_rfl) (by kernel_rfl), .of (by kernel_rfl) (by kernel_rfl), .of (by kernel_rfl) (by kernel_rfl), .of (by kernel_rfl) (by kernel_rfl), .of (by kernel_rfl) (by kernel_rfl), .of (by kernel_rfl) (by kernel_rfl), .of (by kernel_rfl) (by kernel_rfl), .of (by kernel_rfl) (by kernel_rfl), .of (by kernel_rfl) (by kernel_rfl), .of (by kernel_rfl) (by kernel_rfl), .of (by kernel_rfl) (by kernel_rfl), .of (by kernel_rfl) (by kernel_rfl), .of (by kernel_rfl) (by kernel_rfl), .of (by kernel_rfl) (by kernel_rfl), .of (by kernel_rfl) (by kernel_rfl), .of (by kernel_rfl) (by kernel_rfl), .of (by kernel_rfl) (by kernel_rfl), .of (by kernel_rfl) (by kernel_rfl), .of (by kernel_rfl) (by kernel_rfl), .of (by kernel_rfl) (by kernel_rfl), .of (by kernel_rfl) (by kernel_rfl), .of (by kernel_rfl) (by kernel_rfl), .of (by kernel_rfl) (by kernel_rfl), .of (by kernel_rfl) (by kernel_rfl), .of (by kernel_rfl) (by kernel_rfl), .of (by kernel_rfl) (by kernel_rfl), .of (by kernel_rfl) (by kernel_rfl), .of (by kernel_rfl) (by kernel_rfl), .of (by kernel_rfl) (by kernel_rfl), .of (by kernel_rfl) (by kernel_rfl), .of (by kernel_rfl) (by kernel_rfl), .of (by kernel_rfl) (by kernel_rfl), .of (by kernel_rfl) (by kernel_rfl), .of (by kernel_rfl) (by kernel_rfl), .of (by kernel_rfl) (by kernel_rfl), .of (by kernel_rfl) (by kernel_rfl), .of (by kernel_rfl) (by kernel_rfl), .of (by kernel_rfl) (by kernel_rfl), .of (by kernel_rfl) (by kernel_rfl), .of (by kernel_rfl) (by kernel_rfl), .of (by kernel_rfl) (by kernel_rfl), .of (by kernel_rfl) (by kernel_rfl), .of (by kernel_rfl) (by kernel_rfl), .of (by kernel_rfl) (by kernel_rfl), .of (by kernel_rfl) (by kernel_rfl), .of (by kernel_rfl) (by kernel_rfl), .of (by kernel_rfl) (by kernel_rfl), .of (by kernel_rfl) (by kernel_rfl), .of (by kernel_rfl) (by kernel_rfl), .of (by kernel_rfl) (by kernel_rfl), .of (by kernel_rfl) (by kernel_rfl), .of (by kernel_rfl) (by kernel_rfl), .of (by kernel_rfl) (by kernel_rfl), .of (by kernel_rfl) (by kernel_rfl), .of (by kernel_rfl) (by kernel_rfl), .of (by kernel_rfl) (by kernel_rfl), .of (by kernel_rfl) (by kernel_rfl), .of (by kernel_rfl) (by kernel_rfl), .of (by kernel_rfl) (by kernel_rfl), .of (by kernel_rfl) (by kernel_rfl), .of (by kernel_rfl) (by kernel_rfl), .of (by kernel_rfl) (by kernel_rfl), .of (by kernel_rfl) (by kernel_rfl), .of (by kernel_rfl) (by kernel_rfl), .of (by kernel_rfl) (by kernel_rfl), .of (by kernel_rfl) (by kernel_rfl), .of (by kernel_rfl) (by kernel_rfl), .of (by kernel_rfl) (by kernel_rfl), .of (by kernel_rfl) (by kernel_rfl), .of (by kernel_rfl) (by kernel_rfl), .of (by kernel_rfl) (by kernel_rfl), .of (by kernel_rfl) (by kernel_rfl), .of (by kernel_rfl) (by kernel_rfl), .of (by kernel_rfl) (by kernel_rfl), .of (by kernel_rfl) (by kernel_rfl), .of (by kernel_rfl) (by kernel_rfl), .of (by kernel_rfl) (by kernel_rfl), .of (by kernel_rfl) (by kernel_rfl), .of (by kernel_rfl) (by kernel_rfl), .of (by kernel_rfl) (by kernel_rfl), .of (by kernel_rfl) (by kernel_rfl), .of (by kernel_rfl) (by kernel_rfl), .of (by kernel_rfl) (by kernel_rfl), .of (by kernel_rfl) (by kernel_rfl), .of (by kernel_rfl) (by kernel_rfl), .of (by kernel_rfl) (by kernel_rfl), .of (by kernel_rfl) (by kernel_rfl), .of (by kernel_rfl) (by kernel_rfl), .of (by kernel_rfl) (by kernel_rfl), .of (by kernel_rfl) (by kernel_rfl), .of (by kernel_rfl) (by kernel_rfl), .of (by kernel_rfl) (by kernel_rfl), .of (by kernel_rfl) (by kernel_rfl), .of (by kernel_rfl) (by kernel_rfl), .of (by kernel_rfl) (by kernel_rfl), .of (by kernel_rfl) (by kernel_rfl), .of (by kernel_rfl) (by kernel_rfl), .of (by kernel_rfl) (by kernel_rfl), .of (by kernel_rfl) (by kernel_rfl), .of (by kernel_rfl) (by kernel_rfl), .of (by kernel_rfl) (by kernel_rfl), .of (by kernel_rfl) (by kernel_rfl), .of (by kernel_rfl) (by kernel_rfl), .of (by kernel_rfl) (by kernel_rfl), trivial⟩
theorem mixed : Tryz.prog.follows .mixedOrders = true := by kernel_rfl
noncomputable def gl : Nat → Option EV := look [(0, .arr .u8 64 tab_deBruijn64tab)]
noncomputable def e_shape_numbers : Entry := ⟨[none], false, fun args H K => match args, H with
  | [.int .u8 a0], [] => shape_numbers a0 (fun y0 y1 y2 y3 => K (EV.tuple [EV.int .i64 y0, EV.int .i64 y1, EV.int .i64 y2, EV.str y3]) [])
  | _, _ => False⟩
noncomputable def E_shape_numbers : Env := ⟨look tys, look [], look [], gl, lookL [], false⟩
theorem X_shape_numbers.eq (a0 : Int) (K : EV → Heap → Prop) : evFn E_shape_numbers Tryz.f103 false [.int .u8 a0] [] K = shape_numbers a0 (fun y0 y1 y2 y3 => K (EV.tuple [EV.int .i64 y0, EV.int .i64 y1, EV.int .i64 y2, EV.str y3]) []) := by
  rw [shape_numbers.is]; exact (evFnQ_eq _ _ _ _ _ _).symm.trans (by kernel_rfl)
theorem X_shape_numbers.ok : SoundE Tryz.prog gl 103 e_shape_numbers := by
  refine fnOK (E := E_shape_numbers) (fn := Tryz.f103) rfl tys_ok rfl (show AllL _ [] from trivial) mixed (by kernel_rfl) (by kernel_rfl) (by kernel_rfl) 0 (by kernel_rfl) false trivial ?_
  intro args H
  by_cases hx : ∃ (a0 : Int), args = [.int .u8 a0] ∧ H = []
  · obtain ⟨a0, rfl, rfl⟩ := hx
    right; intro K
    exact iff_of_eq (X_shape_numbers.eq a0 K).symm
  · left; intro K h
    simp only [e_shape_numbers] at h
    split at h
    · exact hx ⟨_, rfl, rfl⟩
    · exact h
noncomputable def e_shape_Precision : Entry := ⟨[none], false, fun args H K => match args, H with
  | [.int .u8 a0], [] => shape_Precision a0 (fun y0 => K (EV.int .i64 y0) [])
  | _, _ => False⟩
noncomputable def l_shape_Precision : List (Nat × Entry) := [(103, e_shape_numbers)]
noncomputable def E_shape_Precision : Env := ⟨look tys, look l_shape_Precision, look [], gl, lookL [], false⟩
theorem X_shape_Precision.eq (a0 : Int) (K : EV → Heap → Prop) : evFn E_shape_Precision Tryz.f35 false [.int .u8 a0] [] K = shape_Precision a0 (fun y0 => K (EV.int .i64 y0) []) := by
  rw [shape_Precision.is]; exact (evFnQ_eq _ _ _ _ _ _).symm.trans (by kernel_rfl)
theorem X_shape_Precision.ok : SoundE Tryz.prog gl 35 e_shape_Precision := by
  refine fnOK (E := E_shape_Precision) (fn := Tryz.f35) rfl tys_ok rfl (show AllL _ l_shape_Precision from ⟨X_shape_numbers.ok, trivial⟩) mixed (by kernel_rfl) (by kernel_rfl) (by kernel_rfl) 0 (by kernel_rfl) false trivial ?_
  intro args H
  by_cases hx : ∃ (a0 : Int), args = [.int .u8 a0] ∧ H = []
  · obtain ⟨a0, rfl, rfl⟩ := hx
    right; intro K
    exact iff_of_eq (X_shape_Precision.eq a0 K).symm
  · left; intro K h
    simp only [e_shape_Precision] at h
    split at h
    · exact hx ⟨_, rfl, rfl⟩
    · exact h
noncomputable def e_shape_Emax : Entry := ⟨[none], false, fun args H K => match args, H with
  | [.int .u8 a0], [] => shape_Emax a0 (fun y0 => K (EV.int .i64 y0) [])
  | _, _ => False⟩
noncomputable def l_shape_Emax : List (Nat × Entry) := [(103, e_shape_numbers)]
noncomputable def E_shape_Emax : Env := ⟨look tys, look l_shape_Emax, look [], gl, lookL [], false⟩
theorem X_shape_Emax.eq (a0 : Int) (K : EV → Heap → Prop) : evFn E_shape_Emax Tryz.f40 false [.int .u8 a0] [] K = shape_Emax a0 (fun y0 => K (EV.int .i64 y0) []) := by
  rw [shape_Emax.is]; exact (evFnQ_eq _ _ _ _ _ _).symm.trans (by kernel_rfl)
theorem X_shape_Emax.ok : SoundE Tryz.prog gl 40 e_shape_Emax := by
  refine fnOK (E := E_shape_Emax) (fn := Tryz.f40) rfl tys_ok rfl (show AllL _ l_shape_Emax from ⟨X_shape_numbers.ok, trivial⟩) mixed (by kernel_rfl) (by kernel_rfl) (by kernel_rfl) 0 (by kernel_rfl) false trivial ?_
  intro args H
  by_cases hx : ∃ (a0 : Int), args = [.int .u8 a0] ∧ H = []
  · obtain ⟨a0, rfl, rfl⟩ := hx
    right; intro K
    exact iff_of_eq (X_shape_Emax.eq a0 K).symm
  · left; intro K h
    simp only [e_shape_Emax] at h
    split at h
    · exact hx ⟨_, rfl, rfl⟩
    · exact h
noncomputable def e_shape_Check : Entry := ⟨[none], false, fun args H K => match args, H with
  | [.int .u8 a0], [] => shape_Check a0 (fun y0 => K (EV.int .i64 y0) [])
  | _, _ => False⟩
noncomputable def E_shape_Check : Env := ⟨look tys, look [], look [], gl, lookL [], false⟩
theorem X_shape_Check.eq (a0 : Int) (K : EV → Heap → Prop) : evFn E_shape_Check Tryz.f57 false [.int .u8 a0] [] K = shape_Check a0 (fun y0 => K (EV.int .i64 y0) []) := by
  rw [shape_Check.is]; exact (evFnQ_eq _ _ _ _ _ _).symm.trans (by kernel_rfl)
theorem X_shape_Check.ok : SoundE Tryz.prog gl 57 e_shape_Check := by
  refine fnOK (E := E_shape_Check) (fn := Tryz.f57) rfl tys_ok rfl (show AllL _ [] from trivial) mixed (by kernel_rfl) (by kernel_rfl) (by kernel_rfl) 0 (by kernel_rfl) false trivial ?_
  intro args H
  by_cases hx : ∃ (a0 : Int), args = [.int .u8 a0] ∧ H = []
  · obtain ⟨a0, rfl, rfl⟩ := hx
    right; intro K
    exact iff_of_eq (X_shape_Check.eq a0 K).symm
  · left; intro K h
    simp only [e_shape_Check] at h
    split at h
    · exact hx ⟨_, rfl, rfl⟩
    · exact h
noncomputable def e_shape_Emin : Entry := ⟨[none], false, fun args H K => match args, H with
  | [.int .u8 a0], [] => shape_Emin a0 (fun y0 => K (EV.int .i64 y0) [])
  | _, _ => False⟩
noncomputable def l_shape_Emin : List (Nat × Entry) := [(40, e_shape_Emax), (57, e_shape_Check)]
noncomputable def E_shape_Emin : Env := ⟨look tys, look l_shape_Emin, look [], gl, lookL [], false⟩
theorem X_shape_Emin.eq (a0 : Int) (K : EV → Heap → Prop) : evFn E_shape_Emin Tryz.f39 false [.int .u8 a0] [] K = shape_Emin a0 (fun y0 => K (EV.int .i64 y0) []) := by
  rw [shape_Emin.is]; exact (evFnQ_eq _ _ _ _ _ _).symm.trans (by kernel_rfl)
theorem X_shape_Emin.ok : SoundE Tryz.prog gl 39 e_shape_Emin := by
  refine fnOK (E := E_shape_Emin) (fn := Tryz.f39) rfl tys_ok rfl (show AllL _ l_shape_Emin from ⟨X_shape_Emax.ok, X_shape_Check.ok, trivial⟩) mixed (by kernel_rfl) (by kernel_rfl) (by kernel_rfl) 0 (by kernel_rfl) false trivial ?_
  intro args H
  by_cases hx : ∃ (a0 : Int), args = [.int .u8 a0] ∧ H = []
  · obtain ⟨a0, rfl, rfl⟩ := hx
    right; intro K
    exact iff_of_eq (X_shape_Emin.eq a0 K).symm
  · left; intro K h
    simp only [e_shape_Emin] at h
    split at h
    · exact hx ⟨_, rfl, rfl⟩
    · exact h
noncomputable def e_shape_Width : Entry := ⟨[none], false, fun args H K => match args, H with
  | [.int .u8 a0], [] => shape_Width a0 (fun y0 => K (EV.int .i64 y0) [])
  | _, _ => False⟩
noncomputable def l_shape_Width : List (Nat × Entry) := [(103, e_shape_numbers)]
noncomputable def E_shape_Width : Env := ⟨look tys, look l_shape_Width, look [], gl, lookL [], false⟩
theorem X_shape_Width.eq (a0 : Int) (K : EV → Heap → Prop) : evFn E_shape_Width Tryz.f102 false [.int .u8 a0] [] K = shape_Width a0 (fun y0 => K (EV.int .i64 y0) []) := by
  rw [shape_Width.is]; exact (evFnQ_eq _ _ _ _ _ _).symm.trans (by kernel_rfl)
theorem X_shape_Width.ok : SoundE Tryz.prog gl 102 e_shape_Width := by
  refine fnOK (E := E_shape_Width) (fn := Tryz.f102) rfl tys_ok rfl (show AllL _ l_shape_Width from ⟨X_shape_numbers.ok, trivial⟩) mixed (by kernel_rfl) (by kernel_rfl) (by kernel_rfl) 0 (by kernel_rfl) false trivial ?_
  intro args H
  by_cases hx : ∃ (a0 : Int), args = [.int .u8 a0] ∧ H = []
  · obtain ⟨a0, rfl, rfl⟩ := hx
    right; intro K
    exact iff_of_eq (X_shape_Width.eq a0 K).symm
  · left; intro K h
    simp only [e_shape_Width] at h
    split at h
    · exact hx ⟨_, rfl, rfl⟩
    · exact h
noncomputable def e_shape_Fits : Entry := ⟨[none, none], false, fun args H K => match args, H with
  | [.int .u8 a0, .agg [.int .u64 a1_0, .int .u64 a1_1]], [] => shape_Fits a0 a1_0 a1_1 (fun y0 => K (EV.bool y0) [])
  | _, _ => False⟩
noncomputable def l_shape_Fits : List (Nat × Entry) := [(102, e_shape_Width)]
noncomputable def E_shape_Fits : Env := ⟨look tys, look l_shape_Fits, look [], gl, lookL [], false⟩
theorem X_shape_Fits.eq (a0 : Int) (a1_0 : Int) (a1_1 : Int) (K : EV → Heap → Prop) : evFn E_shape_Fits Tryz.f97 false [.int .u8 a0, .agg [.int .u64 a1_0, .int .u64 a1_1]] [] K = shape_Fits a0 a1_0 a1_1 (fun y0 => K (EV.bool y0) []) := by
  rw [shape_Fits.is]; exact (evFnQ_eq _ _ _ _ _ _).symm.trans (by kernel_rfl)
theorem X_shape_Fits.ok : SoundE Tryz.prog gl 97 e_shape_Fits := by
  refine fnOK (E := E_shape_Fits) (fn := Tryz.f97) rfl tys_ok rfl (show AllL _ l_shape_Fits from ⟨X_shape_Width.ok, trivial⟩) mixed (by kernel_rfl) (by kernel_rfl) (by kernel_rfl) 0 (by kernel_rfl) false trivial ?_
  intro args H
  by_cases hx : ∃ (a0 : Int) (a1_0 : Int) (a1_1 : Int), args = [.int .u8 a0, .agg [.int .u64 a1_0, .int .u64 a1_1]] ∧ H = []
  · obtain ⟨a0, a1_0, a1_1, rfl, rfl⟩ := hx
    right; intro K
    exact iff_of_eq (X_shape_Fits.eq a0 a1_0 a1_1 K).symm
  · left; intro K h
    simp only [e_shape_Fits] at h
    split at h
    · exact hx ⟨_, _, _, rfl, rfl⟩
    · exact h
noncomputable def e_wide_Bit : Entry := ⟨[none, none], false, fun args H K => match args, H with
  | [.arr .u64 6 a0, .int .i64 a1], [] => wide_Bit a0 a1 (fun y0 => K (EV.bool y0) [])
  | _, _ => False⟩
noncomputable def E_wide_Bit : Env := ⟨look tys, look [], look [], gl, lookL [], false⟩
theorem X_wide_Bit.eq (a0 : Nat → Int) (a1 : Int) (K : EV → Heap → Prop) : evFn E_wide_Bit Tryz.f62 false [.arr .u64 6 a0, .int .i64 a1] [] K = wide_Bit a0 a1 (fun y0 => K (EV.bool y0) []) := by
  rw [wide_Bit.is]; exact (evFnQ_eq _ _ _ _ _ _).symm.trans (by kernel_rfl)
theorem X_wide_Bit.ok : SoundE Tryz.prog gl 62 e_wide_Bit := by
  refine fnOK (E := E_wide_Bit) (fn := Tryz.f62) rfl tys_ok rfl (show AllL _ [] from trivial) mixed (by kernel_rfl) (by kernel_rfl) (by kernel_rfl) 0 (by kernel_rfl) false trivial ?_
  intro args H
  by_cases hx : ∃ (a0 : Nat → Int) (a1 : Int), args = [.arr .u64 6 a0, .int .i64 a1] ∧ H = []
  · obtain ⟨a0, a1, rfl, rfl⟩ := hx
    right; intro K
    exact iff_of_eq (X_wide_Bit.eq a0 a1 K).symm
  · left; intro K h
    simp only [e_wide_Bit] at h
    split at h
    · exact hx ⟨_, _, rfl, rfl⟩
    · exact h
noncomputable def e_wide_And : Entry := ⟨[none, none], false, fun args H K => match args, H with
  | [.arr .u64 6 a0, .arr .u64 6 a1], [] => wide_And a0 a1 (fun y0 => K (EV.arr .u64 6 y0) [])
  | _, _ => False⟩
noncomputable def E_wide_And : Env := ⟨look tys, look [], look [(2, wide_And.l2.entry)], gl, lookL [], false⟩
theorem wide_And.l2X.stepEq (R : List EV → Heap → Prop) (K : Ex → List EV → Heap → Prop) (x0 : Int) (x1 : Nat → Int) (x2 : Nat → Int) (x3 : Nat → Int) : loopStep (evCode E_wide_And (loopAt Tryz.f64 0) { (LV.mk 20 [(0, 20)] 16 0 false) with nx := live (.loop (loopAt Tryz.f64 0)) (LV.mk 20 [(0, 20)] 16 0 false) }) (live (.loop (loopAt Tryz.f64 0)) (LV.mk 20 [(0, 20)] 16 0 false)) (LV.mk 20 [(0, 20)] 16 0 false) 0 19 R [EV.ptr 0 [], EV.ptr 1 [], EV.ptr 2 [], EV.int .i64 x0] [some (EV.arr .u64 6 x1), some (EV.arr .u64 6 x2), some (EV.arr .u64 6 x3)] K = wide_And.l2.step (fun x0 x1 x2 x3 => R [EV.ptr 0 [], EV.ptr 1 [], EV.ptr 2 [], EV.int .i64 x0] [some (EV.arr .u64 6 x1), some (EV.arr .u64 6 x2), some (EV.arr .u64 6 x3)]) (fun y0 y1 => K (.exit 0) [EV.ptr 0 [], EV.ptr 1 []] [some (EV.arr .u64 6 y0), some (EV.arr .u64 6 y1)]) x0 x1 x2 x3 := (stepQ_eq _ _ _ _ _ _ _ _ _ _ _).symm.trans (by kernel_rfl)
theorem wide_And.l2X.eq (K : Ex → List EV → Heap → Prop) : ∀ (n : Nat) (x0 : Int) (x1 : Nat → Int) (x2 : Nat → Int) (x3 : Nat → Int), loopE E_wide_And (loopAt Tryz.f64 0) (LV.mk 20 [(0, 20)] 16 0 false) 0 19 K n [EV.ptr 0 [], EV.ptr 1 [], EV.ptr 2 [], EV.int .i64 x0] [some (EV.arr .u64 6 x1), some (EV.arr .u64 6 x2), some (EV.arr .u64 6 x3)] = wide_And.l2 (fun y0 y1 => K (.exit 0) [EV.ptr 0 [], EV.ptr 1 []] [some (EV.arr .u64 6 y0), some (EV.arr .u64 6 y1)]) n x0 x1 x2 x3
  | 0, _, _, _, _ => rfl
  | n + 1, x0, x1, x2, x3 => by
    have ih : (fun (x0 : Int) (x1 : Nat → Int) (x2 : Nat → Int) (x3 : Nat → Int) => loopE E_wide_And (loopAt Tryz.f64 0) (LV.mk 20 [(0, 20)] 16 0 false) 0 19 K n [EV.ptr 0 [], EV.ptr 1 [], EV.ptr 2 [], EV.int .i64 x0] [some (EV.arr .u64 6 x1), some (EV.arr .u64 6 x2), some (EV.arr .u64 6 x3)]) = wide_And.l2 (fun y0 y1 => K (.exit 0) [EV.ptr 0 [], EV.ptr 1 []] [some (EV.arr .u64 6 y0), some (EV.arr .u64 6 y1)]) n := by funext x0 x1 x2 x3; exact wide_And.l2X.eq K n x0 x1 x2 x3
    show loopStep _ _ _ _ _ (loopE E_wide_And (loopAt Tryz.f64 0) (LV.mk 20 [(0, 20)] 16 0 false) 0 19 K n) [EV.ptr 0 [], EV.ptr 1 [], EV.ptr 2 [], EV.int .i64 x0] [some (EV.arr .u64 6 x1), some (EV.arr .u64 6 x2), some (EV.arr .u64 6 x3)] K = wide_And.l2.step (wide_And.l2 (fun y0 y1 => K (.exit 0) [EV.ptr 0 [], EV.ptr 1 []] [some (EV.arr .u64 6 y0), some (EV.arr .u64 6 y1)]) n) (fun y0 y1 => K (.exit 0) [EV.ptr 0 [], EV.ptr 1 []] [some (EV.arr .u64 6 y0), some (EV.arr .u64 6 y1)]) x0 x1 x2 x3
    rw [← ih]
    exact wide_And.l2X.stepEq _ K x0 x1 x2 x3
theorem wide_And.l2X.ok : LoopEq E_wide_And (loopAt Tryz.f64 0) := by
  intro L hL vs H
  have h1 : E_wide_And.lp (firstRegion (loopAt Tryz.f64 0)) = some wide_And.l2.entry := by kernel_rfl
  have h2 : L = wide_And.l2.entry := Option.some.inj (hL.symm.trans h1)
  subst h2
  by_cases hx : ∃ (x0 : Int) (x1 : Nat → Int) (x2 : Nat → Int) (x3 : Nat → Int), vs = [EV.ptr 0 [], EV.ptr 1 [], EV.ptr 2 [], EV.int .i64 x0] ∧ H = [some (EV.arr .u64 6 x1), some (EV.arr .u64 6 x2), some (EV.arr .u64 6 x3)]
  · obtain ⟨x0, x1, x2, x3, rfl, rfl⟩ := hx
    right; intro K
    exact exists_congr fun n => iff_of_eq (wide_And.l2X.eq K n x0 x1 x2 x3).symm
  · left; intro K h
    simp only [wide_And.l2.entry] at h
    split at h
    · exact hx ⟨_, _, _, _, rfl, rfl⟩
    · exact h
theorem X_wide_And.eq (a0 : Nat → Int) (a1 : Nat → Int) (K : EV → Heap → Prop) : evFn E_wide_And Tryz.f64 false [.arr .u64 6 a0, .arr .u64 6 a1] [] K = wide_And a0 a1 (fun y0 => K (EV.arr .u64 6 y0) []) := by
  rw [wide_And.is]; exact (evFnQ_eq _ _ _ _ _ _).symm.trans (by kernel_rfl)
theorem X_wide_And.ok : SoundE Tryz.prog gl 64 e_wide_And := by
  refine fnOK (E := E_wide_And) (fn := Tryz.f64) rfl tys_ok rfl (show AllL _ [] from trivial) mixed (by kernel_rfl) (by kernel_rfl) (by kernel_rfl) 1 (by kernel_rfl) false ⟨wide_And.l2X.ok, trivial⟩ ?_
  intro args H
  by_cases hx : ∃ (a0 : Nat → Int) (a1 : Nat → Int), args = [.arr .u64 6 a0, .arr .u64 6 a1] ∧ H = []
  · obtain ⟨a0, a1, rfl, rfl⟩ := hx
    right; intro K
    exact iff_of_eq (X_wide_And.eq a0 a1 K).symm
  · left; intro K h
    simp only [e_wide_And] at h
    split at h
    · exact hx ⟨_, _, rfl, rfl⟩
    · exact h
noncomputable def e_wide_count : Entry := ⟨[none], false, fun args H K => match args, H with
  | [.int .i64 a0], [] => wide_count a0 (fun y0 => K (EV.int .i64 y0) [])
  | _, _ => False⟩
noncomputable def E_wide_count : Env := ⟨look tys, look [], look [], gl, lookL [], false⟩
theorem X_wide_count.eq (a0 : Int) (K : EV → Heap → Prop) : evFn E_wide_count Tryz.f110 false [.int .i64 a0] [] K = wide_count a0 (fun y0 => K (EV.int .i64 y0) []) := by
  rw [wide_count.is]; exact (evFnQ_eq _ _ _ _ _ _).symm.trans (by kernel_rfl)
theorem X_wide_count.ok : SoundE Tryz.prog gl 110 e_wide_count := by
  refine fnOK (E := E_wide_count) (fn := Tryz.f110) rfl tys_ok rfl (show AllL _ [] from trivial) mixed (by kernel_rfl) (by kernel_rfl) (by kernel_rfl) 0 (by kernel_rfl) false trivial ?_
  intro args H
  by_cases hx : ∃ (a0 : Int), args = [.int .i64 a0] ∧ H = []
  · obtain ⟨a0, rfl, rfl⟩ := hx
    right; intro K
    exact iff_of_eq (X_wide_count.eq a0 K).symm
  · left; intro K h
    simp only [e_wide_count] at h
    split at h
    · exact hx ⟨_, rfl, rfl⟩
    · exact h
noncomputable def e_word_count : Entry := ⟨[none], false, fun args H K => match args, H with
  | [.int .i64 a0], [] => word_count a0 (fun y0 => K (EV.int .u64 y0) [])
  | _, _ => False⟩
noncomputable def E_word_count : Env := ⟨look tys, look [], look [], gl, lookL [], false⟩
theorem X_word_count.eq (a0 : Int) (K : EV → Heap → Prop) : evFn E_word_count Tryz.f184 false [.int .i64 a0] [] K = word_count a0 (fun y0 => K (EV.int .u64 y0) []) := by
  rw [word_count.is]; exact (evFnQ_eq _ _ _ _ _ _).symm.trans (by kernel_rfl)
theorem X_word_count.ok : SoundE Tryz.prog gl 184 e_word_count := by
  refine fnOK (E := E_word_count) (fn := Tryz.f184) rfl tys_ok rfl (show AllL _ [] from trivial) mixed (by kernel_rfl) (by kernel_rfl) (by kernel_rfl) 0 (by kernel_rfl) false trivial ?_
  intro args H
  by_cases hx : ∃ (a0 : Int), args = [.int .i64 a0] ∧ H = []
  · obtain ⟨a0, rfl, rfl⟩ := hx
    right; intro K
    exact iff_of_eq (X_word_count.eq a0 K).symm
  · left; intro K h
    simp only [e_word_count] at h
    split at h
    · exact hx ⟨_, rfl, rfl⟩
    · exact h
noncomputable def e_word_Mask : Entry := ⟨[none], false, fun args H K => match args, H with
  | [.int .i64 a0], [] => word_Mask a0 (fun y0 => K (EV.int .u64 y0) [])
  | _, _ => False⟩
noncomputable def l_word_Mask : List (Nat × Entry) := [(184, e_word_count)]
noncomputable def E_word_Mask : Env := ⟨look tys, look l_word_Mask, look [], gl, lookL [], false⟩
theorem X_word_Mask.eq (a0 : Int) (K : EV → Heap → Prop) : evFn E_word_Mask Tryz.f135 false [.int .i64 a0] [] K = word_Mask a0 (fun y0 => K (EV.int .u64 y0) []) := by
  rw [word_Mask.is]; exact (evFnQ_eq _ _ _ _ _ _).symm.trans (by kernel_rfl)
theorem X_word_Mask.ok : SoundE Tryz.prog gl 135 e_word_Mask := by
  refine fnOK (E := E_word_Mask) (fn := Tryz.f135) rfl tys_ok rfl (show AllL _ l_word_Mask from ⟨X_word_count.ok, trivial⟩) mixed (by kernel_rfl) (by kernel_rfl) (by kernel_rfl) 0 (by kernel_rfl) false trivial ?_
  intro args H
  by_cases hx : ∃ (a0 : Int), args = [.int .i64 a0] ∧ H = []
  · obtain ⟨a0, rfl, rfl⟩ := hx
    right; intro K
    exact iff_of_eq (X_word_Mask.eq a0 K).symm
  · left; intro K h
    simp only [e_word_Mask] at h
    split at h
    · exact hx ⟨_, rfl, rfl⟩
    · exact h
noncomputable def e_wide_Mask : Entry := ⟨[none], false, fun args H K => match args, H with
  | [.int .i64 a0], [] => wide_Mask a0 (fun y0 => K (EV.arr .u64 6 y0) [])
  | _, _ => False⟩
noncomputable def l_wide_Mask : List (Nat × Entry) := [(110, e_wide_count), (135, e_word_Mask)]
noncomputable def E_wide_Mask : Env := ⟨look tys, look l_wide_Mask, look [(4, wide_Mask.l4.entry)], gl, lookL [], false⟩
theorem wide_Mask.l4X.stepEq (R : List EV → Heap → Prop) (K : Ex → List EV → Heap → Prop) (x0 : Int) (x1 : Int) (x2 : Nat → Int) (x3 : Nat → Int) : loopStep (evCode E_wide_Mask (loopAt Tryz.f65 0) { (LV.mk 12 [(0, 12)] 4 0 false) with nx := live (.loop (loopAt Tryz.f65 0)) (LV.mk 12 [(0, 12)] 4 0 false) }) (live (.loop (loopAt Tryz.f65 0)) (LV.mk 12 [(0, 12)] 4 0 false)) (LV.mk 12 [(0, 12)] 4 0 false) 0 19 R [EV.int .i64 x0, EV.ptr 0 [], EV.ptr 1 [], EV.int .i64 x1] [some (EV.arr .u64 6 x2), some (EV.arr .u64 6 x3)] K = wide_Mask.l4.step (fun x0 x1 x2 x3 => R [EV.int .i64 x0, EV.ptr 0 [], EV.ptr 1 [], EV.int .i64 x1] [some (EV.arr .u64 6 x2), some (EV.arr .u64 6 x3)]) (fun y0 y1 => K (.exit 0) [EV.ptr 0 [], EV.ptr 1 []] [some (EV.arr .u64 6 y0), some (EV.arr .u64 6 y1)]) x0 x1 x2 x3 := (stepQ_eq _ _ _ _ _ _ _ _ _ _ _).symm.trans (by kernel_rfl)
theorem wide_Mask.l4X.eq (K : Ex → List EV → Heap → Prop) : ∀ (n : Nat) (x0 : Int) (x1 : Int) (x2 : Nat → Int) (x3 : Nat → Int), loopE E_wide_Mask (loopAt Tryz.f65 0) (LV.mk 12 [(0, 12)] 4 0 false) 0 19 K n [EV.int .i64 x0, EV.ptr 0 [], EV.ptr 1 [], EV.int .i64 x1] [some (EV.arr .u64 6 x2), some (EV.arr .u64 6 x3)] = wide_Mask.l4 (fun y0 y1 => K (.exit 0) [EV.ptr 0 [], EV.ptr 1 []] [some (EV.arr .u64 6 y0), some (EV.arr .u64 6 y1)]) n x0 x1 x2 x3
  | 0, _, _, _, _ => rfl
  | n + 1, x0, x1, x2, x3 => by
    have ih : (fun (x0 : Int) (x1 : Int) (x2 : Nat → Int) (x3 : Nat → Int) => loopE E_wide_Mask (loopAt Tryz.f65 0) (LV.mk 12 [(0, 12)] 4 0 false) 0 19 K n [EV.int .i64 x0, EV.ptr 0 [], EV.ptr 1 [], EV.int .i64 x1] [some (EV.arr .u64 6 x2), some (EV.arr .u64 6 x3)]) = wide_Mask.l4 (fun y0 y1 => K (.exit 0) [EV.ptr 0 [], EV.ptr 1 []] [some (EV.arr .u64 6 y0), some (EV.arr .u64 6 y1)]) n := by funext x0 x1 x2 x3; exact wide_Mask.l4X.eq K n x0 x1 x2 x3
    show loopStep _ _ _ _ _ (loopE E_wide_Mask (loopAt Tryz.f65 0) (LV.mk 12 [(0, 12)] 4 0 false) 0 19 K n) [EV.int .i64 x0, EV.ptr 0 [], EV.ptr 1 [], EV.int .i64 x1] [some (EV.arr .u64 6 x2), some (EV.arr .u64 6 x3)] K = wide_Mask.l4.step (wide_Mask.l4 (fun y0 y1 => K (.exit 0) [EV.ptr 0 [], EV.ptr 1 []] [some (EV.arr .u64 6 y0), some (EV.arr .u64 6 y1)]) n) (fun y0 y1 => K (.exit 0) [EV.ptr 0 [], EV.ptr 1 []] [some (EV.arr .u64 6 y0), some (EV.arr .u64 6 y1)]) x0 x1 x2 x3
    rw [← ih]
    exact wide_Mask.l4X.stepEq _ K x0 x1 x2 x3
theorem wide_Mask.l4X.ok : LoopEq E_wide_Mask (loopAt Tryz.f65 0) := by
  intro L hL vs H
  have h1 : E_wide_Mask.lp (firstRegion (loopAt Tryz.f65 0)) = some wide_Mask.l4.entry := by kernel_rfl
  have h2 : L = wide_Mask.l4.entry := Option.some.inj (hL.symm.trans h1)
  subst h2
  by_cases hx : ∃ (x0 : Int) (x1 : Int) (x2 : Nat → Int) (x3 : Nat → Int), vs = [EV.int .i64 x0, EV.ptr 0 [], EV.ptr 1 [], EV.int .i64 x1] ∧ H = [some (EV.arr .u64 6 x2), some (EV.arr .u64 6 x3)]
  · obtain ⟨x0, x1, x2, x3, rfl, rfl⟩ := hx
    right; intro K
    exact exists_congr fun n => iff_of_eq (wide_Mask.l4X.eq K n x0 x1 x2 x3).symm
  · left; intro K h
    simp only [wide_Mask.l4.entry] at h
    split at h
    · exact hx ⟨_, _, _, _, rfl, rfl⟩
    · exact h
theorem X_wide_Mask.eq (a0 : Int) (K : EV → Heap → Prop) : evFn E_wide_Mask Tryz.f65 false [.int .i64 a0] [] K = wide_Mask a0 (fun y0 => K (EV.arr .u64 6 y0) []) := by
  rw [wide_Mask.is]; exact (evFnQ_eq _ _ _ _ _ _).symm.trans (by kernel_rfl)
theorem X_wide_Mask.ok : SoundE Tryz.prog gl 65 e_wide_Mask := by
  refine fnOK (E := E_wide_Mask) (fn := Tryz.f65) rfl tys_ok rfl (show AllL _ l_wide_Mask from ⟨X_wide_count.ok, X_word_Mask.ok, trivial⟩) mixed (by kernel_rfl) (by kernel_rfl) (by kernel_rfl) 1 (by kernel_rfl) false ⟨wide_Mask.l4X.ok, trivial⟩ ?_
  intro args H
  by_cases hx : ∃ (a0 : Int), args = [.int .i64 a0] ∧ H = []
  · obtain ⟨a0, rfl, rfl⟩ := hx
    right; intro K
    exact iff_of_eq (X_wide_Mask.eq a0 K).symm
  · left; intro K h
    simp only [e_wide_Mask] at h
    split at h
    · exact hx ⟨_, rfl, rfl⟩
    · exact h
noncomputable def e_wide_OfBits : Entry := ⟨[none], false, fun args H K => match args, H with
  | [.agg [.int .u64 a0_0, .int .u64 a0_1]], [] => wide_OfBits a0_0 a0_1 (fun y0 => K (EV.arr .u64 6 y0) [])
  | _, _ => False⟩
noncomputable def E_wide_OfBits : Env := ⟨look tys, look [], look [], gl, lookL [], false⟩
theorem X_wide_OfBits.eq (a0_0 : Int) (a0_1 : Int) (K : EV → Heap → Prop) : evFn E_wide_OfBits Tryz.f101 false [.agg [.int .u64 a0_0, .int .u64 a0_1]] [] K = wide_OfBits a0_0 a0_1 (fun y0 => K (EV.arr .u64 6 y0) []) := by
  rw [wide_OfBits.is]; exact (evFnQ_eq _ _ _ _ _ _).symm.trans (by kernel_rfl)
theorem X_wide_OfBits.ok : SoundE Tryz.prog gl 101 e_wide_OfBits := by
  refine fnOK (E := E_wide_OfBits) (fn := Tryz.f101) rfl tys_ok rfl (show AllL _ [] from trivial) mixed (by kernel_rfl) (by kernel_rfl) (by kernel_rfl) 0 (by kernel_rfl) false trivial ?_
  intro args H
  by_cases hx : ∃ (a0_0 : Int) (a0_1 : Int), args = [.agg [.int .u64 a0_0, .int .u64 a0_1]] ∧ H = []
  · obtain ⟨a0_0, a0_1, rfl, rfl⟩ := hx
    right; intro K
    exact iff_of_eq (X_wide_OfBits.eq a0_0 a0_1 K).symm
  · left; intro K h
    simp only [e_wide_OfBits] at h
    split at h
    · exact hx ⟨_, _, rfl, rfl⟩
    · exact h
noncomputable def e_bits_TrailingZeros64 : Entry := ⟨[none], false, fun args H K => match args, H with
  | [.int .u64 a0], [] => bits_TrailingZeros64 a0 (fun y0 => K (EV.int .i64 y0) [])
  | _, _ => False⟩
noncomputable def E_bits_TrailingZeros64 : Env := ⟨look tys, look [], look [], gl, lookL [], false⟩
theorem X_bits_TrailingZeros64.eq (a0 : Int) (K : EV → Heap → Prop) : evFn E_bits_TrailingZeros64 Tryz.f199 false [.int .u64 a0] [] K = bits_TrailingZeros64 a0 (fun y0 => K (EV.int .i64 y0) []) := by
  rw [bits_TrailingZeros64.is]; exact (evFnQ_eq _ _ _ _ _ _).symm.trans (by kernel_rfl)
theorem X_bits_TrailingZeros64.ok : SoundE Tryz.prog gl 199 e_bits_TrailingZeros64 := by
  refine fnOK (E := E_bits_TrailingZeros64) (fn := Tryz.f199) rfl tys_ok rfl (show AllL _ [] from trivial) mixed (by kernel_rfl) (by kernel_rfl) (by kernel_rfl) 0 (by kernel_rfl) false trivial ?_
  intro args H
  by_cases hx : ∃ (a0 : Int), args = [.int .u64 a0] ∧ H = []
  · obtain ⟨a0, rfl, rfl⟩ := hx
    right; intro K
    exact iff_of_eq (X_bits_TrailingZeros64.eq a0 K).symm
  · left; intro K h
    simp only [e_bits_TrailingZeros64] at h
    split at h
    · exact hx ⟨_, rfl, rfl⟩
    · exact h
noncomputable def e_word_Low : Entry := ⟨[none], false, fun args H K => match args, H with
  | [.int .u64 a0], [] => word_Low a0 (fun y0 => K (EV.int .i64 y0) [])
  | _, _ => False⟩
noncomputable def l_word_Low : List (Nat × Entry) := [(199, e_bits_TrailingZeros64)]
noncomputable def E_word_Low : Env := ⟨look tys, look l_word_Low, look [], gl, lookL [], false⟩
theorem X_word_Low.eq (a0 : Int) (K : EV → Heap → Prop) : evFn E_word_Low Tryz.f173 false [.int .u64 a0] [] K = word_Low a0 (fun y0 => K (EV.int .i64 y0) []) := by
  rw [word_Low.is]; exact (evFnQ_eq _ _ _ _ _ _).symm.trans (by kernel_rfl)
theorem X_word_Low.ok : SoundE Tryz.prog gl 173 e_word_Low := by
  refine fnOK (E := E_word_Low) (fn := Tryz.f173) rfl tys_ok rfl (show AllL _ l_word_Low from ⟨X_bits_TrailingZeros64.ok, trivial⟩) mixed (by kernel_rfl) (by kernel_rfl) (by kernel_rfl) 0 (by kernel_rfl) false trivial ?_
  intro args H
  by_cases hx : ∃ (a0 : Int), args = [.int .u64 a0] ∧ H = []
  · obtain ⟨a0, rfl, rfl⟩ := hx
    right; intro K
    exact iff_of_eq (X_word_Low.eq a0 K).symm
  · left; intro K h
    simp only [e_word_Low] at h
    split at h
    · exact hx ⟨_, rfl, rfl⟩
    · exact h
noncomputable def e_wide_Low : Entry := ⟨[none], false, fun args H K => match args, H with
  | [.arr .u64 6 a0], [] => wide_Low a0 (fun y0 => K (EV.int .i64 y0) [])
  | _, _ => False⟩
noncomputable def l_wide_Low : List (Nat × Entry) := [(173, e_word_Low)]
noncomputable def E_wide_Low : Env := ⟨look tys, look l_wide_Low, look [(2, wide_Low.l2.entry)], gl, lookL [], false⟩
theorem wide_Low.l2X.stepEq (R : List EV → Heap → Prop) (K : Ex → List EV → Heap → Prop) (x0 : Nat → Int) (x1 : Int) : loopStep (evCode E_wide_Low (loopAt Tryz.f194 0) { (LV.mk 0 [(0, 0)] 4 0 false) with nx := live (.loop (loopAt Tryz.f194 0)) (LV.mk 0 [(0, 0)] 4 0 false) }) (live (.loop (loopAt Tryz.f194 0)) (LV.mk 0 [(0, 0)] 4 0 false)) (LV.mk 0 [(0, 0)] 4 0 false) 0 18 R [EV.arr .u64 6 x0, EV.int .i64 x1] [] K = wide_Low.l2.step (fun x0 x1 => R [EV.arr .u64 6 x0, EV.int .i64 x1] []) (fun y0 => K .ret [EV.int .i64 y0] []) (K (.exit 0) [] []) x0 x1 := (stepQ_eq _ _ _ _ _ _ _ _ _ _ _).symm.trans (by kernel_rfl)
theorem wide_Low.l2X.eq (K : Ex → List EV → Heap → Prop) : ∀ (n : Nat) (x0 : Nat → Int) (x1 : Int), loopE E_wide_Low (loopAt Tryz.f194 0) (LV.mk 0 [(0, 0)] 4 0 false) 0 18 K n [EV.arr .u64 6 x0, EV.int .i64 x1] [] = wide_Low.l2 (fun y0 => K .ret [EV.int .i64 y0] []) (K (.exit 0) [] []) n x0 x1
  | 0, _, _ => rfl
  | n + 1, x0, x1 => by
    have ih : (fun (x0 : Nat → Int) (x1 : Int) => loopE E_wide_Low (loopAt Tryz.f194 0) (LV.mk 0 [(0, 0)] 4 0 false) 0 18 K n [EV.arr .u64 6 x0, EV.int .i64 x1] []) = wide_Low.l2 (fun y0 => K .ret [EV.int .i64 y0] []) (K (.exit 0) [] []) n := by funext x0 x1; exact wide_Low.l2X.eq K n x0 x1
    show loopStep _ _ _ _ _ (loopE E_wide_Low (loopAt Tryz.f194 0) (LV.mk 0 [(0, 0)] 4 0 false) 0 18 K n) [EV.arr .u64 6 x0, EV.int .i64 x1] [] K = wide_Low.l2.step (wide_Low.l2 (fun y0 => K .ret [EV.int .i64 y0] []) (K (.exit 0) [] []) n) (fun y0 => K .ret [EV.int .i64 y0] []) (K (.exit 0) [] []) x0 x1
    rw [← ih]
    exact wide_Low.l2X.stepEq _ K x0 x1
theorem wide_Low.l2X.ok : LoopEq E_wide_Low (loopAt Tryz.f194 0) := by
  intro L hL vs H
  have h1 : E_wide_Low.lp (firstRegion (loopAt Tryz.f194 0)) = some wide_Low.l2.entry := by kernel_rfl
  have h2 : L = wide_Low.l2.entry := Option.some.inj (hL.symm.trans h1)
  subst h2
  by_cases hx : ∃ (x0 : Nat → Int) (x1 : Int), vs = [EV.arr .u64 6 x0, EV.int .i64 x1] ∧ H = []
  · obtain ⟨x0, x1, rfl, rfl⟩ := hx
    right; intro K
    exact exists_congr fun n => iff_of_eq (wide_Low.l2X.eq K n x0 x1).symm
  · left; intro K h
    simp only [wide_Low.l2.entry] at h
    split at h
    · exact hx ⟨_, _, rfl, rfl⟩
    · exact h
theorem X_wide_Low.eq (a0 : Nat → Int) (K : EV → Heap → Prop) : evFn E_wide_Low Tryz.f194 false [.arr .u64 6 a0] [] K = wide_Low a0 (fun y0 => K (EV.int .i64 y0) []) := by
  rw [wide_Low.is]; exact (evFnQ_eq _ _ _ _ _ _).symm.trans (by kernel_rfl)
theorem X_wide_Low.ok : SoundE Tryz.prog gl 194 e_wide_Low := by
  refine fnOK (E := E_wide_Low) (fn := Tryz.f194) rfl tys_ok rfl (show AllL _ l_wide_Low from ⟨X_word_Low.ok, trivial⟩) mixed (by kernel_rfl) (by kernel_rfl) (by kernel_rfl) 1 (by kernel_rfl) false ⟨wide_Low.l2X.ok, trivial⟩ ?_
  intro args H
  by_cases hx : ∃ (a0 : Nat → Int), args = [.arr .u64 6 a0] ∧ H = []
  · obtain ⟨a0, rfl, rfl⟩ := hx
    right; intro K
    exact iff_of_eq (X_wide_Low.eq a0 K).symm
  · left; intro K h
    simp only [e_wide_Low] at h
    split at h
    · exact hx ⟨_, rfl, rfl⟩
    · exact h
noncomputable def e_wide_Right : Entry := ⟨[none, none], false, fun args H K => match args, H with
  | [.arr .u64 6 a0, .int .i64 a1], [] => wide_Right a0 a1 (fun y0 y1 => K (EV.tuple [EV.arr .u64 6 y0, EV.bool y1]) [])
  | _, _ => False⟩
noncomputable def l_wide_Right : List (Nat × Entry) := [(110, e_wide_count), (194, e_wide_Low)]
noncomputable def E_wide_Right : Env := ⟨look tys, look l_wide_Right, look [(5, wide_Right.l5.entry)], gl, lookL [], false⟩
theorem wide_Right.l5X.stepEq (R : List EV → Heap → Prop) (K : Ex → List EV → Heap → Prop) (x0 : Bool) (x1 : Int) (x2 : Int) (x3 : Int) (x4 : Nat → Int) (x5 : Nat → Int) : loopStep (evCode E_wide_Right (loopAt Tryz.f163 0) { (LV.mk 48 [(0, 48)] 48 0 false) with nx := live (.loop (loopAt Tryz.f163 0)) (LV.mk 48 [(0, 48)] 48 0 false) }) (live (.loop (loopAt Tryz.f163 0)) (LV.mk 48 [(0, 48)] 48 0 false)) (LV.mk 48 [(0, 48)] 48 0 false) 0 60 R [EV.ptr 0 [], EV.ptr 1 [], EV.bool x0, EV.int .i64 x1, EV.int .u64 x2, EV.int .i64 x3] [some (EV.arr .u64 6 x4), some (EV.arr .u64 6 x5)] K = wide_Right.l5.step (fun x0 x1 x2 x3 x4 x5 => R [EV.ptr 0 [], EV.ptr 1 [], EV.bool x0, EV.int .i64 x1, EV.int .u64 x2, EV.int .i64 x3] [some (EV.arr .u64 6 x4), some (EV.arr .u64 6 x5)]) (fun y0 y1 => K (.exit 0) [EV.ptr 0 [], EV.bool y0] [some (EV.arr .u64 6 y1)]) x0 x1 x2 x3 x4 x5 := (stepQ_eq _ _ _ _ _ _ _ _ _ _ _).symm.trans (by kernel_rfl)
theorem wide_Right.l5X.eq (K : Ex → List EV → Heap → Prop) : ∀ (n : Nat) (x0 : Bool) (x1 : Int) (x2 : Int) (x3 : Int) (x4 : Nat → Int) (x5 : Nat → Int), loopE E_wide_Right (loopAt Tryz.f163 0) (LV.mk 48 [(0, 48)] 48 0 false) 0 60 K n [EV.ptr 0 [], EV.ptr 1 [], EV.bool x0, EV.int .i64 x1, EV.int .u64 x2, EV.int .i64 x3] [some (EV.arr .u64 6 x4), some (EV.arr .u64 6 x5)] = wide_Right.l5 (fun y0 y1 => K (.exit 0) [EV.ptr 0 [], EV.bool y0] [some (EV.arr .u64 6 y1)]) n x0 x1 x2 x3 x4 x5
  | 0, _, _, _, _, _, _ => rfl
  | n + 1, x0, x1, x2, x3, x4, x5 => by
    have ih : (fun (x0 : Bool) (x1 : Int) (x2 : Int) (x3 : Int) (x4 : Nat → Int) (x5 : Nat → Int) => loopE E_wide_Right (loopAt Tryz.f163 0) (LV.mk 48 [(0, 48)] 48 0 false) 0 60 K n [EV.ptr 0 [], EV.ptr 1 [], EV.bool x0, EV.int .i64 x1, EV.int .u64 x2, EV.int .i64 x3] [some (EV.arr .u64 6 x4), some (EV.arr .u64 6 x5)]) = wide_Right.l5 (fun y0 y1 => K (.exit 0) [EV.ptr 0 [], EV.bool y0] [some (EV.arr .u64 6 y1)]) n := by funext x0 x1 x2 x3 x4 x5; exact wide_Right.l5X.eq K n x0 x1 x2 x3 x4 x5
    show loopStep _ _ _ _ _ (loopE E_wide_Right (loopAt Tryz.f163 0) (LV.mk 48 [(0, 48)] 48 0 false) 0 60 K n) [EV.ptr 0 [], EV.ptr 1 [], EV.bool x0, EV.int .i64 x1, EV.int .u64 x2, EV.int .i64 x3] [some (EV.arr .u64 6 x4), some (EV.arr .u64 6 x5)] K = wide_Right.l5.step (wide_Right.l5 (fun y0 y1 => K (.exit 0) [EV.ptr 0 [], EV.bool y0] [some (EV.arr .u64 6 y1)]) n) (fun y0 y1 => K (.exit 0) [EV.ptr 0 [], EV.bool y0] [some (EV.arr .u64 6 y1)]) x0 x1 x2 x3 x4 x5
    rw [← ih]
    exact wide_Right.l5X.stepEq _ K x0 x1 x2 x3 x4 x5
theorem wide_Right.l5X.ok : LoopEq E_wide_Right (loopAt Tryz.f163 0) := by
  intro L hL vs H
  have h1 : E_wide_Right.lp (firstRegion (loopAt Tryz.f163 0)) = some wide_Right.l5.entry := by kernel_rfl
  have h2 : L = wide_Right.l5.entry := Option.some.inj (hL.symm.trans h1)
  subst h2
  by_cases hx : ∃ (x0 : Bool) (x1 : Int) (x2 : Int) (x3 : Int) (x4 : Nat → Int) (x5 : Nat → Int), vs = [EV.ptr 0 [], EV.ptr 1 [], EV.bool x0, EV.int .i64 x1, EV.int .u64 x2, EV.int .i64 x3] ∧ H = [some (EV.arr .u64 6 x4), some (EV.arr .u64 6 x5)]
  · obtain ⟨x0, x1, x2, x3, x4, x5, rfl, rfl⟩ := hx
    right; intro K
    exact exists_congr fun n => iff_of_eq (wide_Right.l5X.eq K n x0 x1 x2 x3 x4 x5).symm
  · left; intro K h
    simp only [wide_Right.l5.entry] at h
    split at h
    · exact hx ⟨_, _, _, _, _, _, rfl, rfl⟩
    · exact h
theorem X_wide_Right.eq (a0 : Nat → Int) (a1 : Int) (K : EV → Heap → Prop) : evFn E_wide_Right Tryz.f163 false [.arr .u64 6 a0, .int .i64 a1] [] K = wide_Right a0 a1 (fun y0 y1 => K (EV.tuple [EV.arr .u64 6 y0, EV.bool y1]) []) := by
  rw [wide_Right.is]; exact (evFnQ_eq _ _ _ _ _ _).symm.trans (by kernel_rfl)
theorem X_wide_Right.ok : SoundE Tryz.prog gl 163 e_wide_Right := by
  refine fnOK (E := E_wide_Right) (fn := Tryz.f163) rfl tys_ok rfl (show AllL _ l_wide_Right from ⟨X_wide_count.ok, X_wide_Low.ok, trivial⟩) mixed (by kernel_rfl) (by kernel_rfl) (by kernel_rfl) 1 (by kernel_rfl) false ⟨wide_Right.l5X.ok, trivial⟩ ?_
  intro args H
  by_cases hx : ∃ (a0 : Nat → Int) (a1 : Int), args = [.arr .u64 6 a0, .int .i64 a1] ∧ H = []
  · obtain ⟨a0, a1, rfl, rfl⟩ := hx
    right; intro K
    exact iff_of_eq (X_wide_Right.eq a0 a1 K).symm
  · left; intro K h
    simp only [e_wide_Right] at h
    split at h
    · exact hx ⟨_, _, rfl, rfl⟩
    · exact h
noncomputable def e_kind_fields : Entry := ⟨[none, none], false, fun args H K => match args, H with
  | [.int .u8 a0, .agg [.int .u64 a1_0, .int .u64 a1_1]], [] => kind_fields a0 a1_0 a1_1 (fun y0 y1 y2 => K (EV.tuple [EV.bool y0, EV.int .i64 y1, EV.arr .u64 6 y2]) [])
  | _, _ => False⟩
noncomputable def l_kind_fields : List (Nat × Entry) := [(35, e_shape_Precision), (62, e_wide_Bit), (64, e_wide_And), (65, e_wide_Mask), (101, e_wide_OfBits), (102, e_shape_Width), (163, e_wide_Right)]
noncomputable def E_kind_fields : Env := ⟨look tys, look l_kind_fields, look [], gl, lookL [], false⟩
theorem X_kind_fields.eq (a0 : Int) (a1_0 : Int) (a1_1 : Int) (K : EV → Heap → Prop) : evFn E_kind_fields Tryz.f98 false [.int .u8 a0, .agg [.int .u64 a1_0, .int .u64 a1_1]] [] K = kind_fields a0 a1_0 a1_1 (fun y0 y1 y2 => K (EV.tuple [EV.bool y0, EV.int .i64 y1, EV.arr .u64 6 y2]) []) := by
  rw [kind_fields.is]; exact (evFnQ_eq _ _ _ _ _ _).symm.trans (by kernel_rfl)
theorem X_kind_fields.ok : SoundE Tryz.prog gl 98 e_kind_fields := by
  refine fnOK (E := E_kind_fields) (fn := Tryz.f98) rfl tys_ok rfl (show AllL _ l_kind_fields from ⟨X_shape_Precision.ok, X_wide_Bit.ok, X_wide_And.ok, X_wide_Mask.ok, X_wide_OfBits.ok, X_shape_Width.ok, X_wide_Right.ok, trivial⟩) mixed (by kernel_rfl) (by kernel_rfl) (by kernel_rfl) 0 (by kernel_rfl) false trivial ?_
  intro args H
  by_cases hx : ∃ (a0 : Int) (a1_0 : Int) (a1_1 : Int), args = [.int .u8 a0, .agg [.int .u64 a1_0, .int .u64 a1_1]] ∧ H = []
  · obtain ⟨a0, a1_0, a1_1, rfl, rfl⟩ := hx
    right; intro K
    exact iff_of_eq (X_kind_fields.eq a0 a1_0 a1_1 K).symm
  · left; intro K h
    simp only [e_kind_fields] at h
    split at h
    · exact hx ⟨_, _, _, rfl, rfl⟩
    · exact h
noncomputable def e_kind_class : Entry := ⟨[none, none], false, fun args H K => match args, H with
  | [.int .u8 a0, .agg [.int .u64 a1_0, .int .u64 a1_1]], [] => kind_class a0 a1_0 a1_1 (fun y0 => K (EV.int .u8 y0) [])
  | _, _ => False⟩
noncomputable def l_kind_class : List (Nat × Entry) := [(35, e_shape_Precision), (40, e_shape_Emax), (62, e_wide_Bit), (98, e_kind_fields)]
noncomputable def E_kind_class : Env := ⟨look tys, look l_kind_class, look [], gl, lookL [], false⟩
theorem X_kind_class.eq (a0 : Int) (a1_0 : Int) (a1_1 : Int) (K : EV → Heap → Prop) : evFn E_kind_class Tryz.f99 false [.int .u8 a0, .agg [.int .u64 a1_0, .int .u64 a1_1]] [] K = kind_class a0 a1_0 a1_1 (fun y0 => K (EV.int .u8 y0) []) := by
  rw [kind_class.is]; exact (evFnQ_eq _ _ _ _ _ _).symm.trans (by kernel_rfl)
theorem X_kind_class.ok : SoundE Tryz.prog gl 99 e_kind_class := by
  refine fnOK (E := E_kind_class) (fn := Tryz.f99) rfl tys_ok rfl (show AllL _ l_kind_class from ⟨X_shape_Precision.ok, X_shape_Emax.ok, X_wide_Bit.ok, X_kind_fields.ok, trivial⟩) mixed (by kernel_rfl) (by kernel_rfl) (by kernel_rfl) 0 (by kernel_rfl) false trivial ?_
  intro args H
  by_cases hx : ∃ (a0 : Int) (a1_0 : Int) (a1_1 : Int), args = [.int .u8 a0, .agg [.int .u64 a1_0, .int .u64 a1_1]] ∧ H = []
  · obtain ⟨a0, a1_0, a1_1, rfl, rfl⟩ := hx
    right; intro K
    exact iff_of_eq (X_kind_class.eq a0 a1_0 a1_1 K).symm
  · left; intro K h
    simp only [e_kind_class] at h
    split at h
    · exact hx ⟨_, _, _, rfl, rfl⟩
    · exact h
noncomputable def e_kind_Unpack : Entry := ⟨[none, none], false, fun args H K => match args, H with
  | [.int .u8 a0, .agg [.int .u64 a1_0, .int .u64 a1_1]], [] => kind_Unpack a0 a1_0 a1_1 (fun y0 y1 y2 y3 y4 => K (EV.tuple [EV.agg [EV.int .u8 y0, EV.arr .u64 6 y1, EV.int .i64 y2, EV.arr .u64 6 y3], EV.int .i64 y4]) [])
  | _, _ => False⟩
noncomputable def l_kind_Unpack : List (Nat × Entry) := [(35, e_shape_Precision), (39, e_shape_Emin), (97, e_shape_Fits), (98, e_kind_fields), (99, e_kind_class)]
noncomputable def E_kind_Unpack : Env := ⟨look tys, look l_kind_Unpack, look [], gl, lookL [], false⟩
theorem X_kind_Unpack.eq (a0 : Int) (a1_0 : Int) (a1_1 : Int) (K : EV → Heap → Prop) : evFn E_kind_Unpack Tryz.f31 false [.int .u8 a0, .agg [.int .u64 a1_0, .int .u64 a1_1]] [] K = kind_Unpack a0 a1_0 a1_1 (fun y0 y1 y2 y3 y4 => K (EV.tuple [EV.agg [EV.int .u8 y0, EV.arr .u64 6 y1, EV.int .i64 y2, EV.arr .u64 6 y3], EV.int .i64 y4]) []) := by
  rw [kind_Unpack.is]; exact (evFnQ_eq _ _ _ _ _ _).symm.trans (by kernel_rfl)
theorem X_kind_Unpack.ok : SoundE Tryz.prog gl 31 e_kind_Unpack := by
  refine fnOK (E := E_kind_Unpack) (fn := Tryz.f31) rfl tys_ok rfl (show AllL _ l_kind_Unpack from ⟨X_shape_Precision.ok, X_shape_Emin.ok, X_shape_Fits.ok, X_kind_fields.ok, X_kind_class.ok, trivial⟩) mixed (by kernel_rfl) (by kernel_rfl) (by kernel_rfl) 0 (by kernel_rfl) false trivial ?_
  intro args H
  by_cases hx : ∃ (a0 : Int) (a1_0 : Int) (a1_1 : Int), args = [.int .u8 a0, .agg [.int .u64 a1_0, .int .u64 a1_1]] ∧ H = []
  · obtain ⟨a0, a1_0, a1_1, rfl, rfl⟩ := hx
    right; intro K
    exact iff_of_eq (X_kind_Unpack.eq a0 a1_0 a1_1 K).symm
  · left; intro K h
    simp only [e_kind_Unpack] at h
    split at h
    · exact hx ⟨_, _, _, rfl, rfl⟩
    · exact h
noncomputable def e_nat_Check : Entry := ⟨[none], false, fun args H K => match args, H with
  | [.str a0], [] => nat_Check a0 (fun y0 => K (EV.int .i64 y0) [])
  | _, _ => False⟩
noncomputable def E_nat_Check : Env := ⟨look tys, look [], look [], gl, lookL [], false⟩
theorem X_nat_Check.eq (a0 : List UInt8) (K : EV → Heap → Prop) : evFn E_nat_Check Tryz.f114 false [.str a0] [] K = nat_Check a0 (fun y0 => K (EV.int .i64 y0) []) := by
  rw [nat_Check.is]; exact (evFnQ_eq _ _ _ _ _ _).symm.trans (by kernel_rfl)
theorem X_nat_Check.ok : SoundE Tryz.prog gl 114 e_nat_Check := by
  refine fnOK (E := E_nat_Check) (fn := Tryz.f114) rfl tys_ok rfl (show AllL _ [] from trivial) mixed (by kernel_rfl) (by kernel_rfl) (by kernel_rfl) 0 (by kernel_rfl) false trivial ?_
  intro args H
  by_cases hx : ∃ (a0 : List UInt8), args = [.str a0] ∧ H = []
  · obtain ⟨a0, rfl, rfl⟩ := hx
    right; intro K
    exact iff_of_eq (X_nat_Check.eq a0 K).symm
  · left; intro K h
    simp only [e_nat_Check] at h
    split at h
    · exact hx ⟨_, rfl, rfl⟩
    · exact h
noncomputable def e_exact_within : Entry := ⟨[none], false, fun args H K => match args, H with
  | [.int .i64 a0], [] => exact_within a0 (fun y0 => K (EV.bool y0) [])
  | _, _ => False⟩
noncomputable def E_exact_within : Env := ⟨look tys, look [], look [], gl, lookL [], false⟩
theorem X_exact_within.eq (a0 : Int) (K : EV → Heap → Prop) : evFn E_exact_within Tryz.f115 false [.int .i64 a0] [] K = exact_within a0 (fun y0 => K (EV.bool y0) []) := by
  rw [exact_within.is]; exact (evFnQ_eq _ _ _ _ _ _).symm.trans (by kernel_rfl)
theorem X_exact_within.ok : SoundE Tryz.prog gl 115 e_exact_within := by
  refine fnOK (E := E_exact_within) (fn := Tryz.f115) rfl tys_ok rfl (show AllL _ [] from trivial) mixed (by kernel_rfl) (by kernel_rfl) (by kernel_rfl) 0 (by kernel_rfl) false trivial ?_
  intro args H
  by_cases hx : ∃ (a0 : Int), args = [.int .i64 a0] ∧ H = []
  · obtain ⟨a0, rfl, rfl⟩ := hx
    right; intro K
    exact iff_of_eq (X_exact_within.eq a0 K).symm
  · left; intro K h
    simp only [e_exact_within] at h
    split at h
    · exact hx ⟨_, rfl, rfl⟩
    · exact h
noncomputable def e_exact_null : Entry := ⟨[], false, fun args H K => match args, H with
  | [], [] => exact_null  (fun y0 y1 y2 y3 => K (EV.agg [EV.bool y0, EV.str y1, EV.str y2, EV.int .i64 y3]) [])
  | _, _ => False⟩
noncomputable def E_exact_null : Env := ⟨look tys, look [], look [], gl, lookL [], false⟩
theorem X_exact_null.eq (K : EV → Heap → Prop) : evFn E_exact_null Tryz.f116 false [] [] K = exact_null  (fun y0 y1 y2 y3 => K (EV.agg [EV.bool y0, EV.str y1, EV.str y2, EV.int .i64 y3]) []) := by
  rw [exact_null.is]; exact (evFnQ_eq _ _ _ _ _ _).symm.trans (by kernel_rfl)
theorem X_exact_null.ok : SoundE Tryz.prog gl 116 e_exact_null := by
  refine fnOK (E := E_exact_null) (fn := Tryz.f116) rfl tys_ok rfl (show AllL _ [] from trivial) mixed (by kernel_rfl) (by kernel_rfl) (by kernel_rfl) 0 (by kernel_rfl) false trivial ?_
  intro args H
  by_cases hx : args = [] ∧ H = []
  · obtain ⟨rfl, rfl⟩ := hx
    right; intro K
    exact iff_of_eq (X_exact_null.eq  K).symm
  · left; intro K h
    simp only [e_exact_null] at h
    split at h
    · exact hx ⟨rfl, rfl⟩
    · exact h
noncomputable def e_nat_Low : Entry := ⟨[none], false, fun args H K => match args, H with
  | [.str a0], [] => nat_Low a0 (fun y0 => K (EV.int .i64 y0) [])
  | _, _ => False⟩
noncomputable def l_nat_Low : List (Nat × Entry) := [(114, e_nat_Check), (173, e_word_Low)]
noncomputable def E_nat_Low : Env := ⟨look tys, look l_nat_Low, look [(4, nat_Low.l4.entry)], gl, lookL [], false⟩
theorem nat_Low.l4X.stepEq (R : List EV → Heap → Prop) (K : Ex → List EV → Heap → Prop) (x0 : List UInt8) (x1 : Int) : loopStep (evCode E_nat_Low (loopAt Tryz.f117 0) { (LV.mk 0 [(0, 0)] 4 0 false) with nx := live (.loop (loopAt Tryz.f117 0)) (LV.mk 0 [(0, 0)] 4 0 false) }) (live (.loop (loopAt Tryz.f117 0)) (LV.mk 0 [(0, 0)] 4 0 false)) (LV.mk 0 [(0, 0)] 4 0 false) 0 30 R [EV.str x0, EV.int .i64 x1] [] K = nat_Low.l4.step (fun x0 x1 => R [EV.str x0, EV.int .i64 x1] []) (fun y0 => K .ret [EV.int .i64 y0] []) (K (.exit 0) [] []) x0 x1 := (stepQ_eq _ _ _ _ _ _ _ _ _ _ _).symm.trans (by kernel_rfl)
theorem nat_Low.l4X.eq (K : Ex → List EV → Heap → Prop) : ∀ (n : Nat) (x0 : List UInt8) (x1 : Int), loopE E_nat_Low (loopAt Tryz.f117 0) (LV.mk 0 [(0, 0)] 4 0 false) 0 30 K n [EV.str x0, EV.int .i64 x1] [] = nat_Low.l4 (fun y0 => K .ret [EV.int .i64 y0] []) (K (.exit 0) [] []) n x0 x1
  | 0, _, _ => rfl
  | n + 1, x0, x1 => by
    have ih : (fun (x0 : List UInt8) (x1 : Int) => loopE E_nat_Low (loopAt Tryz.f117 0) (LV.mk 0 [(0, 0)] 4 0 false) 0 30 K n [EV.str x0, EV.int .i64 x1] []) = nat_Low.l4 (fun y0 => K .ret [EV.int .i64 y0] []) (K (.exit 0) [] []) n := by funext x0 x1; exact nat_Low.l4X.eq K n x0 x1
    show loopStep _ _ _ _ _ (loopE E_nat_Low (loopAt Tryz.f117 0) (LV.mk 0 [(0, 0)] 4 0 false) 0 30 K n) [EV.str x0, EV.int .i64 x1] [] K = nat_Low.l4.step (nat_Low.l4 (fun y0 => K .ret [EV.int .i64 y0] []) (K (.exit 0) [] []) n) (fun y0 => K .ret [EV.int .i64 y0] []) (K (.exit 0) [] []) x0 x1
    rw [← ih]
    exact nat_Low.l4X.stepEq _ K x0 x1
theorem nat_Low.l4X.ok : LoopEq E_nat_Low (loopAt Tryz.f117 0) := by
  intro L hL vs H
  have h1 : E_nat_Low.lp (firstRegion (loopAt Tryz.f117 0)) = some nat_Low.l4.entry := by kernel_rfl
  have h2 : L = nat_Low.l4.entry := Option.some.inj (hL.symm.trans h1)
  subst h2
  by_cases hx : ∃ (x0 : List UInt8) (x1 : Int), vs = [EV.str x0, EV.int .i64 x1] ∧ H = []
  · obtain ⟨x0, x1, rfl, rfl⟩ := hx
    right; intro K
    exact exists_congr fun n => iff_of_eq (nat_Low.l4X.eq K n x0 x1).symm
  · left; intro K h
    simp only [nat_Low.l4.entry] at h
    split at h
    · exact hx ⟨_, _, rfl, rfl⟩
    · exact h
theorem X_nat_Low.eq (a0 : List UInt8) (K : EV → Heap → Prop) : evFn E_nat_Low Tryz.f117 false [.str a0] [] K = nat_Low a0 (fun y0 => K (EV.int .i64 y0) []) := by
  rw [nat_Low.is]; exact (evFnQ_eq _ _ _ _ _ _).symm.trans (by kernel_rfl)
theorem X_nat_Low.ok : SoundE Tryz.prog gl 117 e_nat_Low := by
  refine fnOK (E := E_nat_Low) (fn := Tryz.f117) rfl tys_ok rfl (show AllL _ l_nat_Low from ⟨X_nat_Check.ok, X_word_Low.ok, trivial⟩) mixed (by kernel_rfl) (by kernel_rfl) (by kernel_rfl) 1 (by kernel_rfl) false ⟨nat_Low.l4X.ok, trivial⟩ ?_
  intro args H
  by_cases hx : ∃ (a0 : List UInt8), args = [.str a0] ∧ H = []
  · obtain ⟨a0, rfl, rfl⟩ := hx
    right; intro K
    exact iff_of_eq (X_nat_Low.eq a0 K).symm
  · left; intro K h
    simp only [e_nat_Low] at h
    split at h
    · exact hx ⟨_, rfl, rfl⟩
    · exact h
noncomputable def e_nat_cut_r : Entry := ⟨[none], true, fun args H K => match args, H with
  | [.rsI .u32 a0n a0], [] => nat_cut_r a0n a0 (fun y0 y1 => K (EV.rsI .u32 y0 y1) [])
  | _, _ => False⟩
noncomputable def e_nat_cut_o : Entry := ⟨[none], true, fun args H K => match args, H with
  | [.slice 0 0 a0l (some a0c) 1], [some (.arr .u32 a0n a0)] => nat_cut_o a0l a0c a0n a0 (fun y0 y1 y2 y3 => K (EV.slice 0 0 y0 (some y1) 1) [some (EV.arr .u32 y2 y3)])
  | _, _ => False⟩
noncomputable def e_nat_cut_n : Entry := ⟨[none], true, fun args H K => match args, H with
  | [.slice 0 0 a0l none 1], [some (.arr .u32 a0n a0)] => nat_cut_n a0l a0n a0 (fun y0 y1 y2 => K (EV.slice 0 0 y0 none 1) [some (EV.arr .u32 y1 y2)])
  | _, _ => False⟩
noncomputable def e_nat_cut : Entry := Entry.pick (fun args H => match args, H with | [.rsI .u32 a0n a0], [] => true | _, _ => false) e_nat_cut_r (Entry.pick (fun args H => match args, H with | [.slice 0 0 a0l (some a0c) 1], [some (.arr .u32 a0n a0)] => true | _, _ => false) e_nat_cut_o (e_nat_cut_n))
noncomputable def E_nat_cut_r : Env := ⟨look tys, look [], look [(1, nat_cut_r.l1.entry)], gl, lookL [], false⟩
theorem nat_cut_r.l1X.stepEq (R : List EV → Heap → Prop) (K : Ex → List EV → Heap → Prop) (x0 : Nat) (x1 : Nat → Int) : loopStep (evCode E_nat_cut_r (loopAt Tryz.f177 0) { (LV.mk 1 [(0, 1)] 4 0 false) with nx := live (.loop (loopAt Tryz.f177 0)) (LV.mk 1 [(0, 1)] 4 0 false) }) (live (.loop (loopAt Tryz.f177 0)) (LV.mk 1 [(0, 1)] 4 0 false)) (LV.mk 1 [(0, 1)] 4 0 false) 0 21 R [EV.rsI .u32 x0 x1] [] K = nat_cut_r.l1.step (fun x0 x1 => R [EV.rsI .u32 x0 x1] []) (fun y0 y1 => K (.exit 0) [EV.rsI .u32 y0 y1] []) x0 x1 := (stepQ_eq _ _ _ _ _ _ _ _ _ _ _).symm.trans (by kernel_rfl)
theorem nat_cut_r.l1X.eq (K : Ex → List EV → Heap → Prop) : ∀ (n : Nat) (x0 : Nat) (x1 : Nat → Int), loopE E_nat_cut_r (loopAt Tryz.f177 0) (LV.mk 1 [(0, 1)] 4 0 false) 0 21 K n [EV.rsI .u32 x0 x1] [] = nat_cut_r.l1 (fun y0 y1 => K (.exit 0) [EV.rsI .u32 y0 y1] []) n x0 x1
  | 0, _, _ => rfl
  | n + 1, x0, x1 => by
    have ih : (fun (x0 : Nat) (x1 : Nat → Int) => loopE E_nat_cut_r (loopAt Tryz.f177 0) (LV.mk 1 [(0, 1)] 4 0 false) 0 21 K n [EV.rsI .u32 x0 x1] []) = nat_cut_r.l1 (fun y0 y1 => K (.exit 0) [EV.rsI .u32 y0 y1] []) n := by funext x0 x1; exact nat_cut_r.l1X.eq K n x0 x1
    show loopStep _ _ _ _ _ (loopE E_nat_cut_r (loopAt Tryz.f177 0) (LV.mk 1 [(0, 1)] 4 0 false) 0 21 K n) [EV.rsI .u32 x0 x1] [] K = nat_cut_r.l1.step (nat_cut_r.l1 (fun y0 y1 => K (.exit 0) [EV.rsI .u32 y0 y1] []) n) (fun y0 y1 => K (.exit 0) [EV.rsI .u32 y0 y1] []) x0 x1
    rw [← ih]
    exact nat_cut_r.l1X.stepEq _ K x0 x1
theorem nat_cut_r.l1X.ok : LoopEq E_nat_cut_r (loopAt Tryz.f177 0) := by
  intro L hL vs H
  have h1 : E_nat_cut_r.lp (firstRegion (loopAt Tryz.f177 0)) = some nat_cut_r.l1.entry := by kernel_rfl
  have h2 : L = nat_cut_r.l1.entry := Option.some.inj (hL.symm.trans h1)
  subst h2
  by_cases hx : ∃ (x0 : Nat) (x1 : Nat → Int), vs = [EV.rsI .u32 x0 x1] ∧ H = []
  · obtain ⟨x0, x1, rfl, rfl⟩ := hx
    right; intro K
    exact exists_congr fun n => iff_of_eq (nat_cut_r.l1X.eq K n x0 x1).symm
  · left; intro K h
    simp only [nat_cut_r.l1.entry] at h
    split at h
    · exact hx ⟨_, _, rfl, rfl⟩
    · exact h
theorem X_nat_cut_r.eq (a0n : Nat) (a0 : Nat → Int) (K : EV → Heap → Prop) : evFn E_nat_cut_r Tryz.f177 true [.rsI .u32 a0n a0] [] K = nat_cut_r a0n a0 (fun y0 y1 => K (EV.rsI .u32 y0 y1) []) := by
  rw [nat_cut_r.is]; exact (evFnQ_eq _ _ _ _ _ _).symm.trans (by kernel_rfl)
theorem X_nat_cut_r.ok : SoundE Tryz.prog gl 177 e_nat_cut_r := by
  refine fnOK (E := E_nat_cut_r) (fn := Tryz.f177) rfl tys_ok rfl (show AllL _ [] from trivial) mixed (by kernel_rfl) (by kernel_rfl) (by kernel_rfl) 1 (by kernel_rfl) true ⟨nat_cut_r.l1X.ok, trivial⟩ ?_
  intro args H
  by_cases hx : ∃ (a0n : Nat) (a0 : Nat → Int), args = [.rsI .u32 a0n a0] ∧ H = []
  · obtain ⟨a0n, a0, rfl, rfl⟩ := hx
    right; intro K
    exact iff_of_eq (X_nat_cut_r.eq a0n a0 K).symm
  · left; intro K h
    simp only [e_nat_cut_r] at h
    split at h
    · exact hx ⟨_, _, rfl, rfl⟩
    · exact h
noncomputable def E_nat_cut_o : Env := ⟨look tys, look [], look [(1, nat_cut_o.l1.entry)], gl, lookL [], false⟩
theorem nat_cut_o.l1X.stepEq (R : List EV → Heap → Prop) (K : Ex → List EV → Heap → Prop) (x0 : Nat) (x1 : Nat) (x2 : Nat) (x3 : Nat → Int) : loopStep (evCode E_nat_cut_o (loopAt Tryz.f177 0) { (LV.mk 1 [(0, 1)] 4 1 false) with nx := live (.loop (loopAt Tryz.f177 0)) (LV.mk 1 [(0, 1)] 4 1 false) }) (live (.loop (loopAt Tryz.f177 0)) (LV.mk 1 [(0, 1)] 4 1 false)) (LV.mk 1 [(0, 1)] 4 1 false) 1 21 R [EV.slice 0 0 x0 (some x1) 1] [some (EV.arr .u32 x2 x3)] K = nat_cut_o.l1.step (fun x0 x1 x2 x3 => R [EV.slice 0 0 x0 (some x1) 1] [some (EV.arr .u32 x2 x3)]) (fun y0 y1 y2 y3 => K (.exit 0) [EV.slice 0 0 y0 (some y1) 1] [some (EV.arr .u32 y2 y3)]) x0 x1 x2 x3 := (stepQ_eq _ _ _ _ _ _ _ _ _ _ _).symm.trans (by kernel_rfl)
theorem nat_cut_o.l1X.eq (K : Ex → List EV → Heap → Prop) : ∀ (n : Nat) (x0 : Nat) (x1 : Nat) (x2 : Nat) (x3 : Nat → Int), loopE E_nat_cut_o (loopAt Tryz.f177 0) (LV.mk 1 [(0, 1)] 4 1 false) 1 21 K n [EV.slice 0 0 x0 (some x1) 1] [some (EV.arr .u32 x2 x3)] = nat_cut_o.l1 (fun y0 y1 y2 y3 => K (.exit 0) [EV.slice 0 0 y0 (some y1) 1] [some (EV.arr .u32 y2 y3)]) n x0 x1 x2 x3
  | 0, _, _, _, _ => rfl
  | n + 1, x0, x1, x2, x3 => by
    have ih : (fun (x0 : Nat) (x1 : Nat) (x2 : Nat) (x3 : Nat → Int) => loopE E_nat_cut_o (loopAt Tryz.f177 0) (LV.mk 1 [(0, 1)] 4 1 false) 1 21 K n [EV.slice 0 0 x0 (some x1) 1] [some (EV.arr .u32 x2 x3)]) = nat_cut_o.l1 (fun y0 y1 y2 y3 => K (.exit 0) [EV.slice 0 0 y0 (some y1) 1] [some (EV.arr .u32 y2 y3)]) n := by funext x0 x1 x2 x3; exact nat_cut_o.l1X.eq K n x0 x1 x2 x3
    show loopStep _ _ _ _ _ (loopE E_nat_cut_o (loopAt Tryz.f177 0) (LV.mk 1 [(0, 1)] 4 1 false) 1 21 K n) [EV.slice 0 0 x0 (some x1) 1] [some (EV.arr .u32 x2 x3)] K = nat_cut_o.l1.step (nat_cut_o.l1 (fun y0 y1 y2 y3 => K (.exit 0) [EV.slice 0 0 y0 (some y1) 1] [some (EV.arr .u32 y2 y3)]) n) (fun y0 y1 y2 y3 => K (.exit 0) [EV.slice 0 0 y0 (some y1) 1] [some (EV.arr .u32 y2 y3)]) x0 x1 x2 x3
    rw [← ih]
    exact nat_cut_o.l1X.stepEq _ K x0 x1 x2 x3
theorem nat_cut_o.l1X.ok : LoopEq E_nat_cut_o (loopAt Tryz.f177 0) := by
  intro L hL vs H
  have h1 : E_nat_cut_o.lp (firstRegion (loopAt Tryz.f177 0)) = some nat_cut_o.l1.entry := by kernel_rfl
  have h2 : L = nat_cut_o.l1.entry := Option.some.inj (hL.symm.trans h1)
  subst h2
  by_cases hx : ∃ (x0 : Nat) (x1 : Nat) (x2 : Nat) (x3 : Nat → Int), vs = [EV.slice 0 0 x0 (some x1) 1] ∧ H = [some (EV.arr .u32 x2 x3)]
  · obtain ⟨x0, x1, x2, x3, rfl, rfl⟩ := hx
    right; intro K
    exact exists_congr fun n => iff_of_eq (nat_cut_o.l1X.eq K n x0 x1 x2 x3).symm
  · left; intro K h
    simp only [nat_cut_o.l1.entry] at h
    split at h
    · exact hx ⟨_, _, _, _, rfl, rfl⟩
    · exact h
theorem X_nat_cut_o.eq (a0l : Nat) (a0c : Nat) (a0n : Nat) (a0 : Nat → Int) (K : EV → Heap → Prop) : evFn E_nat_cut_o Tryz.f177 true [.slice 0 0 a0l (some a0c) 1] [some (.arr .u32 a0n a0)] K = nat_cut_o a0l a0c a0n a0 (fun y0 y1 y2 y3 => K (EV.slice 0 0 y0 (some y1) 1) [some (EV.arr .u32 y2 y3)]) := by
  rw [nat_cut_o.is]; exact (evFnQ_eq _ _ _ _ _ _).symm.trans (by kernel_rfl)
theorem X_nat_cut_o.ok : SoundE Tryz.prog gl 177 e_nat_cut_o := by
  refine fnOK (E := E_nat_cut_o) (fn := Tryz.f177) rfl tys_ok rfl (show AllL _ [] from trivial) mixed (by kernel_rfl) (by kernel_rfl) (by kernel_rfl) 1 (by kernel_rfl) true ⟨nat_cut_o.l1X.ok, trivial⟩ ?_
  intro args H
  by_cases hx : ∃ (a0l : Nat) (a0c : Nat) (a0n : Nat) (a0 : Nat → Int), args = [.slice 0 0 a0l (some a0c) 1] ∧ H = [some (.arr .u32 a0n a0)]
  · obtain ⟨a0l, a0c, a0n, a0, rfl, rfl⟩ := hx
    right; intro K
    exact iff_of_eq (X_nat_cut_o.eq a0l a0c a0n a0 K).symm
  · left; intro K h
    simp only [e_nat_cut_o] at h
    split at h
    · exact hx ⟨_, _, _, _, rfl, rfl⟩
    · exact h
noncomputable def E_nat_cut_n : Env := ⟨look tys, look [], look [(1, nat_cut_n.l1.entry)], gl, lookL [], false⟩
theorem nat_cut_n.l1X.stepEq (R : List EV → Heap → Prop) (K : Ex → List EV → Heap → Prop) (x0 : Nat) (x1 : Nat) (x2 : Nat → Int) : loopStep (evCode E_nat_cut_n (loopAt Tryz.f177 0) { (LV.mk 1 [(0, 1)] 4 1 false) with nx := live (.loop (loopAt Tryz.f177 0)) (LV.mk 1 [(0, 1)] 4 1 false) }) (live (.loop (loopAt Tryz.f177 0)) (LV.mk 1 [(0, 1)] 4 1 false)) (LV.mk 1 [(0, 1)] 4 1 false) 1 21 R [EV.slice 0 0 x0 none 1] [some (EV.arr .u32 x1 x2)] K = nat_cut_n.l1.step (fun x0 x1 x2 => R [EV.slice 0 0 x0 none 1] [some (EV.arr .u32 x1 x2)]) (fun y0 y1 y2 => K (.exit 0) [EV.slice 0 0 y0 none 1] [some (EV.arr .u32 y1 y2)]) x0 x1 x2 := (stepQ_eq _ _ _ _ _ _ _ _ _ _ _).symm.trans (by kernel_rfl)
theorem nat_cut_n.l1X.eq (K : Ex → List EV → Heap → Prop) : ∀ (n : Nat) (x0 : Nat) (x1 : Nat) (x2 : Nat → Int), loopE E_nat_cut_n (loopAt Tryz.f177 0) (LV.mk 1 [(0, 1)] 4 1 false) 1 21 K n [EV.slice 0 0 x0 none 1] [some (EV.arr .u32 x1 x2)] = nat_cut_n.l1 (fun y0 y1 y2 => K (.exit 0) [EV.slice 0 0 y0 none 1] [some (EV.arr .u32 y1 y2)]) n x0 x1 x2
  | 0, _, _, _ => rfl
  | n + 1, x0, x1, x2 => by
    have ih : (fun (x0 : Nat) (x1 : Nat) (x2 : Nat → Int) => loopE E_nat_cut_n (loopAt Tryz.f177 0) (LV.mk 1 [(0, 1)] 4 1 false) 1 21 K n [EV.slice 0 0 x0 none 1] [some (EV.arr .u32 x1 x2)]) = nat_cut_n.l1 (fun y0 y1 y2 => K (.exit 0) [EV.slice 0 0 y0 none 1] [some (EV.arr .u32 y1 y2)]) n := by funext x0 x1 x2; exact nat_cut_n.l1X.eq K n x0 x1 x2
    show loopStep _ _ _ _ _ (loopE E_nat_cut_n (loopAt Tryz.f177 0) (LV.mk 1 [(0, 1)] 4 1 false) 1 21 K n) [EV.slice 0 0 x0 none 1] [some (EV.arr .u32 x1 x2)] K = nat_cut_n.l1.step (nat_cut_n.l1 (fun y0 y1 y2 => K (.exit 0) [EV.slice 0 0 y0 none 1] [some (EV.arr .u32 y1 y2)]) n) (fun y0 y1 y2 => K (.exit 0) [EV.slice 0 0 y0 none 1] [some (EV.arr .u32 y1 y2)]) x0 x1 x2
    rw [← ih]
    exact nat_cut_n.l1X.stepEq _ K x0 x1 x2
theorem nat_cut_n.l1X.ok : LoopEq E_nat_cut_n (loopAt Tryz.f177 0) := by
  intro L hL vs H
  have h1 : E_nat_cut_n.lp (firstRegion (loopAt Tryz.f177 0)) = some nat_cut_n.l1.entry := by kernel_rfl
  have h2 : L = nat_cut_n.l1.entry := Option.some.inj (hL.symm.trans h1)
  subst h2
  by_cases hx : ∃ (x0 : Nat) (x1 : Nat) (x2 : Nat → Int), vs = [EV.slice 0 0 x0 none 1] ∧ H = [some (EV.arr .u32 x1 x2)]
  · obtain ⟨x0, x1, x2, rfl, rfl⟩ := hx
    right; intro K
    exact exists_congr fun n => iff_of_eq (nat_cut_n.l1X.eq K n x0 x1 x2).symm
  · left; intro K h
    simp only [nat_cut_n.l1.entry] at h
    split at h
    · exact hx ⟨_, _, _, rfl, rfl⟩
    · exact h
theorem X_nat_cut_n.eq (a0l : Nat) (a0n : Nat) (a0 : Nat → Int) (K : EV → Heap → Prop) : evFn E_nat_cut_n Tryz.f177 true [.slice 0 0 a0l none 1] [some (.arr .u32 a0n a0)] K = nat_cut_n a0l a0n a0 (fun y0 y1 y2 => K (EV.slice 0 0 y0 none 1) [some (EV.arr .u32 y1 y2)]) := by
  rw [nat_cut_n.is]; exact (evFnQ_eq _ _ _ _ _ _).symm.trans (by kernel_rfl)
theorem X_nat_cut_n.ok : SoundE Tryz.prog gl 177 e_nat_cut_n := by
  refine fnOK (E := E_nat_cut_n) (fn := Tryz.f177) rfl tys_ok rfl (show AllL _ [] from trivial) mixed (by kernel_rfl) (by kernel_rfl) (by kernel_rfl) 1 (by kernel_rfl) true ⟨nat_cut_n.l1X.ok, trivial⟩ ?_
  intro args H
  by_cases hx : ∃ (a0l : Nat) (a0n : Nat) (a0 : Nat → Int), args = [.slice 0 0 a0l none 1] ∧ H = [some (.arr .u32 a0n a0)]
  · obtain ⟨a0l, a0n, a0, rfl, rfl⟩ := hx
    right; intro K
    exact iff_of_eq (X_nat_cut_n.eq a0l a0n a0 K).symm
  · left; intro K h
    simp only [e_nat_cut_n] at h
    split at h
    · exact hx ⟨_, _, _, rfl, rfl⟩
    · exact h
theorem X_nat_cut.ok : SoundE Tryz.prog gl 177 e_nat_cut := SoundE.pick X_nat_cut_r.ok (SoundE.pick X_nat_cut_o.ok (X_nat_cut_n.ok))
noncomputable def e_nat_number : Entry := ⟨[some .u32], false, fun args H K => match args, H with
  | [.rsI .u32 a0n a0], [] => nat_number a0n a0 (fun y0 => K (EV.str y0) [])
  | _, _ => False⟩
noncomputable def l_nat_number : List (Nat × Entry) := [(177, e_nat_cut)]
noncomputable def E_nat_number : Env := ⟨look tys, look l_nat_number, look [(4, nat_number.l4.entry), (8, nat_number.l8.entry)], gl, lookL [], false⟩
theorem nat_number.l4X.stepEq (R : List EV → Heap → Prop) (K : Ex → List EV → Heap → Prop) (x0 : Nat) (x1 : Nat → Int) (x2 : Nat) (x3 : Nat) (x4 : Int) (x5 : Int) (x6 : Nat) (x7 : Nat → Int) : loopStep (evCode E_nat_number (loopAt Tryz.f121 0) { (LV.mk 8 [(0, 8)] 4 0 false) with nx := live (.loop (loopAt Tryz.f121 0)) (LV.mk 8 [(0, 8)] 4 0 false) }) (live (.loop (loopAt Tryz.f121 0)) (LV.mk 8 [(0, 8)] 4 0 false)) (LV.mk 8 [(0, 8)] 4 0 false) 0 48 R [EV.rsI .u32 x0 x1, EV.slice 0 0 x2 (some x3) 1, EV.int .i64 x4, EV.int .i64 x5] [some (EV.arr .u8 x6 x7)] K = nat_number.l4.step (fun x0 x1 x2 x3 x4 x5 x6 x7 => R [EV.rsI .u32 x0 x1, EV.slice 0 0 x2 (some x3) 1, EV.int .i64 x4, EV.int .i64 x5] [some (EV.arr .u8 x6 x7)]) (fun y0 y1 y2 y3 => K (.exit 0) [EV.slice 0 0 y0 (some y1) 1] [some (EV.arr .u8 y2 y3)]) x0 x1 x2 x3 x4 x5 x6 x7 := (stepQ_eq _ _ _ _ _ _ _ _ _ _ _).symm.trans (by kernel_rfl)
theorem nat_number.l4X.eq (K : Ex → List EV → Heap → Prop) : ∀ (n : Nat) (x0 : Nat) (x1 : Nat → Int) (x2 : Nat) (x3 : Nat) (x4 : Int) (x5 : Int) (x6 : Nat) (x7 : Nat → Int), loopE E_nat_number (loopAt Tryz.f121 0) (LV.mk 8 [(0, 8)] 4 0 false) 0 48 K n [EV.rsI .u32 x0 x1, EV.slice 0 0 x2 (some x3) 1, EV.int .i64 x4, EV.int .i64 x5] [some (EV.arr .u8 x6 x7)] = nat_number.l4 (fun y0 y1 y2 y3 => K (.exit 0) [EV.slice 0 0 y0 (some y1) 1] [some (EV.arr .u8 y2 y3)]) n x0 x1 x2 x3 x4 x5 x6 x7
  | 0, _, _, _, _, _, _, _, _ => rfl
  | n + 1, x0, x1, x2, x3, x4, x5, x6, x7 => by
    have ih : (fun (x0 : Nat) (x1 : Nat → Int) (x2 : Nat) (x3 : Nat) (x4 : Int) (x5 : Int) (x6 : Nat) (x7 : Nat → Int) => loopE E_nat_number (loopAt Tryz.f121 0) (LV.mk 8 [(0, 8)] 4 0 false) 0 48 K n [EV.rsI .u32 x0 x1, EV.slice 0 0 x2 (some x3) 1, EV.int .i64 x4, EV.int .i64 x5] [some (EV.arr .u8 x6 x7)]) = nat_number.l4 (fun y0 y1 y2 y3 => K (.exit 0) [EV.slice 0 0 y0 (some y1) 1] [some (EV.arr .u8 y2 y3)]) n := by funext x0 x1 x2 x3 x4 x5 x6 x7; exact nat_number.l4X.eq K n x0 x1 x2 x3 x4 x5 x6 x7
    show loopStep _ _ _ _ _ (loopE E_nat_number (loopAt Tryz.f121 0) (LV.mk 8 [(0, 8)] 4 0 false) 0 48 K n) [EV.rsI .u32 x0 x1, EV.slice 0 0 x2 (some x3) 1, EV.int .i64 x4, EV.int .i64 x5] [some (EV.arr .u8 x6 x7)] K = nat_number.l4.step (nat_number.l4 (fun y0 y1 y2 y3 => K (.exit 0) [EV.slice 0 0 y0 (some y1) 1] [some (EV.arr .u8 y2 y3)]) n) (fun y0 y1 y2 y3 => K (.exit 0) [EV.slice 0 0 y0 (some y1) 1] [some (EV.arr .u8 y2 y3)]) x0 x1 x2 x3 x4 x5 x6 x7
    rw [← ih]
    exact nat_number.l4X.stepEq _ K x0 x1 x2 x3 x4 x5 x6 x7
theorem nat_number.l4X.ok : LoopEq E_nat_number (loopAt Tryz.f121 0) := by
  intro L hL vs H
  have h1 : E_nat_number.lp (firstRegion (loopAt Tryz.f121 0)) = some nat_number.l4.entry := by kernel_rfl
  have h2 : L = nat_number.l4.entry := Option.some.inj (hL.symm.trans h1)
  subst h2
  by_cases hx : ∃ (x0 : Nat) (x1 : Nat → Int) (x2 : Nat) (x3 : Nat) (x4 : Int) (x5 : Int) (x6 : Nat) (x7 : Nat → Int), vs = [EV.rsI .u32 x0 x1, EV.slice 0 0 x2 (some x3) 1, EV.int .i64 x4, EV.int .i64 x5] ∧ H = [some (EV.arr .u8 x6 x7)]
  · obtain ⟨x0, x1, x2, x3, x4, x5, x6, x7, rfl, rfl⟩ := hx
    right; intro K
    exact exists_congr fun n => iff_of_eq (nat_number.l4X.eq K n x0 x1 x2 x3 x4 x5 x6 x7).symm
  · left; intro K h
    simp only [nat_number.l4.entry] at h
    split at h
    · exact hx ⟨_, _, _, _, _, _, _, _, rfl, rfl⟩
    · exact h
theorem nat_number.l8X.stepEq (R : List EV → Heap → Prop) (K : Ex → List EV → Heap → Prop) (x0 : Nat) (x1 : Nat) (x2 : Nat) (x3 : Nat) (x4 : Nat → Int) : loopStep (evCode E_nat_number (loopAt Tryz.f121 1) { (LV.mk 8 [(2, 8)] 4 0 false) with nx := live (.loop (loopAt Tryz.f121 1)) (LV.mk 8 [(2, 8)] 4 0 false) }) (live (.loop (loopAt Tryz.f121 1)) (LV.mk 8 [(2, 8)] 4 0 false)) (LV.mk 8 [(2, 8)] 4 0 false) 0 48 R [EV.slice 0 x0 x1 (some x2) 1] [some (EV.arr .u8 x3 x4)] K = nat_number.l8.step (fun x0 x1 x2 x3 x4 => R [EV.slice 0 x0 x1 (some x2) 1] [some (EV.arr .u8 x3 x4)]) (fun y0 y1 y2 y3 y4 => K (.exit 2) [EV.slice 0 y0 y1 (some y2) 1] [some (EV.arr .u8 y3 y4)]) x0 x1 x2 x3 x4 := (stepQ_eq _ _ _ _ _ _ _ _ _ _ _).symm.trans (by kernel_rfl)
theorem nat_number.l8X.eq (K : Ex → List EV → Heap → Prop) : ∀ (n : Nat) (x0 : Nat) (x1 : Nat) (x2 : Nat) (x3 : Nat) (x4 : Nat → Int), loopE E_nat_number (loopAt Tryz.f121 1) (LV.mk 8 [(2, 8)] 4 0 false) 0 48 K n [EV.slice 0 x0 x1 (some x2) 1] [some (EV.arr .u8 x3 x4)] = nat_number.l8 (fun y0 y1 y2 y3 y4 => K (.exit 2) [EV.slice 0 y0 y1 (some y2) 1] [some (EV.arr .u8 y3 y4)]) n x0 x1 x2 x3 x4
  | 0, _, _, _, _, _ => rfl
  | n + 1, x0, x1, x2, x3, x4 => by
    have ih : (fun (x0 : Nat) (x1 : Nat) (x2 : Nat) (x3 : Nat) (x4 : Nat → Int) => loopE E_nat_number (loopAt Tryz.f121 1) (LV.mk 8 [(2, 8)] 4 0 false) 0 48 K n [EV.slice 0 x0 x1 (some x2) 1] [some (EV.arr .u8 x3 x4)]) = nat_number.l8 (fun y0 y1 y2 y3 y4 => K (.exit 2) [EV.slice 0 y0 y1 (some y2) 1] [some (EV.arr .u8 y3 y4)]) n := by funext x0 x1 x2 x3 x4; exact nat_number.l8X.eq K n x0 x1 x2 x3 x4
    show loopStep _ _ _ _ _ (loopE E_nat_number (loopAt Tryz.f121 1) (LV.mk 8 [(2, 8)] 4 0 false) 0 48 K n) [EV.slice 0 x0 x1 (some x2) 1] [some (EV.arr .u8 x3 x4)] K = nat_number.l8.step (nat_number.l8 (fun y0 y1 y2 y3 y4 => K (.exit 2) [EV.slice 0 y0 y1 (some y2) 1] [some (EV.arr .u8 y3 y4)]) n) (fun y0 y1 y2 y3 y4 => K (.exit 2) [EV.slice 0 y0 y1 (some y2) 1] [some (EV.arr .u8 y3 y4)]) x0 x1 x2 x3 x4
    rw [← ih]
    exact nat_number.l8X.stepEq _ K x0 x1 x2 x3 x4
theorem nat_number.l8X.ok : LoopEq E_nat_number (loopAt Tryz.f121 1) := by
  intro L hL vs H
  have h1 : E_nat_number.lp (firstRegion (loopAt Tryz.f121 1)) = some nat_number.l8.entry := by kernel_rfl
  have h2 : L = nat_number.l8.entry := Option.some.inj (hL.symm.trans h1)
  subst h2
  by_cases hx : ∃ (x0 : Nat) (x1 : Nat) (x2 : Nat) (x3 : Nat) (x4 : Nat → Int), vs = [EV.slice 0 x0 x1 (some x2) 1] ∧ H = [some (EV.arr .u8 x3 x4)]
  · obtain ⟨x0, x1, x2, x3, x4, rfl, rfl⟩ := hx
    right; intro K
    exact exists_congr fun n => iff_of_eq (nat_number.l8X.eq K n x0 x1 x2 x3 x4).symm
  · left; intro K h
    simp only [nat_number.l8.entry] at h
    split at h
    · exact hx ⟨_, _, _, _, _, rfl, rfl⟩
    · exact h
theorem X_nat_number.eq (a0n : Nat) (a0 : Nat → Int) (K : EV → Heap → Prop) : evFn E_nat_number Tryz.f121 false [.rsI .u32 a0n a0] [] K = nat_number a0n a0 (fun y0 => K (EV.str y0) []) := by
  rw [nat_number.is]; exact (evFnQ_eq _ _ _ _ _ _).symm.trans (by kernel_rfl)
theorem X_nat_number.ok : SoundE Tryz.prog gl 121 e_nat_number := by
  refine fnOK (E := E_nat_number) (fn := Tryz.f121) rfl tys_ok rfl (show AllL _ l_nat_number from ⟨X_nat_cut.ok, trivial⟩) mixed (by kernel_rfl) (by kernel_rfl) (by kernel_rfl) 2 (by kernel_rfl) false ⟨nat_number.l4X.ok, nat_number.l8X.ok, trivial⟩ ?_
  intro args H
  by_cases hx : ∃ (a0n : Nat) (a0 : Nat → Int), args = [.rsI .u32 a0n a0] ∧ H = []
  · obtain ⟨a0n, a0, rfl, rfl⟩ := hx
    right; intro K
    exact iff_of_eq (X_nat_number.eq a0n a0 K).symm
  · left; intro K h
    simp only [e_nat_number] at h
    split at h
    · exact hx ⟨_, _, rfl, rfl⟩
    · exact h
noncomputable def e_nat_words : Entry := ⟨[none], false, fun args H K => match args, H with
  | [.str a0], [] => nat_words a0 (fun y0 y1 => K (EV.rsI .u32 y0 y1) [])
  | _, _ => False⟩
noncomputable def E_nat_words : Env := ⟨look tys, look [], look [(3, nat_words.l3.entry)], gl, lookL [], false⟩
theorem nat_words.l3X.stepEq (R : List EV → Heap → Prop) (K : Ex → List EV → Heap → Prop) (x0 : List UInt8) (x1 : Nat) (x2 : Nat) (x3 : Int) (x4 : Int) (x5 : Nat) (x6 : Nat → Int) : loopStep (evCode E_nat_words (loopAt Tryz.f132 0) { (LV.mk 8 [(0, 8)] 4 0 false) with nx := live (.loop (loopAt Tryz.f132 0)) (LV.mk 8 [(0, 8)] 4 0 false) }) (live (.loop (loopAt Tryz.f132 0)) (LV.mk 8 [(0, 8)] 4 0 false)) (LV.mk 8 [(0, 8)] 4 0 false) 0 37 R [EV.str x0, EV.slice 0 0 x1 (some x2) 1, EV.int .i64 x3, EV.int .i64 x4] [some (EV.arr .u32 x5 x6)] K = nat_words.l3.step (fun x0 x1 x2 x3 x4 x5 x6 => R [EV.str x0, EV.slice 0 0 x1 (some x2) 1, EV.int .i64 x3, EV.int .i64 x4] [some (EV.arr .u32 x5 x6)]) (fun y0 y1 y2 y3 => K (.exit 0) [EV.slice 0 0 y0 (some y1) 1] [some (EV.arr .u32 y2 y3)]) x0 x1 x2 x3 x4 x5 x6 := (stepQ_eq _ _ _ _ _ _ _ _ _ _ _).symm.trans (by kernel_rfl)
theorem nat_words.l3X.eq (K : Ex → List EV → Heap → Prop) : ∀ (n : Nat) (x0 : List UInt8) (x1 : Nat) (x2 : Nat) (x3 : Int) (x4 : Int) (x5 : Nat) (x6 : Nat → Int), loopE E_nat_words (loopAt Tryz.f132 0) (LV.mk 8 [(0, 8)] 4 0 false) 0 37 K n [EV.str x0, EV.slice 0 0 x1 (some x2) 1, EV.int .i64 x3, EV.int .i64 x4] [some (EV.arr .u32 x5 x6)] = nat_words.l3 (fun y0 y1 y2 y3 => K (.exit 0) [EV.slice 0 0 y0 (some y1) 1] [some (EV.arr .u32 y2 y3)]) n x0 x1 x2 x3 x4 x5 x6
  | 0, _, _, _, _, _, _, _ => rfl
  | n + 1, x0, x1, x2, x3, x4, x5, x6 => by
    have ih : (fun (x0 : List UInt8) (x1 : Nat) (x2 : Nat) (x3 : Int) (x4 : Int) (x5 : Nat) (x6 : Nat → Int) => loopE E_nat_words (loopAt Tryz.f132 0) (LV.mk 8 [(0, 8)] 4 0 false) 0 37 K n [EV.str x0, EV.slice 0 0 x1 (some x2) 1, EV.int .i64 x3, EV.int .i64 x4] [some (EV.arr .u32 x5 x6)]) = nat_words.l3 (fun y0 y1 y2 y3 => K (.exit 0) [EV.slice 0 0 y0 (some y1) 1] [some (EV.arr .u32 y2 y3)]) n := by funext x0 x1 x2 x3 x4 x5 x6; exact nat_words.l3X.eq K n x0 x1 x2 x3 x4 x5 x6
    show loopStep _ _ _ _ _ (loopE E_nat_words (loopAt Tryz.f132 0) (LV.mk 8 [(0, 8)] 4 0 false) 0 37 K n) [EV.str x0, EV.slice 0 0 x1 (some x2) 1, EV.int .i64 x3, EV.int .i64 x4] [some (EV.arr .u32 x5 x6)] K = nat_words.l3.step (nat_words.l3 (fun y0 y1 y2 y3 => K (.exit 0) [EV.slice 0 0 y0 (some y1) 1] [some (EV.arr .u32 y2 y3)]) n) (fun y0 y1 y2 y3 => K (.exit 0) [EV.slice 0 0 y0 (some y1) 1] [some (EV.arr .u32 y2 y3)]) x0 x1 x2 x3 x4 x5 x6
    rw [← ih]
    exact nat_words.l3X.stepEq _ K x0 x1 x2 x3 x4 x5 x6
theorem nat_words.l3X.ok : LoopEq E_nat_words (loopAt Tryz.f132 0) := by
  intro L hL vs H
  have h1 : E_nat_words.lp (firstRegion (loopAt Tryz.f132 0)) = some nat_words.l3.entry := by kernel_rfl
  have h2 : L = nat_words.l3.entry := Option.some.inj (hL.symm.trans h1)
  subst h2
  by_cases hx : ∃ (x0 : List UInt8) (x1 : Nat) (x2 : Nat) (x3 : Int) (x4 : Int) (x5 : Nat) (x6 : Nat → Int), vs = [EV.str x0, EV.slice 0 0 x1 (some x2) 1, EV.int .i64 x3, EV.int .i64 x4] ∧ H = [some (EV.arr .u32 x5 x6)]
  · obtain ⟨x0, x1, x2, x3, x4, x5, x6, rfl, rfl⟩ := hx
    right; intro K
    exact exists_congr fun n => iff_of_eq (nat_words.l3X.eq K n x0 x1 x2 x3 x4 x5 x6).symm
  · left; intro K h
    simp only [nat_words.l3.entry] at h
    split at h
    · exact hx ⟨_, _, _, _, _, _, _, rfl, rfl⟩
    · exact h
theorem X_nat_words.eq (a0 : List UInt8) (K : EV → Heap → Prop) : evFn E_nat_words Tryz.f132 false [.str a0] [] K = nat_words a0 (fun y0 y1 => K (EV.rsI .u32 y0 y1) []) := by
  rw [nat_words.is]; exact (evFnQ_eq _ _ _ _ _ _).symm.trans (by kernel_rfl)
theorem X_nat_words.ok : SoundE Tryz.prog gl 132 e_nat_words := by
  refine fnOK (E := E_nat_words) (fn := Tryz.f132) rfl tys_ok rfl (show AllL _ [] from trivial) mixed (by kernel_rfl) (by kernel_rfl) (by kernel_rfl) 1 (by kernel_rfl) false ⟨nat_words.l3X.ok, trivial⟩ ?_
  intro args H
  by_cases hx : ∃ (a0 : List UInt8), args = [.str a0] ∧ H = []
  · obtain ⟨a0, rfl, rfl⟩ := hx
    right; intro K
    exact iff_of_eq (X_nat_words.eq a0 K).symm
  · left; intro K h
    simp only [e_nat_words] at h
    split at h
    · exact hx ⟨_, rfl, rfl⟩
    · exact h
noncomputable def e_nat_down : Entry := ⟨[some .u32, none], false, fun args H K => match args, H with
  | [.rsI .u32 a0n a0, .int .i64 a1], [] => nat_down a0n a0 a1 (fun y0 y1 => K (EV.rsI .u32 y0 y1) [])
  | _, _ => False⟩
noncomputable def l_nat_down : List (Nat × Entry) := [(177, e_nat_cut)]
noncomputable def E_nat_down : Env := ⟨look tys, look l_nat_down, look [(5, nat_down.l5.entry)], gl, lookL [], false⟩
theorem nat_down.l5X.stepEq (R : List EV → Heap → Prop) (K : Ex → List EV → Heap → Prop) (x0 : Nat) (x1 : Nat → Int) (x2 : Int) (x3 : Nat) (x4 : Nat) (x5 : Int) (x6 : Int) (x7 : Nat) (x8 : Nat → Int) : loopStep (evCode E_nat_down (loopAt Tryz.f174 0) { (LV.mk 32 [(0, 32)] 16 0 false) with nx := live (.loop (loopAt Tryz.f174 0)) (LV.mk 32 [(0, 32)] 16 0 false) }) (live (.loop (loopAt Tryz.f174 0)) (LV.mk 32 [(0, 32)] 16 0 false)) (LV.mk 32 [(0, 32)] 16 0 false) 0 64 R [EV.rsI .u32 x0 x1, EV.int .i64 x2, EV.slice 0 0 x3 (some x4) 1, EV.int .i64 x5, EV.int .i64 x6] [some (EV.arr .u32 x7 x8)] K = nat_down.l5.step (fun x0 x1 x2 x3 x4 x5 x6 x7 x8 => R [EV.rsI .u32 x0 x1, EV.int .i64 x2, EV.slice 0 0 x3 (some x4) 1, EV.int .i64 x5, EV.int .i64 x6] [some (EV.arr .u32 x7 x8)]) (fun y0 y1 y2 y3 => K (.exit 0) [EV.slice 0 0 y0 (some y1) 1] [some (EV.arr .u32 y2 y3)]) x0 x1 x2 x3 x4 x5 x6 x7 x8 := (stepQ_eq _ _ _ _ _ _ _ _ _ _ _).symm.trans (by kernel_rfl)
theorem nat_down.l5X.eq (K : Ex → List EV → Heap → Prop) : ∀ (n : Nat) (x0 : Nat) (x1 : Nat → Int) (x2 : Int) (x3 : Nat) (x4 : Nat) (x5 : Int) (x6 : Int) (x7 : Nat) (x8 : Nat → Int), loopE E_nat_down (loopAt Tryz.f174 0) (LV.mk 32 [(0, 32)] 16 0 false) 0 64 K n [EV.rsI .u32 x0 x1, EV.int .i64 x2, EV.slice 0 0 x3 (some x4) 1, EV.int .i64 x5, EV.int .i64 x6] [some (EV.arr .u32 x7 x8)] = nat_down.l5 (fun y0 y1 y2 y3 => K (.exit 0) [EV.slice 0 0 y0 (some y1) 1] [some (EV.arr .u32 y2 y3)]) n x0 x1 x2 x3 x4 x5 x6 x7 x8
  | 0, _, _, _, _, _, _, _, _, _ => rfl
  | n + 1, x0, x1, x2, x3, x4, x5, x6, x7, x8 => by
    have ih : (fun (x0 : Nat) (x1 : Nat → Int) (x2 : Int) (x3 : Nat) (x4 : Nat) (x5 : Int) (x6 : Int) (x7 : Nat) (x8 : Nat → Int) => loopE E_nat_down (loopAt Tryz.f174 0) (LV.mk 32 [(0, 32)] 16 0 false) 0 64 K n [EV.rsI .u32 x0 x1, EV.int .i64 x2, EV.slice 0 0 x3 (some x4) 1, EV.int .i64 x5, EV.int .i64 x6] [some (EV.arr .u32 x7 x8)]) = nat_down.l5 (fun y0 y1 y2 y3 => K (.exit 0) [EV.slice 0 0 y0 (some y1) 1] [some (EV.arr .u32 y2 y3)]) n := by funext x0 x1 x2 x3 x4 x5 x6 x7 x8; exact nat_down.l5X.eq K n x0 x1 x2 x3 x4 x5 x6 x7 x8
    show loopStep _ _ _ _ _ (loopE E_nat_down (loopAt Tryz.f174 0) (LV.mk 32 [(0, 32)] 16 0 false) 0 64 K n) [EV.rsI .u32 x0 x1, EV.int .i64 x2, EV.slice 0 0 x3 (some x4) 1, EV.int .i64 x5, EV.int .i64 x6] [some (EV.arr .u32 x7 x8)] K = nat_down.l5.step (nat_down.l5 (fun y0 y1 y2 y3 => K (.exit 0) [EV.slice 0 0 y0 (some y1) 1] [some (EV.arr .u32 y2 y3)]) n) (fun y0 y1 y2 y3 => K (.exit 0) [EV.slice 0 0 y0 (some y1) 1] [some (EV.arr .u32 y2 y3)]) x0 x1 x2 x3 x4 x5 x6 x7 x8
    rw [← ih]
    exact nat_down.l5X.stepEq _ K x0 x1 x2 x3 x4 x5 x6 x7 x8
theorem nat_down.l5X.ok : LoopEq E_nat_down (loopAt Tryz.f174 0) := by
  intro L hL vs H
  have h1 : E_nat_down.lp (firstRegion (loopAt Tryz.f174 0)) = some nat_down.l5.entry := by kernel_rfl
  have h2 : L = nat_down.l5.entry := Option.some.inj (hL.symm.trans h1)
  subst h2
  by_cases hx : ∃ (x0 : Nat) (x1 : Nat → Int) (x2 : Int) (x3 : Nat) (x4 : Nat) (x5 : Int) (x6 : Int) (x7 : Nat) (x8 : Nat → Int), vs = [EV.rsI .u32 x0 x1, EV.int .i64 x2, EV.slice 0 0 x3 (some x4) 1, EV.int .i64 x5, EV.int .i64 x6] ∧ H = [some (EV.arr .u32 x7 x8)]
  · obtain ⟨x0, x1, x2, x3, x4, x5, x6, x7, x8, rfl, rfl⟩ := hx
    right; intro K
    exact exists_congr fun n => iff_of_eq (nat_down.l5X.eq K n x0 x1 x2 x3 x4 x5 x6 x7 x8).symm
  · left; intro K h
    simp only [nat_down.l5.entry] at h
    split at h
    · exact hx ⟨_, _, _, _, _, _, _, _, _, rfl, rfl⟩
    · exact h
theorem X_nat_down.eq (a0n : Nat) (a0 : Nat → Int) (a1 : Int) (K : EV → Heap → Prop) : evFn E_nat_down Tryz.f174 false [.rsI .u32 a0n a0, .int .i64 a1] [] K = nat_down a0n a0 a1 (fun y0 y1 => K (EV.rsI .u32 y0 y1) []) := by
  rw [nat_down.is]; exact (evFnQ_eq _ _ _ _ _ _).symm.trans (by kernel_rfl)
theorem X_nat_down.ok : SoundE Tryz.prog gl 174 e_nat_down := by
  refine fnOK (E := E_nat_down) (fn := Tryz.f174) rfl tys_ok rfl (show AllL _ l_nat_down from ⟨X_nat_cut.ok, trivial⟩) mixed (by kernel_rfl) (by kernel_rfl) (by kernel_rfl) 1 (by kernel_rfl) false ⟨nat_down.l5X.ok, trivial⟩ ?_
  intro args H
  by_cases hx : ∃ (a0n : Nat) (a0 : Nat → Int) (a1 : Int), args = [.rsI .u32 a0n a0, .int .i64 a1] ∧ H = []
  · obtain ⟨a0n, a0, a1, rfl, rfl⟩ := hx
    right; intro K
    exact iff_of_eq (X_nat_down.eq a0n a0 a1 K).symm
  · left; intro K h
    simp only [e_nat_down] at h
    split at h
    · exact hx ⟨_, _, _, rfl, rfl⟩
    · exact h
noncomputable def e_nat_Right : Entry := ⟨[none, none], false, fun args H K => match args, H with
  | [.str a0, .int .i64 a1], [] => nat_Right a0 a1 (fun y0 y1 y2 => K (EV.tuple [EV.str y0, EV.bool y1, EV.int .i64 y2]) [])
  | _, _ => False⟩
noncomputable def l_nat_Right : List (Nat × Entry) := [(114, e_nat_Check), (117, e_nat_Low), (121, e_nat_number), (132, e_nat_words), (174, e_nat_down)]
noncomputable def E_nat_Right : Env := ⟨look tys, look l_nat_Right, look [], gl, lookL [], false⟩
theorem X_nat_Right.eq (a0 : List UInt8) (a1 : Int) (K : EV → Heap → Prop) : evFn E_nat_Right Tryz.f118 false [.str a0, .int .i64 a1] [] K = nat_Right a0 a1 (fun y0 y1 y2 => K (EV.tuple [EV.str y0, EV.bool y1, EV.int .i64 y2]) []) := by
  rw [nat_Right.is]; exact (evFnQ_eq _ _ _ _ _ _).symm.trans (by kernel_rfl)
theorem X_nat_Right.ok : SoundE Tryz.prog gl 118 e_nat_Right := by
  refine fnOK (E := E_nat_Right) (fn := Tryz.f118) rfl tys_ok rfl (show AllL _ l_nat_Right from ⟨X_nat_Check.ok, X_nat_Low.ok, X_nat_number.ok, X_nat_words.ok, X_nat_down.ok, trivial⟩) mixed (by kernel_rfl) (by kernel_rfl) (by kernel_rfl) 0 (by kernel_rfl) false trivial ?_
  intro args H
  by_cases hx : ∃ (a0 : List UInt8) (a1 : Int), args = [.str a0, .int .i64 a1] ∧ H = []
  · obtain ⟨a0, a1, rfl, rfl⟩ := hx
    right; intro K
    exact iff_of_eq (X_nat_Right.eq a0 a1 K).symm
  · left; intro K h
    simp only [e_nat_Right] at h
    split at h
    · exact hx ⟨_, _, rfl, rfl⟩
    · exact h
noncomputable def e_nat_right : Entry := ⟨[none, none], false, fun args H K => match args, H with
  | [.str a0, .str a1], [] => nat_right a0 a1 (fun y0 => K (EV.bool y0) [])
  | _, _ => False⟩
noncomputable def l_nat_right : List (Nat × Entry) := [(114, e_nat_Check)]
noncomputable def E_nat_right : Env := ⟨look tys, look l_nat_right, look [], gl, lookL [], false⟩
theorem X_nat_right.eq (a0 : List UInt8) (a1 : List UInt8) (K : EV → Heap → Prop) : evFn E_nat_right Tryz.f175 false [.str a0, .str a1] [] K = nat_right a0 a1 (fun y0 => K (EV.bool y0) []) := by
  rw [nat_right.is]; exact (evFnQ_eq _ _ _ _ _ _).symm.trans (by kernel_rfl)
theorem X_nat_right.ok : SoundE Tryz.prog gl 175 e_nat_right := by
  refine fnOK (E := E_nat_right) (fn := Tryz.f175) rfl tys_ok rfl (show AllL _ l_nat_right from ⟨X_nat_Check.ok, trivial⟩) mixed (by kernel_rfl) (by kernel_rfl) (by kernel_rfl) 0 (by kernel_rfl) false trivial ?_
  intro args H
  by_cases hx : ∃ (a0 : List UInt8) (a1 : List UInt8), args = [.str a0, .str a1] ∧ H = []
  · obtain ⟨a0, a1, rfl, rfl⟩ := hx
    right; intro K
    exact iff_of_eq (X_nat_right.eq a0 a1 K).symm
  · left; intro K h
    simp only [e_nat_right] at h
    split at h
    · exact hx ⟨_, _, rfl, rfl⟩
    · exact h
noncomputable def e_bits_Len64 : Entry := ⟨[none], false, fun args H K => match args, H with
  | [.int .u64 a0], [] => bits_Len64 a0 (fun y0 => K (EV.int .i64 y0) [])
  | _, _ => False⟩
noncomputable def E_bits_Len64 : Env := ⟨look tys, look [], look [], gl, lookL [], false⟩
theorem X_bits_Len64.eq (a0 : Int) (K : EV → Heap → Prop) : evFn E_bits_Len64 Tryz.f165 false [.int .u64 a0] [] K = bits_Len64 a0 (fun y0 => K (EV.int .i64 y0) []) := by
  rw [bits_Len64.is]; exact (evFnQ_eq _ _ _ _ _ _).symm.trans (by kernel_rfl)
theorem X_bits_Len64.ok : SoundE Tryz.prog gl 165 e_bits_Len64 := by
  refine fnOK (E := E_bits_Len64) (fn := Tryz.f165) rfl tys_ok rfl (show AllL _ [] from trivial) mixed (by kernel_rfl) (by kernel_rfl) (by kernel_rfl) 0 (by kernel_rfl) false trivial ?_
  intro args H
  by_cases hx : ∃ (a0 : Int), args = [.int .u64 a0] ∧ H = []
  · obtain ⟨a0, rfl, rfl⟩ := hx
    right; intro K
    exact iff_of_eq (X_bits_Len64.eq a0 K).symm
  · left; intro K h
    simp only [e_bits_Len64] at h
    split at h
    · exact hx ⟨_, rfl, rfl⟩
    · exact h
noncomputable def e_word_Len : Entry := ⟨[none], false, fun args H K => match args, H with
  | [.int .u64 a0], [] => word_Len a0 (fun y0 => K (EV.int .i64 y0) [])
  | _, _ => False⟩
noncomputable def l_word_Len : List (Nat × Entry) := [(165, e_bits_Len64)]
noncomputable def E_word_Len : Env := ⟨look tys, look l_word_Len, look [], gl, lookL [], false⟩
theorem X_word_Len.eq (a0 : Int) (K : EV → Heap → Prop) : evFn E_word_Len Tryz.f105 false [.int .u64 a0] [] K = word_Len a0 (fun y0 => K (EV.int .i64 y0) []) := by
  rw [word_Len.is]; exact (evFnQ_eq _ _ _ _ _ _).symm.trans (by kernel_rfl)
theorem X_word_Len.ok : SoundE Tryz.prog gl 105 e_word_Len := by
  refine fnOK (E := E_word_Len) (fn := Tryz.f105) rfl tys_ok rfl (show AllL _ l_word_Len from ⟨X_bits_Len64.ok, trivial⟩) mixed (by kernel_rfl) (by kernel_rfl) (by kernel_rfl) 0 (by kernel_rfl) false trivial ?_
  intro args H
  by_cases hx : ∃ (a0 : Int), args = [.int .u64 a0] ∧ H = []
  · obtain ⟨a0, rfl, rfl⟩ := hx
    right; intro K
    exact iff_of_eq (X_word_Len.eq a0 K).symm
  · left; intro K h
    simp only [e_word_Len] at h
    split at h
    · exact hx ⟨_, rfl, rfl⟩
    · exact h
noncomputable def e_nat_up : Entry := ⟨[some .u32, none], true, fun args H K => match args, H with
  | [.rsI .u32 a0n a0, .int .i64 a1], [] => nat_up a0n a0 a1 (K (EV.nilSlice) []) (fun y0 y1 y2 y3 => K (EV.slice 0 0 y0 (some y1) 1) [some (EV.arr .u32 y2 y3)])
  | _, _ => False⟩
noncomputable def l_nat_up : List (Nat × Entry) := [(177, e_nat_cut)]
noncomputable def E_nat_up : Env := ⟨look tys, look l_nat_up, look [(5, nat_up.l5.entry)], gl, lookL [], false⟩
theorem nat_up.l5X.stepEq (R : List EV → Heap → Prop) (K : Ex → List EV → Heap → Prop) (x0 : Int) (x1 : Nat) (x2 : Nat) (x3 : Nat) (x4 : Nat → Int) (x5 : Int) (x6 : Int) (x7 : Nat) (x8 : Nat → Int) : loopStep (evCode E_nat_up (loopAt Tryz.f183 0) { (LV.mk 32 [(0, 32)] 16 0 false) with nx := live (.loop (loopAt Tryz.f183 0)) (LV.mk 32 [(0, 32)] 16 0 false) }) (live (.loop (loopAt Tryz.f183 0)) (LV.mk 32 [(0, 32)] 16 0 false)) (LV.mk 32 [(0, 32)] 16 0 false) 0 59 R [EV.int .i64 x0, EV.slice 0 0 x1 (some x2) 1, EV.rsI .u32 x3 x4, EV.int .i64 x5, EV.int .i64 x6] [some (EV.arr .u32 x7 x8)] K = nat_up.l5.step (fun x0 x1 x2 x3 x4 x5 x6 x7 x8 => R [EV.int .i64 x0, EV.slice 0 0 x1 (some x2) 1, EV.rsI .u32 x3 x4, EV.int .i64 x5, EV.int .i64 x6] [some (EV.arr .u32 x7 x8)]) (fun y0 y1 y2 y3 => K (.exit 0) [EV.slice 0 0 y0 (some y1) 1] [some (EV.arr .u32 y2 y3)]) x0 x1 x2 x3 x4 x5 x6 x7 x8 := (stepQ_eq _ _ _ _ _ _ _ _ _ _ _).symm.trans (by kernel_rfl)
theorem nat_up.l5X.eq (K : Ex → List EV → Heap → Prop) : ∀ (n : Nat) (x0 : Int) (x1 : Nat) (x2 : Nat) (x3 : Nat) (x4 : Nat → Int) (x5 : Int) (x6 : Int) (x7 : Nat) (x8 : Nat → Int), loopE E_nat_up (loopAt Tryz.f183 0) (LV.mk 32 [(0, 32)] 16 0 false) 0 59 K n [EV.int .i64 x0, EV.slice 0 0 x1 (some x2) 1, EV.rsI .u32 x3 x4, EV.int .i64 x5, EV.int .i64 x6] [some (EV.arr .u32 x7 x8)] = nat_up.l5 (fun y0 y1 y2 y3 => K (.exit 0) [EV.slice 0 0 y0 (some y1) 1] [some (EV.arr .u32 y2 y3)]) n x0 x1 x2 x3 x4 x5 x6 x7 x8
  | 0, _, _, _, _, _, _, _, _, _ => rfl
  | n + 1, x0, x1, x2, x3, x4, x5, x6, x7, x8 => by
    have ih : (fun (x0 : Int) (x1 : Nat) (x2 : Nat) (x3 : Nat) (x4 : Nat → Int) (x5 : Int) (x6 : Int) (x7 : Nat) (x8 : Nat → Int) => loopE E_nat_up (loopAt Tryz.f183 0) (LV.mk 32 [(0, 32)] 16 0 false) 0 59 K n [EV.int .i64 x0, EV.slice 0 0 x1 (some x2) 1, EV.rsI .u32 x3 x4, EV.int .i64 x5, EV.int .i64 x6] [some (EV.arr .u32 x7 x8)]) = nat_up.l5 (fun y0 y1 y2 y3 => K (.exit 0) [EV.slice 0 0 y0 (some y1) 1] [some (EV.arr .u32 y2 y3)]) n := by funext x0 x1 x2 x3 x4 x5 x6 x7 x8; exact nat_up.l5X.eq K n x0 x1 x2 x3 x4 x5 x6 x7 x8
    show loopStep _ _ _ _ _ (loopE E_nat_up (loopAt Tryz.f183 0) (LV.mk 32 [(0, 32)] 16 0 false) 0 59 K n) [EV.int .i64 x0, EV.slice 0 0 x1 (some x2) 1, EV.rsI .u32 x3 x4, EV.int .i64 x5, EV.int .i64 x6] [some (EV.arr .u32 x7 x8)] K = nat_up.l5.step (nat_up.l5 (fun y0 y1 y2 y3 => K (.exit 0) [EV.slice 0 0 y0 (some y1) 1] [some (EV.arr .u32 y2 y3)]) n) (fun y0 y1 y2 y3 => K (.exit 0) [EV.slice 0 0 y0 (some y1) 1] [some (EV.arr .u32 y2 y3)]) x0 x1 x2 x3 x4 x5 x6 x7 x8
    rw [← ih]
    exact nat_up.l5X.stepEq _ K x0 x1 x2 x3 x4 x5 x6 x7 x8
theorem nat_up.l5X.ok : LoopEq E_nat_up (loopAt Tryz.f183 0) := by
  intro L hL vs H
  have h1 : E_nat_up.lp (firstRegion (loopAt Tryz.f183 0)) = some nat_up.l5.entry := by kernel_rfl
  have h2 : L = nat_up.l5.entry := Option.some.inj (hL.symm.trans h1)
  subst h2
  by_cases hx : ∃ (x0 : Int) (x1 : Nat) (x2 : Nat) (x3 : Nat) (x4 : Nat → Int) (x5 : Int) (x6 : Int) (x7 : Nat) (x8 : Nat → Int), vs = [EV.int .i64 x0, EV.slice 0 0 x1 (some x2) 1, EV.rsI .u32 x3 x4, EV.int .i64 x5, EV.int .i64 x6] ∧ H = [some (EV.arr .u32 x7 x8)]
  · obtain ⟨x0, x1, x2, x3, x4, x5, x6, x7, x8, rfl, rfl⟩ := hx
    right; intro K
    exact exists_congr fun n => iff_of_eq (nat_up.l5X.eq K n x0 x1 x2 x3 x4 x5 x6 x7 x8).symm
  · left; intro K h
    simp only [nat_up.l5.entry] at h
    split at h
    · exact hx ⟨_, _, _, _, _, _, _, _, _, rfl, rfl⟩
    · exact h
theorem X_nat_up.eq (a0n : Nat) (a0 : Nat → Int) (a1 : Int) (K : EV → Heap → Prop) : evFn E_nat_up Tryz.f183 true [.rsI .u32 a0n a0, .int .i64 a1] [] K = nat_up a0n a0 a1 (K (EV.nilSlice) []) (fun y0 y1 y2 y3 => K (EV.slice 0 0 y0 (some y1) 1) [some (EV.arr .u32 y2 y3)]) := by
  rw [nat_up.is]; exact (evFnQ_eq _ _ _ _ _ _).symm.trans (by kernel_rfl)
theorem X_nat_up.ok : SoundE Tryz.prog gl 183 e_nat_up := by
  refine fnOK (E := E_nat_up) (fn := Tryz.f183) rfl tys_ok rfl (show AllL _ l_nat_up from ⟨X_nat_cut.ok, trivial⟩) mixed (by kernel_rfl) (by kernel_rfl) (by kernel_rfl) 1 (by kernel_rfl) true ⟨nat_up.l5X.ok, trivial⟩ ?_
  intro args H
  by_cases hx : ∃ (a0n : Nat) (a0 : Nat → Int) (a1 : Int), args = [.rsI .u32 a0n a0, .int .i64 a1] ∧ H = []
  · obtain ⟨a0n, a0, a1, rfl, rfl⟩ := hx
    right; intro K
    exact iff_of_eq (X_nat_up.eq a0n a0 a1 K).symm
  · left; intro K h
    simp only [e_nat_up] at h
    split at h
    · exact hx ⟨_, _, _, rfl, rfl⟩
    · exact h
noncomputable def e_nat_upN : Entry := Entry.nonil e_nat_up
theorem X_nat_upN.ok : SoundE Tryz.prog gl 183 e_nat_upN := SoundE.nonil X_nat_up.ok
noncomputable def e_nat_cmp : Entry := ⟨[some .u32, some .u32], false, fun args H K => match args, H with
  | [.rsI .u32 a0n a0, .rsI .u32 a1n a1], [] => nat_cmp a0n a0 a1n a1 (fun y0 => K (EV.int .i64 y0) [])
  | _, _ => False⟩
noncomputable def E_nat_cmp : Env := ⟨look tys, look [], look [(6, nat_cmp.l6.entry)], gl, lookL [], false⟩
theorem nat_cmp.l6X.stepEq (R : List EV → Heap → Prop) (K : Ex → List EV → Heap → Prop) (x0 : Nat) (x1 : Nat → Int) (x2 : Nat) (x3 : Nat → Int) (x4 : Int) : loopStep (evCode E_nat_cmp (loopAt Tryz.f200 0) { (LV.mk 0 [(1, 0)] 16 0 false) with nx := live (.loop (loopAt Tryz.f200 0)) (LV.mk 0 [(1, 0)] 16 0 false) }) (live (.loop (loopAt Tryz.f200 0)) (LV.mk 0 [(1, 0)] 16 0 false)) (LV.mk 0 [(1, 0)] 16 0 false) 0 45 R [EV.rsI .u32 x0 x1, EV.rsI .u32 x2 x3, EV.int .i64 x4] [] K = nat_cmp.l6.step (fun x0 x1 x2 x3 x4 => R [EV.rsI .u32 x0 x1, EV.rsI .u32 x2 x3, EV.int .i64 x4] []) (fun y0 => K .ret [EV.int .i64 y0] []) (K (.exit 1) [] []) x0 x1 x2 x3 x4 := (stepQ_eq _ _ _ _ _ _ _ _ _ _ _).symm.trans (by kernel_rfl)
theorem nat_cmp.l6X.eq (K : Ex → List EV → Heap → Prop) : ∀ (n : Nat) (x0 : Nat) (x1 : Nat → Int) (x2 : Nat) (x3 : Nat → Int) (x4 : Int), loopE E_nat_cmp (loopAt Tryz.f200 0) (LV.mk 0 [(1, 0)] 16 0 false) 0 45 K n [EV.rsI .u32 x0 x1, EV.rsI .u32 x2 x3, EV.int .i64 x4] [] = nat_cmp.l6 (fun y0 => K .ret [EV.int .i64 y0] []) (K (.exit 1) [] []) n x0 x1 x2 x3 x4
  | 0, _, _, _, _, _ => rfl
  | n + 1, x0, x1, x2, x3, x4 => by
    have ih : (fun (x0 : Nat) (x1 : Nat → Int) (x2 : Nat) (x3 : Nat → Int) (x4 : Int) => loopE E_nat_cmp (loopAt Tryz.f200 0) (LV.mk 0 [(1, 0)] 16 0 false) 0 45 K n [EV.rsI .u32 x0 x1, EV.rsI .u32 x2 x3, EV.int .i64 x4] []) = nat_cmp.l6 (fun y0 => K .ret [EV.int .i64 y0] []) (K (.exit 1) [] []) n := by funext x0 x1 x2 x3 x4; exact nat_cmp.l6X.eq K n x0 x1 x2 x3 x4
    show loopStep _ _ _ _ _ (loopE E_nat_cmp (loopAt Tryz.f200 0) (LV.mk 0 [(1, 0)] 16 0 false) 0 45 K n) [EV.rsI .u32 x0 x1, EV.rsI .u32 x2 x3, EV.int .i64 x4] [] K = nat_cmp.l6.step (nat_cmp.l6 (fun y0 => K .ret [EV.int .i64 y0] []) (K (.exit 1) [] []) n) (fun y0 => K .ret [EV.int .i64 y0] []) (K (.exit 1) [] []) x0 x1 x2 x3 x4
    rw [← ih]
    exact nat_cmp.l6X.stepEq _ K x0 x1 x2 x3 x4
theorem nat_cmp.l6X.ok : LoopEq E_nat_cmp (loopAt Tryz.f200 0) := by
  intro L hL vs H
  have h1 : E_nat_cmp.lp (firstRegion (loopAt Tryz.f200 0)) = some nat_cmp.l6.entry := by kernel_rfl
  have h2 : L = nat_cmp.l6.entry := Option.some.inj (hL.symm.trans h1)
  subst h2
  by_cases hx : ∃ (x0 : Nat) (x1 : Nat → Int) (x2 : Nat) (x3 : Nat → Int) (x4 : Int), vs = [EV.rsI .u32 x0 x1, EV.rsI .u32 x2 x3, EV.int .i64 x4] ∧ H = []
  · obtain ⟨x0, x1, x2, x3, x4, rfl, rfl⟩ := hx
    right; intro K
    exact exists_congr fun n => iff_of_eq (nat_cmp.l6X.eq K n x0 x1 x2 x3 x4).symm
  · left; intro K h
    simp only [nat_cmp.l6.entry] at h
    split at h
    · exact hx ⟨_, _, _, _, _, rfl, rfl⟩
    · exact h
theorem X_nat_cmp.eq (a0n : Nat) (a0 : Nat → Int) (a1n : Nat) (a1 : Nat → Int) (K : EV → Heap → Prop) : evFn E_nat_cmp Tryz.f200 false [.rsI .u32 a0n a0, .rsI .u32 a1n a1] [] K = nat_cmp a0n a0 a1n a1 (fun y0 => K (EV.int .i64 y0) []) := by
  rw [nat_cmp.is]; exact (evFnQ_eq _ _ _ _ _ _).symm.trans (by kernel_rfl)
theorem X_nat_cmp.ok : SoundE Tryz.prog gl 200 e_nat_cmp := by
  refine fnOK (E := E_nat_cmp) (fn := Tryz.f200) rfl tys_ok rfl (show AllL _ [] from trivial) mixed (by kernel_rfl) (by kernel_rfl) (by kernel_rfl) 1 (by kernel_rfl) false ⟨nat_cmp.l6X.ok, trivial⟩ ?_
  intro args H
  by_cases hx : ∃ (a0n : Nat) (a0 : Nat → Int) (a1n : Nat) (a1 : Nat → Int), args = [.rsI .u32 a0n a0, .rsI .u32 a1n a1] ∧ H = []
  · obtain ⟨a0n, a0, a1n, a1, rfl, rfl⟩ := hx
    right; intro K
    exact iff_of_eq (X_nat_cmp.eq a0n a0 a1n a1 K).symm
  · left; intro K h
    simp only [e_nat_cmp] at h
    split at h
    · exact hx ⟨_, _, _, _, rfl, rfl⟩
    · exact h
noncomputable def e_nat_parts : Entry := ⟨[some .u32, some .u32], false, fun args H K => match args, H with
  | [.rsI .u32 a0n a0, .rsI .u32 a1n a1], [] => nat_parts a0n a0 a1n a1 (fun y0 y1 y2 y3 => K (EV.tuple [EV.rsI .u32 y0 y1, EV.rsI .u32 y2 y3]) [])
  | _, _ => False⟩
noncomputable def l_nat_parts : List (Nat × Entry) := [(105, e_word_Len), (174, e_nat_down), (177, e_nat_cut), (183, e_nat_upN), (200, e_nat_cmp)]
noncomputable def E_nat_parts : Env := ⟨look tys, look l_nat_parts, look [(7, nat_parts.l7.entry), (16, nat_parts.l16.entry), (20, nat_parts.l20.entry), (24, nat_parts.l24.entry), (31, nat_parts.l31.entry), (45, nat_parts.l45.entry)], gl, lookL [], true⟩
theorem nat_parts.l7X.stepEq (R : List EV → Heap → Prop) (K : Ex → List EV → Heap → Prop) (x0 : Nat) (x1 : Nat → Int) (x2 : Nat) (x3 : Nat → Int) (x4 : Nat) (x5 : Int) (x6 : Int) (x7 : Nat) (x8 : Nat → Int) : loopStep (evCode E_nat_parts (loopAt Tryz.f176 0) { (LV.mk 80 [(0, 80)] 48 0 true) with nx := live (.loop (loopAt Tryz.f176 0)) (LV.mk 80 [(0, 80)] 48 0 true) }) (live (.loop (loopAt Tryz.f176 0)) (LV.mk 80 [(0, 80)] 48 0 true)) (LV.mk 80 [(0, 80)] 48 0 true) 0 285 R [EV.rsI .u32 x0 x1, EV.rsI .u32 x2 x3, EV.slice 0 0 x4 none 1, EV.int .u64 x5, EV.int .i64 x6] [some (EV.arr .u32 x7 x8)] K = nat_parts.l7.step (fun x0 x1 x2 x3 x4 x5 x6 x7 x8 => R [EV.rsI .u32 x0 x1, EV.rsI .u32 x2 x3, EV.slice 0 0 x4 none 1, EV.int .u64 x5, EV.int .i64 x6] [some (EV.arr .u32 x7 x8)]) (fun y0 y1 y2 y3 => K (.exit 0) [EV.slice 0 0 y0 none 1, EV.int .u64 y1] [some (EV.arr .u32 y2 y3)]) x0 x1 x2 x3 x4 x5 x6 x7 x8 := (stepQ_eq _ _ _ _ _ _ _ _ _ _ _).symm.trans (by kernel_rfl)
theorem nat_parts.l7X.eq (K : Ex → List EV → Heap → Prop) : ∀ (n : Nat) (x0 : Nat) (x1 : Nat → Int) (x2 : Nat) (x3 : Nat → Int) (x4 : Nat) (x5 : Int) (x6 : Int) (x7 : Nat) (x8 : Nat → Int), loopE E_nat_parts (loopAt Tryz.f176 0) (LV.mk 80 [(0, 80)] 48 0 true) 0 285 K n [EV.rsI .u32 x0 x1, EV.rsI .u32 x2 x3, EV.slice 0 0 x4 none 1, EV.int .u64 x5, EV.int .i64 x6] [some (EV.arr .u32 x7 x8)] = nat_parts.l7 (fun y0 y1 y2 y3 => K (.exit 0) [EV.slice 0 0 y0 none 1, EV.int .u64 y1] [some (EV.arr .u32 y2 y3)]) n x0 x1 x2 x3 x4 x5 x6 x7 x8
  | 0, _, _, _, _, _, _, _, _, _ => rfl
  | n + 1, x0, x1, x2, x3, x4, x5, x6, x7, x8 => by
    have ih : (fun (x0 : Nat) (x1 : Nat → Int) (x2 : Nat) (x3 : Nat → Int) (x4 : Nat) (x5 : Int) (x6 : Int) (x7 : Nat) (x8 : Nat → Int) => loopE E_nat_parts (loopAt Tryz.f176 0) (LV.mk 80 [(0, 80)] 48 0 true) 0 285 K n [EV.rsI .u32 x0 x1, EV.rsI .u32 x2 x3, EV.slice 0 0 x4 none 1, EV.int .u64 x5, EV.int .i64 x6] [some (EV.arr .u32 x7 x8)]) = nat_parts.l7 (fun y0 y1 y2 y3 => K (.exit 0) [EV.slice 0 0 y0 none 1, EV.int .u64 y1] [some (EV.arr .u32 y2 y3)]) n := by funext x0 x1 x2 x3 x4 x5 x6 x7 x8; exact nat_parts.l7X.eq K n x0 x1 x2 x3 x4 x5 x6 x7 x8
    show loopStep _ _ _ _ _ (loopE E_nat_parts (loopAt Tryz.f176 0) (LV.mk 80 [(0, 80)] 48 0 true) 0 285 K n) [EV.rsI .u32 x0 x1, EV.rsI .u32 x2 x3, EV.slice 0 0 x4 none 1, EV.int .u64 x5, EV.int .i64 x6] [some (EV.arr .u32 x7 x8)] K = nat_parts.l7.step (nat_parts.l7 (fun y0 y1 y2 y3 => K (.exit 0) [EV.slice 0 0 y0 none 1, EV.int .u64 y1] [some (EV.arr .u32 y2 y3)]) n) (fun y0 y1 y2 y3 => K (.exit 0) [EV.slice 0 0 y0 none 1, EV.int .u64 y1] [some (EV.arr .u32 y2 y3)]) x0 x1 x2 x3 x4 x5 x6 x7 x8
    rw [← ih]
    exact nat_parts.l7X.stepEq _ K x0 x1 x2 x3 x4 x5 x6 x7 x8
theorem nat_parts.l7X.ok : LoopEq E_nat_parts (loopAt Tryz.f176 0) := by
  intro L hL vs H
  have h1 : E_nat_parts.lp (firstRegion (loopAt Tryz.f176 0)) = some nat_parts.l7.entry := by kernel_rfl
  have h2 : L = nat_parts.l7.entry := Option.some.inj (hL.symm.trans h1)
  subst h2
  by_cases hx : ∃ (x0 : Nat) (x1 : Nat → Int) (x2 : Nat) (x3 : Nat → Int) (x4 : Nat) (x5 : Int) (x6 : Int) (x7 : Nat) (x8 : Nat → Int), vs = [EV.rsI .u32 x0 x1, EV.rsI .u32 x2 x3, EV.slice 0 0 x4 none 1, EV.int .u64 x5, EV.int .i64 x6] ∧ H = [some (EV.arr .u32 x7 x8)]
  · obtain ⟨x0, x1, x2, x3, x4, x5, x6, x7, x8, rfl, rfl⟩ := hx
    right; intro K
    exact exists_congr fun n => iff_of_eq (nat_parts.l7X.eq K n x0 x1 x2 x3 x4 x5 x6 x7 x8).symm
  · left; intro K h
    simp only [nat_parts.l7.entry] at h
    split at h
    · exact hx ⟨_, _, _, _, _, _, _, _, _, rfl, rfl⟩
    · exact h
theorem nat_parts.l16X.stepEq (R : List EV → Heap → Prop) (K : Ex → List EV → Heap → Prop) (x0 : Nat) (x1 : Nat → Int) (x2 : Nat) (x3 : Int) (x4 : Nat) (x5 : Nat) (x6 : Nat) (x7 : Nat → Int) (x8 : Nat) (x9 : Nat → Int) (x10 : Nat) (x11 : Nat → Int) : loopStep (evCode E_nat_parts (loopAt Tryz.f176 1) { (LV.mk 1808 [(2, 1808)] 48 0 true) with nx := live (.loop (loopAt Tryz.f176 1)) (LV.mk 1808 [(2, 1808)] 48 0 true) }) (live (.loop (loopAt Tryz.f176 1)) (LV.mk 1808 [(2, 1808)] 48 0 true)) (LV.mk 1808 [(2, 1808)] 48 0 true) 0 285 R [EV.rsI .u32 x0 x1, EV.slice 0 0 x2 none 1, EV.int .i64 x3, EV.slice 1 0 x4 none 1, EV.slice 2 0 x5 none 1] [some (EV.arr .u32 x6 x7), some (EV.arr .u32 x8 x9), some (EV.arr .u32 x10 x11)] K = nat_parts.l16.step (fun x0 x1 x2 x3 x4 x5 x6 x7 x8 x9 x10 x11 => R [EV.rsI .u32 x0 x1, EV.slice 0 0 x2 none 1, EV.int .i64 x3, EV.slice 1 0 x4 none 1, EV.slice 2 0 x5 none 1] [some (EV.arr .u32 x6 x7), some (EV.arr .u32 x8 x9), some (EV.arr .u32 x10 x11)]) (fun y0 y1 y2 y3 y4 y5 y6 y7 y8 y9 => K (.exit 2) [EV.slice 0 0 y0 none 1, EV.int .i64 y1, EV.slice 1 0 y2 none 1, EV.slice 2 0 y3 none 1] [some (EV.arr .u32 y4 y5), some (EV.arr .u32 y6 y7), some (EV.arr .u32 y8 y9)]) x0 x1 x2 x3 x4 x5 x6 x7 x8 x9 x10 x11 := (stepQ_eq _ _ _ _ _ _ _ _ _ _ _).symm.trans (by kernel_rfl)
theorem nat_parts.l16X.eq (K : Ex → List EV → Heap → Prop) : ∀ (n : Nat) (x0 : Nat) (x1 : Nat → Int) (x2 : Nat) (x3 : Int) (x4 : Nat) (x5 : Nat) (x6 : Nat) (x7 : Nat → Int) (x8 : Nat) (x9 : Nat → Int) (x10 : Nat) (x11 : Nat → Int), loopE E_nat_parts (loopAt Tryz.f176 1) (LV.mk 1808 [(2, 1808)] 48 0 true) 0 285 K n [EV.rsI .u32 x0 x1, EV.slice 0 0 x2 none 1, EV.int .i64 x3, EV.slice 1 0 x4 none 1, EV.slice 2 0 x5 none 1] [some (EV.arr .u32 x6 x7), some (EV.arr .u32 x8 x9), some (EV.arr .u32 x10 x11)] = nat_parts.l16 (fun y0 y1 y2 y3 y4 y5 y6 y7 y8 y9 => K (.exit 2) [EV.slice 0 0 y0 none 1, EV.int .i64 y1, EV.slice 1 0 y2 none 1, EV.slice 2 0 y3 none 1] [some (EV.arr .u32 y4 y5), some (EV.arr .u32 y6 y7), some (EV.arr .u32 y8 y9)]) n x0 x1 x2 x3 x4 x5 x6 x7 x8 x9 x10 x11
  | 0, _, _, _, _, _, _, _, _, _, _, _, _ => rfl
  | n + 1, x0, x1, x2, x3, x4, x5, x6, x7, x8, x9, x10, x11 => by
    have ih : (fun (x0 : Nat) (x1 : Nat → Int) (x2 : Nat) (x3 : Int) (x4 : Nat) (x5 : Nat) (x6 : Nat) (x7 : Nat → Int) (x8 : Nat) (x9 : Nat → Int) (x10 : Nat) (x11 : Nat → Int) => loopE E_nat_parts (loopAt Tryz.f176 1) (LV.mk 1808 [(2, 1808)] 48 0 true) 0 285 K n [EV.rsI .u32 x0 x1, EV.slice 0 0 x2 none 1, EV.int .i64 x3, EV.slice 1 0 x4 none 1, EV.slice 2 0 x5 none 1] [some (EV.arr .u32 x6 x7), some (EV.arr .u32 x8 x9), some (EV.arr .u32 x10 x11)]) = nat_parts.l16 (fun y0 y1 y2 y3 y4 y5 y6 y7 y8 y9 => K (.exit 2) [EV.slice 0 0 y0 none 1, EV.int .i64 y1, EV.slice 1 0 y2 none 1, EV.slice 2 0 y3 none 1] [some (EV.arr .u32 y4 y5), some (EV.arr .u32 y6 y7), some (EV.arr .u32 y8 y9)]) n := by funext x0 x1 x2 x3 x4 x5 x6 x7 x8 x9 x10 x11; exact nat_parts.l16X.eq K n x0 x1 x2 x3 x4 x5 x6 x7 x8 x9 x10 x11
    show loopStep _ _ _ _ _ (loopE E_nat_parts (loopAt Tryz.f176 1) (LV.mk 1808 [(2, 1808)] 48 0 true) 0 285 K n) [EV.rsI .u32 x0 x1, EV.slice 0 0 x2 none 1, EV.int .i64 x3, EV.slice 1 0 x4 none 1, EV.slice 2 0 x5 none 1] [some (EV.arr .u32 x6 x7), some (EV.arr .u32 x8 x9), some (EV.arr .u32 x10 x11)] K = nat_parts.l16.step (nat_parts.l16 (fun y0 y1 y2 y3 y4 y5 y6 y7 y8 y9 => K (.exit 2) [EV.slice 0 0 y0 none 1, EV.int .i64 y1, EV.slice 1 0 y2 none 1, EV.slice 2 0 y3 none 1] [some (EV.arr .u32 y4 y5), some (EV.arr .u32 y6 y7), some (EV.arr .u32 y8 y9)]) n) (fun y0 y1 y2 y3 y4 y5 y6 y7 y8 y9 => K (.exit 2) [EV.slice 0 0 y0 none 1, EV.int .i64 y1, EV.slice 1 0 y2 none 1, EV.slice 2 0 y3 none 1] [some (EV.arr .u32 y4 y5), some (EV.arr .u32 y6 y7), some (EV.arr .u32 y8 y9)]) x0 x1 x2 x3 x4 x5 x6 x7 x8 x9 x10 x11
    rw [← ih]
    exact nat_parts.l16X.stepEq _ K x0 x1 x2 x3 x4 x5 x6 x7 x8 x9 x10 x11
theorem nat_parts.l16X.ok : LoopEq E_nat_parts (loopAt Tryz.f176 1) := by
  intro L hL vs H
  have h1 : E_nat_parts.lp (firstRegion (loopAt Tryz.f176 1)) = some nat_parts.l16.entry := by kernel_rfl
  have h2 : L = nat_parts.l16.entry := Option.some.inj (hL.symm.trans h1)
  subst h2
  by_cases hx : ∃ (x0 : Nat) (x1 : Nat → Int) (x2 : Nat) (x3 : Int) (x4 : Nat) (x5 : Nat) (x6 : Nat) (x7 : Nat → Int) (x8 : Nat) (x9 : Nat → Int) (x10 : Nat) (x11 : Nat → Int), vs = [EV.rsI .u32 x0 x1, EV.slice 0 0 x2 none 1, EV.int .i64 x3, EV.slice 1 0 x4 none 1, EV.slice 2 0 x5 none 1] ∧ H = [some (EV.arr .u32 x6 x7), some (EV.arr .u32 x8 x9), some (EV.arr .u32 x10 x11)]
  · obtain ⟨x0, x1, x2, x3, x4, x5, x6, x7, x8, x9, x10, x11, rfl, rfl⟩ := hx
    right; intro K
    exact exists_congr fun n => iff_of_eq (nat_parts.l16X.eq K n x0 x1 x2 x3 x4 x5 x6 x7 x8 x9 x10 x11).symm
  · left; intro K h
    simp only [nat_parts.l16.entry] at h
    split at h
    · exact hx ⟨_, _, _, _, _, _, _, _, _, _, _, _, rfl, rfl⟩
    · exact h
theorem nat_parts.l20X.stepEq (R : List EV → Heap → Prop) (K : Ex → List EV → Heap → Prop) (x0 : Nat) (x1 : Int) (x2 : Nat) (x3 : Nat) (x4 : Int) (x5 : Int) (x6 : Nat) (x7 : Nat → Int) (x8 : Nat) (x9 : Nat → Int) (x10 : Nat) (x11 : Nat → Int) : loopStep (evCode E_nat_parts (loopAt Tryz.f176 2) { (LV.mk 1296 [(4, 1296)] 48 0 true) with nx := live (.loop (loopAt Tryz.f176 2)) (LV.mk 1296 [(4, 1296)] 48 0 true) }) (live (.loop (loopAt Tryz.f176 2)) (LV.mk 1296 [(4, 1296)] 48 0 true)) (LV.mk 1296 [(4, 1296)] 48 0 true) 0 285 R [EV.slice 0 0 x0 none 1, EV.int .i64 x1, EV.slice 1 0 x2 none 1, EV.slice 2 0 x3 none 1, EV.int .i64 x4, EV.int .i64 x5] [some (EV.arr .u32 x6 x7), some (EV.arr .u32 x8 x9), some (EV.arr .u32 x10 x11)] K = nat_parts.l20.step (fun x0 x1 x2 x3 x4 x5 x6 x7 x8 x9 x10 x11 => R [EV.slice 0 0 x0 none 1, EV.int .i64 x1, EV.slice 1 0 x2 none 1, EV.slice 2 0 x3 none 1, EV.int .i64 x4, EV.int .i64 x5] [some (EV.arr .u32 x6 x7), some (EV.arr .u32 x8 x9), some (EV.arr .u32 x10 x11)]) (fun y0 y1 y2 y3 y4 y5 y6 => K (.exit 4) [EV.slice 0 0 y0 none 1, EV.int .i64 y1, EV.slice 1 0 y2 none 1] [some (EV.arr .u32 y3 y4), some (EV.arr .u32 y5 y6)]) x0 x1 x2 x3 x4 x5 x6 x7 x8 x9 x10 x11 := (stepQ_eq _ _ _ _ _ _ _ _ _ _ _).symm.trans (by kernel_rfl)
theorem nat_parts.l20X.eq (K : Ex → List EV → Heap → Prop) : ∀ (n : Nat) (x0 : Nat) (x1 : Int) (x2 : Nat) (x3 : Nat) (x4 : Int) (x5 : Int) (x6 : Nat) (x7 : Nat → Int) (x8 : Nat) (x9 : Nat → Int) (x10 : Nat) (x11 : Nat → Int), loopE E_nat_parts (loopAt Tryz.f176 2) (LV.mk 1296 [(4, 1296)] 48 0 true) 0 285 K n [EV.slice 0 0 x0 none 1, EV.int .i64 x1, EV.slice 1 0 x2 none 1, EV.slice 2 0 x3 none 1, EV.int .i64 x4, EV.int .i64 x5] [some (EV.arr .u32 x6 x7), some (EV.arr .u32 x8 x9), some (EV.arr .u32 x10 x11)] = nat_parts.l20 (fun y0 y1 y2 y3 y4 y5 y6 => K (.exit 4) [EV.slice 0 0 y0 none 1, EV.int .i64 y1, EV.slice 1 0 y2 none 1] [some (EV.arr .u32 y3 y4), some (EV.arr .u32 y5 y6)]) n x0 x1 x2 x3 x4 x5 x6 x7 x8 x9 x10 x11
  | 0, _, _, _, _, _, _, _, _, _, _, _, _ => rfl
  | n + 1, x0, x1, x2, x3, x4, x5, x6, x7, x8, x9, x10, x11 => by
    have ih : (fun (x0 : Nat) (x1 : Int) (x2 : Nat) (x3 : Nat) (x4 : Int) (x5 : Int) (x6 : Nat) (x7 : Nat → Int) (x8 : Nat) (x9 : Nat → Int) (x10 : Nat) (x11 : Nat → Int) => loopE E_nat_parts (loopAt Tryz.f176 2) (LV.mk 1296 [(4, 1296)] 48 0 true) 0 285 K n [EV.slice 0 0 x0 none 1, EV.int .i64 x1, EV.slice 1 0 x2 none 1, EV.slice 2 0 x3 none 1, EV.int .i64 x4, EV.int .i64 x5] [some (EV.arr .u32 x6 x7), some (EV.arr .u32 x8 x9), some (EV.arr .u32 x10 x11)]) = nat_parts.l20 (fun y0 y1 y2 y3 y4 y5 y6 => K (.exit 4) [EV.slice 0 0 y0 none 1, EV.int .i64 y1, EV.slice 1 0 y2 none 1] [some (EV.arr .u32 y3 y4), some (EV.arr .u32 y5 y6)]) n := by funext x0 x1 x2 x3 x4 x5 x6 x7 x8 x9 x10 x11; exact nat_parts.l20X.eq K n x0 x1 x2 x3 x4 x5 x6 x7 x8 x9 x10 x11
    show loopStep _ _ _ _ _ (loopE E_nat_parts (loopAt Tryz.f176 2) (LV.mk 1296 [(4, 1296)] 48 0 true) 0 285 K n) [EV.slice 0 0 x0 none 1, EV.int .i64 x1, EV.slice 1 0 x2 none 1, EV.slice 2 0 x3 none 1, EV.int .i64 x4, EV.int .i64 x5] [some (EV.arr .u32 x6 x7), some (EV.arr .u32 x8 x9), some (EV.arr .u32 x10 x11)] K = nat_parts.l20.step (nat_parts.l20 (fun y0 y1 y2 y3 y4 y5 y6 => K (.exit 4) [EV.slice 0 0 y0 none 1, EV.int .i64 y1, EV.slice 1 0 y2 none 1] [some (EV.arr .u32 y3 y4), some (EV.arr .u32 y5 y6)]) n) (fun y0 y1 y2 y3 y4 y5 y6 => K (.exit 4) [EV.slice 0 0 y0 none 1, EV.int .i64 y1, EV.slice 1 0 y2 none 1] [some (EV.arr .u32 y3 y4), some (EV.arr .u32 y5 y6)]) x0 x1 x2 x3 x4 x5 x6 x7 x8 x9 x10 x11
    rw [← ih]
    exact nat_parts.l20X.stepEq _ K x0 x1 x2 x3 x4 x5 x6 x7 x8 x9 x10 x11
theorem nat_parts.l20X.ok : LoopEq E_nat_parts (loopAt Tryz.f176 2) := by
  intro L hL vs H
  have h1 : E_nat_parts.lp (firstRegion (loopAt Tryz.f176 2)) = some nat_parts.l20.entry := by kernel_rfl
  have h2 : L = nat_parts.l20.entry := Option.some.inj (hL.symm.trans h1)
  subst h2
  by_cases hx : ∃ (x0 : Nat) (x1 : Int) (x2 : Nat) (x3 : Nat) (x4 : Int) (x5 : Int) (x6 : Nat) (x7 : Nat → Int) (x8 : Nat) (x9 : Nat → Int) (x10 : Nat) (x11 : Nat → Int), vs = [EV.slice 0 0 x0 none 1, EV.int .i64 x1, EV.slice 1 0 x2 none 1, EV.slice 2 0 x3 none 1, EV.int .i64 x4, EV.int .i64 x5] ∧ H = [some (EV.arr .u32 x6 x7), some (EV.arr .u32 x8 x9), some (EV.arr .u32 x10 x11)]
  · obtain ⟨x0, x1, x2, x3, x4, x5, x6, x7, x8, x9, x10, x11, rfl, rfl⟩ := hx
    right; intro K
    exact exists_congr fun n => iff_of_eq (nat_parts.l20X.eq K n x0 x1 x2 x3 x4 x5 x6 x7 x8 x9 x10 x11).symm
  · left; intro K h
    simp only [nat_parts.l20.entry] at h
    split at h
    · exact hx ⟨_, _, _, _, _, _, _, _, _, _, _, _, rfl, rfl⟩
    · exact h
theorem nat_parts.l24X.stepEq (R : List EV → Heap → Prop) (K : Ex → List EV → Heap → Prop) (x0 : Nat) (x1 : Int) (x2 : Nat) (x3 : Nat) (x4 : Int) (x5 : Int) (x6 : Int) (x7 : Int) (x8 : Nat) (x9 : Nat → Int) (x10 : Nat) (x11 : Nat → Int) (x12 : Nat) (x13 : Nat → Int) : loopStep (evCode E_nat_parts (loopAt Tryz.f176 3) { (LV.mk 24336 [(6, 24336), (5, 7952), (4, 1296)] 48 0 true) with nx := live (.loop (loopAt Tryz.f176 3)) (LV.mk 24336 [(6, 24336), (5, 7952), (4, 1296)] 48 0 true) }) (live (.loop (loopAt Tryz.f176 3)) (LV.mk 24336 [(6, 24336), (5, 7952), (4, 1296)] 48 0 true)) (LV.mk 24336 [(6, 24336), (5, 7952), (4, 1296)] 48 0 true) 0 285 R [EV.slice 0 0 x0 none 1, EV.int .i64 x1, EV.slice 1 0 x2 none 1, EV.slice 2 0 x3 none 1, EV.int .i64 x4, EV.int .i64 x5, EV.int .u64 x6, EV.int .u64 x7] [some (EV.arr .u32 x8 x9), some (EV.arr .u32 x10 x11), some (EV.arr .u32 x12 x13)] K = nat_parts.l24.step (fun x0 x1 x2 x3 x4 x5 x6 x7 x8 x9 x10 x11 x12 x13 => R [EV.slice 0 0 x0 none 1, EV.int .i64 x1, EV.slice 1 0 x2 none 1, EV.slice 2 0 x3 none 1, EV.int .i64 x4, EV.int .i64 x5, EV.int .u64 x6, EV.int .u64 x7] [some (EV.arr .u32 x8 x9), some (EV.arr .u32 x10 x11), some (EV.arr .u32 x12 x13)]) (fun y0 y1 y2 y3 y4 y5 y6 y7 y8 y9 y10 y11 y12 => K (.exit 6) [EV.slice 0 0 y0 none 1, EV.int .i64 y1, EV.slice 1 0 y2 none 1, EV.slice 2 0 y3 none 1, EV.int .i64 y4, EV.int .i64 y5, EV.int .u64 y6] [some (EV.arr .u32 y7 y8), some (EV.arr .u32 y9 y10), some (EV.arr .u32 y11 y12)]) x0 x1 x2 x3 x4 x5 x6 x7 x8 x9 x10 x11 x12 x13 := (stepQ_eq _ _ _ _ _ _ _ _ _ _ _).symm.trans (by kernel_rfl)
theorem nat_parts.l24X.eq (K : Ex → List EV → Heap → Prop) : ∀ (n : Nat) (x0 : Nat) (x1 : Int) (x2 : Nat) (x3 : Nat) (x4 : Int) (x5 : Int) (x6 : Int) (x7 : Int) (x8 : Nat) (x9 : Nat → Int) (x10 : Nat) (x11 : Nat → Int) (x12 : Nat) (x13 : Nat → Int), loopE E_nat_parts (loopAt Tryz.f176 3) (LV.mk 24336 [(6, 24336), (5, 7952), (4, 1296)] 48 0 true) 0 285 K n [EV.slice 0 0 x0 none 1, EV.int .i64 x1, EV.slice 1 0 x2 none 1, EV.slice 2 0 x3 none 1, EV.int .i64 x4, EV.int .i64 x5, EV.int .u64 x6, EV.int .u64 x7] [some (EV.arr .u32 x8 x9), some (EV.arr .u32 x10 x11), some (EV.arr .u32 x12 x13)] = nat_parts.l24 (fun y0 y1 y2 y3 y4 y5 y6 y7 y8 y9 y10 y11 y12 => K (.exit 6) [EV.slice 0 0 y0 none 1, EV.int .i64 y1, EV.slice 1 0 y2 none 1, EV.slice 2 0 y3 none 1, EV.int .i64 y4, EV.int .i64 y5, EV.int .u64 y6] [some (EV.arr .u32 y7 y8), some (EV.arr .u32 y9 y10), some (EV.arr .u32 y11 y12)]) n x0 x1 x2 x3 x4 x5 x6 x7 x8 x9 x10 x11 x12 x13
  | 0, _, _, _, _, _, _, _, _, _, _, _, _, _, _ => rfl
  | n + 1, x0, x1, x2, x3, x4, x5, x6, x7, x8, x9, x10, x11, x12, x13 => by
    have ih : (fun (x0 : Nat) (x1 : Int) (x2 : Nat) (x3 : Nat) (x4 : Int) (x5 : Int) (x6 : Int) (x7 : Int) (x8 : Nat) (x9 : Nat → Int) (x10 : Nat) (x11 : Nat → Int) (x12 : Nat) (x13 : Nat → Int) => loopE E_nat_parts (loopAt Tryz.f176 3) (LV.mk 24336 [(6, 24336), (5, 7952), (4, 1296)] 48 0 true) 0 285 K n [EV.slice 0 0 x0 none 1, EV.int .i64 x1, EV.slice 1 0 x2 none 1, EV.slice 2 0 x3 none 1, EV.int .i64 x4, EV.int .i64 x5, EV.int .u64 x6, EV.int .u64 x7] [some (EV.arr .u32 x8 x9), some (EV.arr .u32 x10 x11), some (EV.arr .u32 x12 x13)]) = nat_parts.l24 (fun y0 y1 y2 y3 y4 y5 y6 y7 y8 y9 y10 y11 y12 => K (.exit 6) [EV.slice 0 0 y0 none 1, EV.int .i64 y1, EV.slice 1 0 y2 none 1, EV.slice 2 0 y3 none 1, EV.int .i64 y4, EV.int .i64 y5, EV.int .u64 y6] [some (EV.arr .u32 y7 y8), some (EV.arr .u32 y9 y10), some (EV.arr .u32 y11 y12)]) n := by funext x0 x1 x2 x3 x4 x5 x6 x7 x8 x9 x10 x11 x12 x13; exact nat_parts.l24X.eq K n x0 x1 x2 x3 x4 x5 x6 x7 x8 x9 x10 x11 x12 x13
    show loopStep _ _ _ _ _ (loopE E_nat_parts (loopAt Tryz.f176 3) (LV.mk 24336 [(6, 24336), (5, 7952), (4, 1296)] 48 0 true) 0 285 K n) [EV.slice 0 0 x0 none 1, EV.int .i64 x1, EV.slice 1 0 x2 none 1, EV.slice 2 0 x3 none 1, EV.int .i64 x4, EV.int .i64 x5, EV.int .u64 x6, EV.int .u64 x7] [some (EV.arr .u32 x8 x9), some (EV.arr .u32 x10 x11), some (EV.arr .u32 x12 x13)] K = nat_parts.l24.step (nat_parts.l24 (fun y0 y1 y2 y3 y4 y5 y6 y7 y8 y9 y10 y11 y12 => K (.exit 6) [EV.slice 0 0 y0 none 1, EV.int .i64 y1, EV.slice 1 0 y2 none 1, EV.slice 2 0 y3 none 1, EV.int .i64 y4, EV.int .i64 y5, EV.int .u64 y6] [some (EV.arr .u32 y7 y8), some (EV.arr .u32 y9 y10), some (EV.arr .u32 y11 y12)]) n) (fun y0 y1 y2 y3 y4 y5 y6 y7 y8 y9 y10 y11 y12 => K (.exit 6) [EV.slice 0 0 y0 none 1, EV.int .i64 y1, EV.slice 1 0 y2 none 1, EV.slice 2 0 y3 none 1, EV.int .i64 y4, EV.int .i64 y5, EV.int .u64 y6] [some (EV.arr .u32 y7 y8), some (EV.arr .u32 y9 y10), some (EV.arr .u32 y11 y12)]) x0 x1 x2 x3 x4 x5 x6 x7 x8 x9 x10 x11 x12 x13
    rw [← ih]
    exact nat_parts.l24X.stepEq _ K x0 x1 x2 x3 x4 x5 x6 x7 x8 x9 x10 x11 x12 x13
theorem nat_parts.l24X.ok : LoopEq E_nat_parts (loopAt Tryz.f176 3) := by
  intro L hL vs H
  have h1 : E_nat_parts.lp (firstRegion (loopAt Tryz.f176 3)) = some nat_parts.l24.entry := by kernel_rfl
  have h2 : L = nat_parts.l24.entry := Option.some.inj (hL.symm.trans h1)
  subst h2
  by_cases hx : ∃ (x0 : Nat) (x1 : Int) (x2 : Nat) (x3 : Nat) (x4 : Int) (x5 : Int) (x6 : Int) (x7 : Int) (x8 : Nat) (x9 : Nat → Int) (x10 : Nat) (x11 : Nat → Int) (x12 : Nat) (x13 : Nat → Int), vs = [EV.slice 0 0 x0 none 1, EV.int .i64 x1, EV.slice 1 0 x2 none 1, EV.slice 2 0 x3 none 1, EV.int .i64 x4, EV.int .i64 x5, EV.int .u64 x6, EV.int .u64 x7] ∧ H = [some (EV.arr .u32 x8 x9), some (EV.arr .u32 x10 x11), some (EV.arr .u32 x12 x13)]
  · obtain ⟨x0, x1, x2, x3, x4, x5, x6, x7, x8, x9, x10, x11, x12, x13, rfl, rfl⟩ := hx
    right; intro K
    exact exists_congr fun n => iff_of_eq (nat_parts.l24X.eq K n x0 x1 x2 x3 x4 x5 x6 x7 x8 x9 x10 x11 x12 x13).symm
  · left; intro K h
    simp only [nat_parts.l24.entry] at h
    split at h
    · exact hx ⟨_, _, _, _, _, _, _, _, _, _, _, _, _, _, rfl, rfl⟩
    · exact h
theorem nat_parts.l31X.stepEq (R : List EV → Heap → Prop) (K : Ex → List EV → Heap → Prop) (x0 : Nat) (x1 : Int) (x2 : Nat) (x3 : Nat) (x4 : Int) (x5 : Int) (x6 : Int) (x7 : Int) (x8 : Int) (x9 : Int) (x10 : Int) (x11 : Nat) (x12 : Nat → Int) (x13 : Nat) (x14 : Nat → Int) (x15 : Nat) (x16 : Nat → Int) : loopStep (evCode E_nat_parts (loopAt Tryz.f176 4) { (LV.mk 220944 [(8, 220944), (5, 7952), (4, 1296)] 48 0 true) with nx := live (.loop (loopAt Tryz.f176 4)) (LV.mk 220944 [(8, 220944), (5, 7952), (4, 1296)] 48 0 true) }) (live (.loop (loopAt Tryz.f176 4)) (LV.mk 220944 [(8, 220944), (5, 7952), (4, 1296)] 48 0 true)) (LV.mk 220944 [(8, 220944), (5, 7952), (4, 1296)] 48 0 true) 0 285 R [EV.slice 0 0 x0 none 1, EV.int .i64 x1, EV.slice 1 0 x2 none 1, EV.slice 2 0 x3 none 1, EV.int .i64 x4, EV.int .i64 x5, EV.int .u64 x6, EV.int .u64 x7, EV.int .i64 x8, EV.int .i64 x9, EV.int .i64 x10] [some (EV.arr .u32 x11 x12), some (EV.arr .u32 x13 x14), some (EV.arr .u32 x15 x16)] K = nat_parts.l31.step (fun x0 x1 x2 x3 x4 x5 x6 x7 x8 x9 x10 x11 x12 x13 x14 x15 x16 => R [EV.slice 0 0 x0 none 1, EV.int .i64 x1, EV.slice 1 0 x2 none 1, EV.slice 2 0 x3 none 1, EV.int .i64 x4, EV.int .i64 x5, EV.int .u64 x6, EV.int .u64 x7, EV.int .i64 x8, EV.int .i64 x9, EV.int .i64 x10] [some (EV.arr .u32 x11 x12), some (EV.arr .u32 x13 x14), some (EV.arr .u32 x15 x16)]) (fun y0 y1 y2 y3 y4 y5 y6 y7 y8 y9 y10 y11 y12 y13 y14 => K (.exit 8) [EV.slice 0 0 y0 none 1, EV.int .i64 y1, EV.slice 1 0 y2 none 1, EV.slice 2 0 y3 none 1, EV.int .i64 y4, EV.int .i64 y5, EV.int .u64 y6, EV.int .u64 y7, EV.int .i64 y8] [some (EV.arr .u32 y9 y10), some (EV.arr .u32 y11 y12), some (EV.arr .u32 y13 y14)]) x0 x1 x2 x3 x4 x5 x6 x7 x8 x9 x10 x11 x12 x13 x14 x15 x16 := (stepQ_eq _ _ _ _ _ _ _ _ _ _ _).symm.trans (by kernel_rfl)
theorem nat_parts.l31X.eq (K : Ex → List EV → Heap → Prop) : ∀ (n : Nat) (x0 : Nat) (x1 : Int) (x2 : Nat) (x3 : Nat) (x4 : Int) (x5 : Int) (x6 : Int) (x7 : Int) (x8 : Int) (x9 : Int) (x10 : Int) (x11 : Nat) (x12 : Nat → Int) (x13 : Nat) (x14 : Nat → Int) (x15 : Nat) (x16 : Nat → Int), loopE E_nat_parts (loopAt Tryz.f176 4) (LV.mk 220944 [(8, 220944), (5, 7952), (4, 1296)] 48 0 true) 0 285 K n [EV.slice 0 0 x0 none 1, EV.int .i64 x1, EV.slice 1 0 x2 none 1, EV.slice 2 0 x3 none 1, EV.int .i64 x4, EV.int .i64 x5, EV.int .u64 x6, EV.int .u64 x7, EV.int .i64 x8, EV.int .i64 x9, EV.int .i64 x10] [some (EV.arr .u32 x11 x12), some (EV.arr .u32 x13 x14), some (EV.arr .u32 x15 x16)] = nat_parts.l31 (fun y0 y1 y2 y3 y4 y5 y6 y7 y8 y9 y10 y11 y12 y13 y14 => K (.exit 8) [EV.slice 0 0 y0 none 1, EV.int .i64 y1, EV.slice 1 0 y2 none 1, EV.slice 2 0 y3 none 1, EV.int .i64 y4, EV.int .i64 y5, EV.int .u64 y6, EV.int .u64 y7, EV.int .i64 y8] [some (EV.arr .u32 y9 y10), some (EV.arr .u32 y11 y12), some (EV.arr .u32 y13 y14)]) n x0 x1 x2 x3 x4 x5 x6 x7 x8 x9 x10 x11 x12 x13 x14 x15 x16
  | 0, _, _, _, _, _, _, _, _, _, _, _, _, _, _, _, _, _ => rfl
  | n + 1, x0, x1, x2, x3, x4, x5, x6, x7, x8, x9, x10, x11, x12, x13, x14, x15, x16 => by
    have ih : (fun (x0 : Nat) (x1 : Int) (x2 : Nat) (x3 : Nat) (x4 : Int) (x5 : Int) (x6 : Int) (x7 : Int) (x8 : Int) (x9 : Int) (x10 : Int) (x11 : Nat) (x12 : Nat → Int) (x13 : Nat) (x14 : Nat → Int) (x15 : Nat) (x16 : Nat → Int) => loopE E_nat_parts (loopAt Tryz.f176 4) (LV.mk 220944 [(8, 220944), (5, 7952), (4, 1296)] 48 0 true) 0 285 K n [EV.slice 0 0 x0 none 1, EV.int .i64 x1, EV.slice 1 0 x2 none 1, EV.slice 2 0 x3 none 1, EV.int .i64 x4, EV.int .i64 x5, EV.int .u64 x6, EV.int .u64 x7, EV.int .i64 x8, EV.int .i64 x9, EV.int .i64 x10] [some (EV.arr .u32 x11 x12), some (EV.arr .u32 x13 x14), some (EV.arr .u32 x15 x16)]) = nat_parts.l31 (fun y0 y1 y2 y3 y4 y5 y6 y7 y8 y9 y10 y11 y12 y13 y14 => K (.exit 8) [EV.slice 0 0 y0 none 1, EV.int .i64 y1, EV.slice 1 0 y2 none 1, EV.slice 2 0 y3 none 1, EV.int .i64 y4, EV.int .i64 y5, EV.int .u64 y6, EV.int .u64 y7, EV.int .i64 y8] [some (EV.arr .u32 y9 y10), some (EV.arr .u32 y11 y12), some (EV.arr .u32 y13 y14)]) n := by funext x0 x1 x2 x3 x4 x5 x6 x7 x8 x9 x10 x11 x12 x13 x14 x15 x16; exact nat_parts.l31X.eq K n x0 x1 x2 x3 x4 x5 x6 x7 x8 x9 x10 x11 x12 x13 x14 x15 x16
    show loopStep _ _ _ _ _ (loopE E_nat_parts (loopAt Tryz.f176 4) (LV.mk 220944 [(8, 220944), (5, 7952), (4, 1296)] 48 0 true) 0 285 K n) [EV.slice 0 0 x0 none 1, EV.int .i64 x1, EV.slice 1 0 x2 none 1, EV.slice 2 0 x3 none 1, EV.int .i64 x4, EV.int .i64 x5, EV.int .u64 x6, EV.int .u64 x7, EV.int .i64 x8, EV.int .i64 x9, EV.int .i64 x10] [some (EV.arr .u32 x11 x12), some (EV.arr .u32 x13 x14), some (EV.arr .u32 x15 x16)] K = nat_parts.l31.step (nat_parts.l31 (fun y0 y1 y2 y3 y4 y5 y6 y7 y8 y9 y10 y11 y12 y13 y14 => K (.exit 8) [EV.slice 0 0 y0 none 1, EV.int .i64 y1, EV.slice 1 0 y2 none 1, EV.slice 2 0 y3 none 1, EV.int .i64 y4, EV.int .i64 y5, EV.int .u64 y6, EV.int .u64 y7, EV.int .i64 y8] [some (EV.arr .u32 y9 y10), some (EV.arr .u32 y11 y12), some (EV.arr .u32 y13 y14)]) n) (fun y0 y1 y2 y3 y4 y5 y6 y7 y8 y9 y10 y11 y12 y13 y14 => K (.exit 8) [EV.slice 0 0 y0 none 1, EV.int .i64 y1, EV.slice 1 0 y2 none 1, EV.slice 2 0 y3 none 1, EV.int .i64 y4, EV.int .i64 y5, EV.int .u64 y6, EV.int .u64 y7, EV.int .i64 y8] [some (EV.arr .u32 y9 y10), some (EV.arr .u32 y11 y12), some (EV.arr .u32 y13 y14)]) x0 x1 x2 x3 x4 x5 x6 x7 x8 x9 x10 x11 x12 x13 x14 x15 x16
    rw [← ih]
    exact nat_parts.l31X.stepEq _ K x0 x1 x2 x3 x4 x5 x6 x7 x8 x9 x10 x11 x12 x13 x14 x15 x16
theorem nat_parts.l31X.ok : LoopEq E_nat_parts (loopAt Tryz.f176 4) := by
  intro L hL vs H
  have h1 : E_nat_parts.lp (firstRegion (loopAt Tryz.f176 4)) = some nat_parts.l31.entry := by kernel_rfl
  have h2 : L = nat_parts.l31.entry := Option.some.inj (hL.symm.trans h1)
  subst h2
  by_cases hx : ∃ (x0 : Nat) (x1 : Int) (x2 : Nat) (x3 : Nat) (x4 : Int) (x5 : Int) (x6 : Int) (x7 : Int) (x8 : Int) (x9 : Int) (x10 : Int) (x11 : Nat) (x12 : Nat → Int) (x13 : Nat) (x14 : Nat → Int) (x15 : Nat) (x16 : Nat → Int), vs = [EV.slice 0 0 x0 none 1, EV.int .i64 x1, EV.slice 1 0 x2 none 1, EV.slice 2 0 x3 none 1, EV.int .i64 x4, EV.int .i64 x5, EV.int .u64 x6, EV.int .u64 x7, EV.int .i64 x8, EV.int .i64 x9, EV.int .i64 x10] ∧ H = [some (EV.arr .u32 x11 x12), some (EV.arr .u32 x13 x14), some (EV.arr .u32 x15 x16)]
  · obtain ⟨x0, x1, x2, x3, x4, x5, x6, x7, x8, x9, x10, x11, x12, x13, x14, x15, x16, rfl, rfl⟩ := hx
    right; intro K
    exact exists_congr fun n => iff_of_eq (nat_parts.l31X.eq K n x0 x1 x2 x3 x4 x5 x6 x7 x8 x9 x10 x11 x12 x13 x14 x15 x16).symm
  · left; intro K h
    simp only [nat_parts.l31.entry] at h
    split at h
    · exact hx ⟨_, _, _, _, _, _, _, _, _, _, _, _, _, _, _, _, _, rfl, rfl⟩
    · exact h
theorem nat_parts.l45X.stepEq (R : List EV → Heap → Prop) (K : Ex → List EV → Heap → Prop) (x0 : Nat) (x1 : Int) (x2 : Nat) (x3 : Nat) (x4 : Int) (x5 : Int) (x6 : Int) (x7 : Int) (x8 : Int) (x9 : Int) (x10 : Nat) (x11 : Nat → Int) (x12 : Nat) (x13 : Nat → Int) (x14 : Nat) (x15 : Nat → Int) : loopStep (evCode E_nat_parts (loopAt Tryz.f176 5) { (LV.mk 89872 [(10, 89872), (5, 7952), (4, 1296)] 48 0 true) with nx := live (.loop (loopAt Tryz.f176 5)) (LV.mk 89872 [(10, 89872), (5, 7952), (4, 1296)] 48 0 true) }) (live (.loop (loopAt Tryz.f176 5)) (LV.mk 89872 [(10, 89872), (5, 7952), (4, 1296)] 48 0 true)) (LV.mk 89872 [(10, 89872), (5, 7952), (4, 1296)] 48 0 true) 0 285 R [EV.slice 0 0 x0 none 1, EV.int .i64 x1, EV.slice 1 0 x2 none 1, EV.slice 2 0 x3 none 1, EV.int .i64 x4, EV.int .i64 x5, EV.int .u64 x6, EV.int .u64 x7, EV.int .i64 x8, EV.int .i64 x9] [some (EV.arr .u32 x10 x11), some (EV.arr .u32 x12 x13), some (EV.arr .u32 x14 x15)] K = nat_parts.l45.step (fun x0 x1 x2 x3 x4 x5 x6 x7 x8 x9 x10 x11 x12 x13 x14 x15 => R [EV.slice 0 0 x0 none 1, EV.int .i64 x1, EV.slice 1 0 x2 none 1, EV.slice 2 0 x3 none 1, EV.int .i64 x4, EV.int .i64 x5, EV.int .u64 x6, EV.int .u64 x7, EV.int .i64 x8, EV.int .i64 x9] [some (EV.arr .u32 x10 x11), some (EV.arr .u32 x12 x13), some (EV.arr .u32 x14 x15)]) (fun y0 y1 y2 y3 y4 y5 y6 y7 y8 y9 y10 y11 y12 y13 => K (.exit 10) [EV.slice 0 0 y0 none 1, EV.int .i64 y1, EV.slice 1 0 y2 none 1, EV.slice 2 0 y3 none 1, EV.int .i64 y4, EV.int .i64 y5, EV.int .u64 y6, EV.int .u64 y7] [some (EV.arr .u32 y8 y9), some (EV.arr .u32 y10 y11), some (EV.arr .u32 y12 y13)]) x0 x1 x2 x3 x4 x5 x6 x7 x8 x9 x10 x11 x12 x13 x14 x15 := (stepQ_eq _ _ _ _ _ _ _ _ _ _ _).symm.trans (by kernel_rfl)
theorem nat_parts.l45X.eq (K : Ex → List EV → Heap → Prop) : ∀ (n : Nat) (x0 : Nat) (x1 : Int) (x2 : Nat) (x3 : Nat) (x4 : Int) (x5 : Int) (x6 : Int) (x7 : Int) (x8 : Int) (x9 : Int) (x10 : Nat) (x11 : Nat → Int) (x12 : Nat) (x13 : Nat → Int) (x14 : Nat) (x15 : Nat → Int), loopE E_nat_parts (loopAt Tryz.f176 5) (LV.mk 89872 [(10, 89872), (5, 7952), (4, 1296)] 48 0 true) 0 285 K n [EV.slice 0 0 x0 none 1, EV.int .i64 x1, EV.slice 1 0 x2 none 1, EV.slice 2 0 x3 none 1, EV.int .i64 x4, EV.int .i64 x5, EV.int .u64 x6, EV.int .u64 x7, EV.int .i64 x8, EV.int .i64 x9] [some (EV.arr .u32 x10 x11), some (EV.arr .u32 x12 x13), some (EV.arr .u32 x14 x15)] = nat_parts.l45 (fun y0 y1 y2 y3 y4 y5 y6 y7 y8 y9 y10 y11 y12 y13 => K (.exit 10) [EV.slice 0 0 y0 none 1, EV.int .i64 y1, EV.slice 1 0 y2 none 1, EV.slice 2 0 y3 none 1, EV.int .i64 y4, EV.int .i64 y5, EV.int .u64 y6, EV.int .u64 y7] [some (EV.arr .u32 y8 y9), some (EV.arr .u32 y10 y11), some (EV.arr .u32 y12 y13)]) n x0 x1 x2 x3 x4 x5 x6 x7 x8 x9 x10 x11 x12 x13 x14 x15
  | 0, _, _, _, _, _, _, _, _, _, _, _, _, _, _, _, _ => rfl
  | n + 1, x0, x1, x2, x3, x4, x5, x6, x7, x8, x9, x10, x11, x12, x13, x14, x15 => by
    have ih : (fun (x0 : Nat) (x1 : Int) (x2 : Nat) (x3 : Nat) (x4 : Int) (x5 : Int) (x6 : Int) (x7 : Int) (x8 : Int) (x9 : Int) (x10 : Nat) (x11 : Nat → Int) (x12 : Nat) (x13 : Nat → Int) (x14 : Nat) (x15 : Nat → Int) => loopE E_nat_parts (loopAt Tryz.f176 5) (LV.mk 89872 [(10, 89872), (5, 7952), (4, 1296)] 48 0 true) 0 285 K n [EV.slice 0 0 x0 none 1, EV.int .i64 x1, EV.slice 1 0 x2 none 1, EV.slice 2 0 x3 none 1, EV.int .i64 x4, EV.int .i64 x5, EV.int .u64 x6, EV.int .u64 x7, EV.int .i64 x8, EV.int .i64 x9] [some (EV.arr .u32 x10 x11), some (EV.arr .u32 x12 x13), some (EV.arr .u32 x14 x15)]) = nat_parts.l45 (fun y0 y1 y2 y3 y4 y5 y6 y7 y8 y9 y10 y11 y12 y13 => K (.exit 10) [EV.slice 0 0 y0 none 1, EV.int .i64 y1, EV.slice 1 0 y2 none 1, EV.slice 2 0 y3 none 1, EV.int .i64 y4, EV.int .i64 y5, EV.int .u64 y6, EV.int .u64 y7] [some (EV.arr .u32 y8 y9), some (EV.arr .u32 y10 y11), some (EV.arr .u32 y12 y13)]) n := by funext x0 x1 x2 x3 x4 x5 x6 x7 x8 x9 x10 x11 x12 x13 x14 x15; exact nat_parts.l45X.eq K n x0 x1 x2 x3 x4 x5 x6 x7 x8 x9 x10 x11 x12 x13 x14 x15
    show loopStep _ _ _ _ _ (loopE E_nat_parts (loopAt Tryz.f176 5) (LV.mk 89872 [(10, 89872), (5, 7952), (4, 1296)] 48 0 true) 0 285 K n) [EV.slice 0 0 x0 none 1, EV.int .i64 x1, EV.slice 1 0 x2 none 1, EV.slice 2 0 x3 none 1, EV.int .i64 x4, EV.int .i64 x5, EV.int .u64 x6, EV.int .u64 x7, EV.int .i64 x8, EV.int .i64 x9] [some (EV.arr .u32 x10 x11), some (EV.arr .u32 x12 x13), some (EV.arr .u32 x14 x15)] K = nat_parts.l45.step (nat_parts.l45 (fun y0 y1 y2 y3 y4 y5 y6 y7 y8 y9 y10 y11 y12 y13 => K (.exit 10) [EV.slice 0 0 y0 none 1, EV.int .i64 y1, EV.slice 1 0 y2 none 1, EV.slice 2 0 y3 none 1, EV.int .i64 y4, EV.int .i64 y5, EV.int .u64 y6, EV.int .u64 y7] [some (EV.arr .u32 y8 y9), some (EV.arr .u32 y10 y11), some (EV.arr .u32 y12 y13)]) n) (fun y0 y1 y2 y3 y4 y5 y6 y7 y8 y9 y10 y11 y12 y13 => K (.exit 10) [EV.slice 0 0 y0 none 1, EV.int .i64 y1, EV.slice 1 0 y2 none 1, EV.slice 2 0 y3 none 1, EV.int .i64 y4, EV.int .i64 y5, EV.int .u64 y6, EV.int .u64 y7] [some (EV.arr .u32 y8 y9), some (EV.arr .u32 y10 y11), some (EV.arr .u32 y12 y13)]) x0 x1 x2 x3 x4 x5 x6 x7 x8 x9 x10 x11 x12 x13 x14 x15
    rw [← ih]
    exact nat_parts.l45X.stepEq _ K x0 x1 x2 x3 x4 x5 x6 x7 x8 x9 x10 x11 x12 x13 x14 x15
theorem nat_parts.l45X.ok : LoopEq E_nat_parts (loopAt Tryz.f176 5) := by
  intro L hL vs H
  have h1 : E_nat_parts.lp (firstRegion (loopAt Tryz.f176 5)) = some nat_parts.l45.entry := by kernel_rfl
  have h2 : L = nat_parts.l45.entry := Option.some.inj (hL.symm.trans h1)
  subst h2
  by_cases hx : ∃ (x0 : Nat) (x1 : Int) (x2 : Nat) (x3 : Nat) (x4 : Int) (x5 : Int) (x6 : Int) (x7 : Int) (x8 : Int) (x9 : Int) (x10 : Nat) (x11 : Nat → Int) (x12 : Nat) (x13 : Nat → Int) (x14 : Nat) (x15 : Nat → Int), vs = [EV.slice 0 0 x0 none 1, EV.int .i64 x1, EV.slice 1 0 x2 none 1, EV.slice 2 0 x3 none 1, EV.int .i64 x4, EV.int .i64 x5, EV.int .u64 x6, EV.int .u64 x7, EV.int .i64 x8, EV.int .i64 x9] ∧ H = [some (EV.arr .u32 x10 x11), some (EV.arr .u32 x12 x13), some (EV.arr .u32 x14 x15)]
  · obtain ⟨x0, x1, x2, x3, x4, x5, x6, x7, x8, x9, x10, x11, x12, x13, x14, x15, rfl, rfl⟩ := hx
    right; intro K
    exact exists_congr fun n => iff_of_eq (nat_parts.l45X.eq K n x0 x1 x2 x3 x4 x5 x6 x7 x8 x9 x10 x11 x12 x13 x14 x15).symm
  · left; intro K h
    simp only [nat_parts.l45.entry] at h
    split at h
    · exact hx ⟨_, _, _, _, _, _, _, _, _, _, _, _, _, _, _, _, rfl, rfl⟩
    · exact h
theorem X_nat_parts.eq (a0n : Nat) (a0 : Nat → Int) (a1n : Nat) (a1 : Nat → Int) (K : EV → Heap → Prop) : evFn E_nat_parts Tryz.f176 false [.rsI .u32 a0n a0, .rsI .u32 a1n a1] [] K = nat_parts a0n a0 a1n a1 (fun y0 y1 y2 y3 => K (EV.tuple [EV.rsI .u32 y0 y1, EV.rsI .u32 y2 y3]) []) := by
  rw [nat_parts.is]; exact (evFnQ_eq _ _ _ _ _ _).symm.trans (by kernel_rfl)
theorem X_nat_parts.ok : SoundE Tryz.prog gl 176 e_nat_parts := by
  refine fnOK (E := E_nat_parts) (fn := Tryz.f176) rfl tys_ok rfl (show AllL _ l_nat_parts from ⟨X_word_Len.ok, X_nat_down.ok, X_nat_cut.ok, X_nat_upN.ok, X_nat_cmp.ok, trivial⟩) mixed (by kernel_rfl) (by kernel_rfl) (by kernel_rfl) 6 (by kernel_rfl) false ⟨nat_parts.l7X.ok, nat_parts.l16X.ok, nat_parts.l20X.ok, nat_parts.l24X.ok, nat_parts.l31X.ok, nat_parts.l45X.ok, trivial⟩ ?_
  intro args H
  by_cases hx : ∃ (a0n : Nat) (a0 : Nat → Int) (a1n : Nat) (a1 : Nat → Int), args = [.rsI .u32 a0n a0, .rsI .u32 a1n a1] ∧ H = []
  · obtain ⟨a0n, a0, a1n, a1, rfl, rfl⟩ := hx
    right; intro K
    exact iff_of_eq (X_nat_parts.eq a0n a0 a1n a1 K).symm
  · left; intro K h
    simp only [e_nat_parts] at h
    split at h
    · exact hx ⟨_, _, _, _, rfl, rfl⟩
    · exact h
end Go.Ev.S
