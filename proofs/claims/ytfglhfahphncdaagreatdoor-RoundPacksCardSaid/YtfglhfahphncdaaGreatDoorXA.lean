/- The functions of the seat: that the evaluator has them as they are. -/
import Derived.Test.YtfglhfahphncdaaGreatDoorProg
import Derived.Test.YtfglhfahphncdaaGreatDoorEvC
import Derived.Test.YtfglhfahphncdaaGreatDoorDA
import Derived.KernelRfl
set_option maxRecDepth 100000
set_option linter.unusedVariables false
set_option linter.unusedSimpArgs false
namespace Go.Ev.S
open Go Go.Proofs Go.Ev
def tys : List (Nat × TI) := [
  (1, ⟨.func, 1, 8, .nilFunc⟩),
  (2, ⟨.int .i64, 1, 8, .int .i64 0⟩),
  (3, ⟨.int .i64, 1, 8, .int .i64 0⟩),
  (4, ⟨.bool, 1, 1, .bool false⟩),
  (5, ⟨.int .u8, 1, 1, .int .u8 0⟩),
  (6, ⟨.int .u8, 1, 1, .int .u8 0⟩),
  (7, ⟨.struct [(0, 2), (1, 3), (2, 4), (3, 6)], 4, 24, .agg [.int .i64 0, .int .i64 0, .bool false, .int .u8 0]⟩),
  (8, ⟨.struct [(0, 2), (1, 3), (2, 4), (3, 6)], 4, 24, .agg [.int .i64 0, .int .i64 0, .bool false, .int .u8 0]⟩),
  (9, ⟨.str, 1, 16, .str []⟩),
  (10, ⟨.str, 1, 16, .str []⟩),
  (11, ⟨.str, 1, 16, .str []⟩),
  (12, ⟨.int .u64, 1, 8, .int .u64 0⟩),
  (15, ⟨.ptr, 1, 8, .nilPtr⟩),
  (16, ⟨.ptr, 1, 8, .nilPtr⟩),
  (17, ⟨.ptr, 1, 8, .nilPtr⟩),
  (21, ⟨.int .i32, 1, 4, .int .i32 0⟩),
  (22, ⟨.int .u8, 1, 1, .int .u8 0⟩),
  (23, ⟨.int .u8, 1, 1, .int .u8 0⟩),
  (24, ⟨.int .u64, 1, 8, .int .u64 0⟩),
  (25, ⟨.array 6 24, 6, 48, .arr .u64 6 (fun _ => 0)⟩),
  (26, ⟨.array 6 24, 6, 48, .arr .u64 6 (fun _ => 0)⟩),
  (27, ⟨.struct [(0, 4), (1, 26), (7, 3), (8, 4)], 9, 72, .agg [.bool false, .arr .u64 6 (fun _ => 0), .int .i64 0, .bool false]⟩),
  (28, ⟨.struct [(0, 4), (1, 26), (7, 3), (8, 4)], 9, 72, .agg [.bool false, .arr .u64 6 (fun _ => 0), .int .i64 0, .bool false]⟩),
  (29, ⟨.struct [(0, 24), (1, 24)], 2, 16, .agg [.int .u64 0, .int .u64 0]⟩),
  (30, ⟨.struct [(0, 24), (1, 24)], 2, 16, .agg [.int .u64 0, .int .u64 0]⟩),
  (31, ⟨.int .u8, 1, 1, .int .u8 0⟩),
  (32, ⟨.int .i64, 1, 8, .int .i64 0⟩),
  (34, ⟨.func, 1, 8, .nilFunc⟩),
  (36, ⟨.func, 1, 8, .nilFunc⟩),
  (37, ⟨.func, 1, 8, .nilFunc⟩),
  (38, ⟨.func, 1, 8, .nilFunc⟩),
  (39, ⟨.str, 1, 16, .str []⟩),
  (40, ⟨.struct [(0, 4), (1, 39), (2, 39), (3, 3)], 4, 48, .agg [.bool false, .str [], .str [], .int .i64 0]⟩),
  (41, ⟨.struct [(0, 4), (1, 39), (2, 39), (3, 3)], 4, 48, .agg [.bool false, .str [], .str [], .int .i64 0]⟩),
  (43, ⟨.func, 1, 8, .nilFunc⟩),
  (44, ⟨.func, 1, 8, .nilFunc⟩),
  (46, ⟨.func, 1, 8, .nilFunc⟩),
  (48, ⟨.func, 1, 8, .nilFunc⟩),
  (49, ⟨.func, 1, 8, .nilFunc⟩),
  (50, ⟨.func, 1, 8, .nilFunc⟩),
  (52, ⟨.func, 1, 8, .nilFunc⟩),
  (53, ⟨.func, 1, 8, .nilFunc⟩),
  (54, ⟨.func, 1, 8, .nilFunc⟩),
  (55, ⟨.func, 1, 8, .nilFunc⟩),
  (57, ⟨.func, 1, 8, .nilFunc⟩),
  (58, ⟨.func, 1, 8, .nilFunc⟩),
  (59, ⟨.func, 1, 8, .nilFunc⟩),
  (60, ⟨.func, 1, 8, .nilFunc⟩),
  (61, ⟨.func, 1, 8, .nilFunc⟩),
  (62, ⟨.func, 1, 8, .nilFunc⟩),
  (63, ⟨.func, 1, 8, .nilFunc⟩),
  (65, ⟨.func, 1, 8, .nilFunc⟩),
  (66, ⟨.func, 1, 8, .nilFunc⟩),
  (68, ⟨.func, 1, 8, .nilFunc⟩),
  (70, ⟨.func, 1, 8, .nilFunc⟩),
  (71, ⟨.func, 1, 8, .nilFunc⟩),
  (72, ⟨.int .u8, 1, 1, .int .u8 0⟩),
  (73, ⟨.struct [(0, 72), (1, 26), (7, 3), (8, 26)], 14, 112, .agg [.int .u8 0, .arr .u64 6 (fun _ => 0), .int .i64 0, .arr .u64 6 (fun _ => 0)]⟩),
  (74, ⟨.struct [(0, 72), (1, 26), (7, 3), (8, 26)], 14, 112, .agg [.int .u8 0, .arr .u64 6 (fun _ => 0), .int .i64 0, .arr .u64 6 (fun _ => 0)]⟩),
  (76, ⟨.func, 1, 8, .nilFunc⟩),
  (77, ⟨.func, 1, 8, .nilFunc⟩),
  (78, ⟨.func, 1, 8, .nilFunc⟩),
  (79, ⟨.func, 1, 8, .nilFunc⟩),
  (80, ⟨.func, 1, 8, .nilFunc⟩),
  (81, ⟨.func, 1, 8, .nilFunc⟩),
  (82, ⟨.func, 1, 8, .nilFunc⟩),
  (83, ⟨.func, 1, 8, .nilFunc⟩),
  (85, ⟨.func, 1, 8, .nilFunc⟩),
  (86, ⟨.func, 1, 8, .nilFunc⟩),
  (87, ⟨.func, 1, 8, .nilFunc⟩),
  (88, ⟨.func, 1, 8, .nilFunc⟩),
  (89, ⟨.func, 1, 8, .nilFunc⟩),
  (90, ⟨.func, 1, 8, .nilFunc⟩),
  (92, ⟨.func, 1, 8, .nilFunc⟩),
  (93, ⟨.func, 1, 8, .nilFunc⟩),
  (94, ⟨.func, 1, 8, .nilFunc⟩),
  (95, ⟨.func, 1, 8, .nilFunc⟩),
  (96, ⟨.func, 1, 8, .nilFunc⟩),
  (98, ⟨.func, 1, 8, .nilFunc⟩),
  (99, ⟨.func, 1, 8, .nilFunc⟩),
  (100, ⟨.func, 1, 8, .nilFunc⟩),
  (102, ⟨.func, 1, 8, .nilFunc⟩),
  (104, ⟨.func, 1, 8, .nilFunc⟩),
  (105, ⟨.func, 1, 8, .nilFunc⟩),
  (106, ⟨.func, 1, 8, .nilFunc⟩),
  (107, ⟨.func, 1, 8, .nilFunc⟩),
  (108, ⟨.func, 1, 8, .nilFunc⟩),
  (109, ⟨.func, 1, 8, .nilFunc⟩),
  (110, ⟨.func, 1, 8, .nilFunc⟩),
  (111, ⟨.func, 1, 8, .nilFunc⟩),
  (112, ⟨.func, 1, 8, .nilFunc⟩),
  (114, ⟨.func, 1, 8, .nilFunc⟩),
  (116, ⟨.func, 1, 8, .nilFunc⟩),
  (117, ⟨.func, 1, 8, .nilFunc⟩),
  (118, ⟨.func, 1, 8, .nilFunc⟩),
  (119, ⟨.slice 5, 1, 24, .nilSlice⟩),
  (120, ⟨.func, 1, 8, .nilFunc⟩),
  (121, ⟨.int .u64, 1, 8, .int .u64 0⟩),
  (122, ⟨.func, 1, 8, .nilFunc⟩),
  (123, ⟨.func, 1, 8, .nilFunc⟩),
  (124, ⟨.func, 1, 8, .nilFunc⟩),
  (126, ⟨.func, 1, 8, .nilFunc⟩),
  (127, ⟨.func, 1, 8, .nilFunc⟩),
  (128, ⟨.func, 1, 8, .nilFunc⟩),
  (129, ⟨.struct [(0, 41), (4, 4)], 5, 56, .agg [.agg [.bool false, .str [], .str [], .int .i64 0], .bool false]⟩),
  (130, ⟨.struct [(0, 41), (4, 4)], 5, 56, .agg [.agg [.bool false, .str [], .str [], .int .i64 0], .bool false]⟩),
  (131, ⟨.func, 1, 8, .nilFunc⟩),
  (132, ⟨.func, 1, 8, .nilFunc⟩),
  (133, ⟨.func, 1, 8, .nilFunc⟩),
  (135, ⟨.func, 1, 8, .nilFunc⟩),
  (136, ⟨.func, 1, 8, .nilFunc⟩),
  (137, ⟨.func, 1, 8, .nilFunc⟩),
  (139, ⟨.func, 1, 8, .nilFunc⟩),
  (140, ⟨.func, 1, 8, .nilFunc⟩),
  (141, ⟨.func, 1, 8, .nilFunc⟩),
  (142, ⟨.func, 1, 8, .nilFunc⟩),
  (144, ⟨.func, 1, 8, .nilFunc⟩),
  (145, ⟨.func, 1, 8, .nilFunc⟩),
  (146, ⟨.func, 1, 8, .nilFunc⟩),
  (148, ⟨.func, 1, 8, .nilFunc⟩),
  (149, ⟨.func, 1, 8, .nilFunc⟩),
  (151, ⟨.func, 1, 8, .nilFunc⟩),
  (152, ⟨.func, 1, 8, .nilFunc⟩),
  (153, ⟨.func, 1, 8, .nilFunc⟩),
  (154, ⟨.func, 1, 8, .nilFunc⟩),
  (155, ⟨.func, 1, 8, .nilFunc⟩),
  (157, ⟨.func, 1, 8, .nilFunc⟩),
  (159, ⟨.func, 1, 8, .nilFunc⟩),
  (160, ⟨.slice 161, 1, 24, .nilSlice⟩),
  (161, ⟨.int .u32, 1, 4, .int .u32 0⟩),
  (162, ⟨.func, 1, 8, .nilFunc⟩),
  (163, ⟨.func, 1, 8, .nilFunc⟩),
  (164, ⟨.func, 1, 8, .nilFunc⟩),
  (165, ⟨.func, 1, 8, .nilFunc⟩),
  (166, ⟨.func, 1, 8, .nilFunc⟩),
  (167, ⟨.func, 1, 8, .nilFunc⟩),
  (168, ⟨.func, 1, 8, .nilFunc⟩),
  (169, ⟨.func, 1, 8, .nilFunc⟩),
  (170, ⟨.func, 1, 8, .nilFunc⟩),
  (172, ⟨.func, 1, 8, .nilFunc⟩),
  (173, ⟨.func, 1, 8, .nilFunc⟩),
  (175, ⟨.func, 1, 8, .nilFunc⟩),
  (177, ⟨.func, 1, 8, .nilFunc⟩),
  (179, ⟨.func, 1, 8, .nilFunc⟩),
  (183, ⟨.func, 1, 8, .nilFunc⟩),
  (184, ⟨.func, 1, 8, .nilFunc⟩),
  (186, ⟨.func, 1, 8, .nilFunc⟩),
  (188, ⟨.func, 1, 8, .nilFunc⟩),
  (189, ⟨.func, 1, 8, .nilFunc⟩),
  (190, ⟨.func, 1, 8, .nilFunc⟩),
  (191, ⟨.struct [(0, 3), (1, 3), (2, 3), (3, 9)], 4, 40, .agg [.int .i64 0, .int .i64 0, .int .i64 0, .str []]⟩),
  (192, ⟨.array 4 191, 16, 160, .agg [.agg [.int .i64 0, .int .i64 0, .int .i64 0, .str []], .agg [.int .i64 0, .int .i64 0, .int .i64 0, .str []], .agg [.int .i64 0, .int .i64 0, .int .i64 0, .str []], .agg [.int .i64 0, .int .i64 0, .int .i64 0, .str []]]⟩),
  (193, ⟨.func, 1, 8, .nilFunc⟩),
  (194, ⟨.func, 1, 8, .nilFunc⟩),
  (195, ⟨.func, 1, 8, .nilFunc⟩),
  (196, ⟨.func, 1, 8, .nilFunc⟩),
  (197, ⟨.struct [(0, 9), (1, 3), (2, 3), (3, 4)], 4, 40, .agg [.str [], .int .i64 0, .int .i64 0, .bool false]⟩),
  (198, ⟨.struct [(0, 9), (1, 3), (2, 3), (3, 4)], 4, 40, .agg [.str [], .int .i64 0, .int .i64 0, .bool false]⟩),
  (199, ⟨.func, 1, 8, .nilFunc⟩),
  (200, ⟨.func, 1, 8, .nilFunc⟩),
  (201, ⟨.func, 1, 8, .nilFunc⟩),
  (202, ⟨.func, 1, 8, .nilFunc⟩),
  (203, ⟨.func, 1, 8, .nilFunc⟩),
  (205, ⟨.func, 1, 8, .nilFunc⟩),
  (206, ⟨.func, 1, 8, .nilFunc⟩),
  (207, ⟨.func, 1, 8, .nilFunc⟩),
  (208, ⟨.func, 1, 8, .nilFunc⟩),
  (209, ⟨.func, 1, 8, .nilFunc⟩),
  (210, ⟨.func, 1, 8, .nilFunc⟩),
  (211, ⟨.func, 1, 8, .nilFunc⟩),
  (212, ⟨.func, 1, 8, .nilFunc⟩),
  (213, ⟨.func, 1, 8, .nilFunc⟩),
  (214, ⟨.func, 1, 8, .nilFunc⟩),
  (216, ⟨.func, 1, 8, .nilFunc⟩),
  (217, ⟨.func, 1, 8, .nilFunc⟩),
  (218, ⟨.func, 1, 8, .nilFunc⟩),
  (219, ⟨.func, 1, 8, .nilFunc⟩),
  (220, ⟨.func, 1, 8, .nilFunc⟩),
  (221, ⟨.array 24 5, 24, 24, .arr .u8 24 (fun _ => 0)⟩),
  (222, ⟨.func, 1, 8, .nilFunc⟩),
  (224, ⟨.func, 1, 8, .nilFunc⟩),
  (225, ⟨.func, 1, 8, .nilFunc⟩),
  (226, ⟨.int .i64, 1, 8, .int .i64 0⟩),
  (228, ⟨.func, 1, 8, .nilFunc⟩),
  (229, ⟨.ptr, 1, 8, .nilPtr⟩),
  (230, ⟨.func, 1, 8, .nilFunc⟩),
  (231, ⟨.func, 1, 8, .nilFunc⟩),
  (232, ⟨.array 64 5, 64, 64, .arr .u8 64 (fun _ => 0)⟩),
  (233, ⟨.func, 1, 8, .nilFunc⟩),
  (234, ⟨.func, 1, 8, .nilFunc⟩),
  (235, ⟨.array 20 24, 20, 160, .arr .u64 20 (fun _ => 0)⟩),
  (236, ⟨.array 65 5, 65, 65, .arr .u8 65 (fun _ => 0)⟩),
  (237, ⟨.func, 1, 8, .nilFunc⟩),
  (239, ⟨.func, 1, 8, .nilFunc⟩),
  (240, ⟨.func, 1, 8, .nilFunc⟩),
  (243, ⟨.func, 1, 8, .nilFunc⟩),
  (244, ⟨.func, 1, 8, .nilFunc⟩),
  (246, ⟨.func, 1, 8, .nilFunc⟩),
  (247, ⟨.func, 1, 8, .nilFunc⟩),
  (248, ⟨.ptr, 1, 8, .nilPtr⟩),
  (249, ⟨.ptr, 1, 8, .nilPtr⟩),
  (250, ⟨.struct [(0, 9)], 1, 16, .agg [.str []]⟩),
  (251, ⟨.struct [(0, 9)], 1, 16, .agg [.str []]⟩),
  (252, ⟨.array 32 5, 32, 32, .arr .u8 32 (fun _ => 0)⟩),
  (253, ⟨.func, 1, 8, .nilFunc⟩),
  (256, ⟨.array 0 16, 0, 0, .agg []⟩),
  (259, ⟨.int .u8, 1, 1, .int .u8 0⟩),
  (260, ⟨.int .u8, 1, 1, .int .u8 0⟩),
  (261, ⟨.func, 1, 8, .nilFunc⟩),
  (262, ⟨.int .i32, 1, 4, .int .i32 0⟩),
  (263, ⟨.int .i32, 1, 4, .int .i32 0⟩)]
theorem tys_ok : AllL (OkTI Tryz.prog) tys :=
  ⟨.of (by kernel_rfl) (by kernel_rfl), .of (by kernel_rfl) (by kernel_rfl), .of (by kernel_rfl) (by kernel_rfl), .of (by kernel_rfl) (by kernel_rfl), .of (by kernel_rfl) (by kernel_rfl), .of (by kernel_rfl) (by kernel_rfl), .of (by kernel_rfl) (by kernel_rfl), .of (by kernel_rfl) (by kernel_rfl), .of (by kernel_rfl) (by kernel_rfl), .of (by kernel_rfl) (by kernel_rfl), .of (by kernel_rfl) (by kernel_rfl), .of (by kernel_rfl) (by kernel_rfl), .of (by kernel_rfl) (by kernel_rfl), .of (by kernel_rfl) (by kernel_rfl), .of (by kernel_rfl) (by kernel_rfl), .of (by kernel_rfl) (by kernel_rfl), .of (by kernel_rfl) (by kernel_rfl), .of (by kernel_rfl) (by kernel_rfl), .of (by kernel_rfl) (by kernel_rfl), .of (by kernel_rfl) (by kernel_rfl), .of (by kernel_rfl) (by kernel_rfl), .of (by kernel_rfl) (by kernel_rfl), .of (by kernel_rfl) (by kernel_rfl), .of (by kernel_rfl) (by kernel_rfl), .of (by kernel_rfl) (by kernel_rfl), .of (by kernel_rfl) (by kernel_rfl), .of (by kernel_rfl) (by kernel_rfl), .of (by kernel_rfl) (by kernel_rfl), .of (by kernel_rfl) (by kernel_rfl), .of (by kernel_rfl) (by kernel_rfl), .of (by kernel_rfl) (by kernel_rfl), .of (by kernel_rfl) (by kernel_rfl), .of (by kernel_rfl) (by kernel_rfl), .of (by kernel_rfl) (by kernel_rfl), .of (by kernel_rfl) (by kernel_rfl), .of (by kernel_rfl) (by kernel_rfl), .of (by kernel_rfl) (by kernel_rfl), .of (by kernel_rfl) (by kernel_rfl), .of (by kernel_rfl) (by kernel_rfl), .of (by kernel_rfl) (by kernel_rfl), .of (by kernel_rfl) (by kernel_rfl), .of (by kernel_rfl) (by kernel_rfl), .of (by kernel_rfl) (by kernel_rfl), .of (by kernel_rfl) (by kernel_rfl), .of (by kernel_rfl) (by kernel_rfl), .of (by kernel_rfl) (by kernel_rfl), .of (by kernel_rfl) (by kernel_rfl), .of (by kernel_rfl) (by kernel_rfl), .of (by kernel_rfl) (by kernel_rfl), .of (by kernel_rfl) (by kernel_rfl), .of (by kernel_rfl) (by kernel_rfl), .of (by kernel_rfl) (by kernel_rfl), .of (by kernel_rfl) (by kernel_rfl), .of (by kernel_rfl) (by kernel_rfl), .of (by kernel_rfl) (by kernel_rfl), .of (by kernel_rfl) (by kernel_rfl), .of (by kernel_rfl) (by kernel_rfl), .of (by kernel_rfl) (by kernel_rfl), .of (by kernel_rfl) (by kernel_rfl), .of (by kernel_rfl) (by kernel_rfl), .of (by kernel_rfl) (by kernel_rfl), .of (by kernel_rfl) (by kernel_rfl), .of (by kernel_rfl) (by kernel_rfl), .of (by kernel_rfl) (by kernel_rfl), .of (by kernel_rfl) (by kernel_rfl), .of (by kernel_rfl) (by kernel_rfl), .of (by kernel_rfl) (by kernel_rfl), .of (by kernel_rfl) (by kernel_rfl), .of (by kernel_rfl) (by kernel_rfl), .of (by kernel_rfl) (by kernel_rfl), .of (by kernel_rfl) (by kernel_rfl), .of (by kernel_rfl) (by kernel_rfl), .of (by kernel_rfl) (by kernel_rfl), .of (by kernel_rfl) (by kernel_rfl), .of (by kernel_rfl) (by kernel_rfl), .of (by kernel_rfl) (by kernel_rfl), .of (by kernel_rfl) (by kernel_rfl), .of (by kernel_rfl) (by kernel_rfl), .of (by kernel_rfl) (by kernel_rfl), .of (by kernel_rfl) (by kernel_rfl), .of (by kernel_rfl) (by kernel_rfl), .of (by kernel_rfl) (by kernel_rfl), .of (by kernel_rfl) (by kernel_rfl), .of (by kernel_rfl) (by kernel_rfl), .of (by kernel_rfl) (by kernel_rfl), .of (by kernel_rfl) (by kernel_rfl), .of (by kernel_rfl) (by kernel_rfl), .of (by kernel_rfl) (by kernel_rfl), .of (by kernel_rfl) (by kernel_rfl), .of (by kernel_rfl) (by kernel_rfl), .of (by kernel_rfl) (by kernel_rfl), .of (by kernel_rfl) (by kernel_rfl), .of (by kernel_rfl) (by kernel_rfl), .of (by kernel_rfl) (by kernel_rfl), .of (by kernel_rfl) (by kernel_rfl), .of (by kernel_rfl) (by kernel_rfl), .of (by kernel_rfl) (by kernel_rfl), .of (by kernel_rfl) (by kernel_rfl), .of (by kernel_rfl) (by kernel_rfl), .of (by kernel_rfl) (by kernel_rfl), .of (by kernel_rfl) (by kernel_rfl), .of (by kernel_rfl) (by kernel_rfl), .of (by kernel_rfl) (by kernel_rfl), .of (by kernel_rfl) (by kernel_rfl), .of (by kernel_rfl) (by kernel_rfl), .of (by kernel_rfl) (by kernel_rfl), .of (by kernel_rfl) (by kernel_rfl), .of (by kernel_rfl) (by kernel_rfl), .of (by kernel_rfl) (by kernel_rfl), .of (by kernel_rfl) (by kernel_rfl), .of (by kernel_rfl) (by kernel_rfl), .of (by kernel_rfl) (by kernel_rfl), .of (by kernel_rfl) (by kernel_rfl), .of (by kernel_rfl) (by kernel_rfl), .of (by kernel_rfl) (by kernel_rfl), .of (by kernel_rfl) (by kernel_rfl), .of (by kernel_rfl) (by kernel_rfl), .of (by kernel_rfl) (by kernel_rfl), .of (by kernel_rfl) (by kernel_rfl), .of (by kernel_rfl) (by kernel_rfl), .of (by kernel_rfl) (by kernel_rfl), .of (by kernel_rfl) (by kernel_rfl), .of (by kernel_rfl) (by kernel_rfl), .of (by kernel_rfl) (by kernel_rfl), .of (by kernel_rfl) (by kernel_rfl), .of (by kernel_rfl) (by kernel_rfl), .of (by kernel_rfl) (by kernel_rfl), .of (by kernel_rfl) (by kernel_rfl), .of (by kernel_rfl) (by kernel_rfl), .of (by kernel_rfl) (by kernel_rfl), .of (by kernel_rfl) (by kernel_rfl), .of (by kernel_rfl) (by kernel_rfl), .of (by kernel_rfl) (by kernel_rfl), .of (by kernel_rfl) (by kernel_rfl), .of (by kernel_rfl) (by kernel_rfl), .of (by kernel_rfl) (by kernel_rfl), .of (by kernel_rfl) (by kernel_rfl), .of (by kernel_rfl) (by kernel_rfl), .of (by kernel_rfl) (by kernel_rfl), .of (by kernel_rfl) (by kernel_rfl), .of (by kernel_rfl) (by kernel_rfl), .of (by kernel_rfl) (by kernel_rfl), .of (by kernel_rfl) (by kernel_rfl), .of (by kernel_rfl) (by kernel_rfl), .of (by kernel_rfl) (by kernel_rfl), .of (by kernel_rfl) (by kernel_rfl), .of (by kernel_rfl) (by kernel_rfl), .of (by kernel_rfl) (by kernel_rfl), .of (by kernel_rfl) (by kernel_rfl), .of (by kernel_rfl) (by kernel_rfl), .of (by kernel_rfl) (by kernel_rfl), .of (by kernel_rfl) (by kernel_rfl), .of (by kernel_rfl) (by kernel_rfl), .of (by kernel_rfl) (by kernel_rfl), .of (by kernel_rfl) (by kernel_rfl), .of (by kernel_rfl) (by kernel_rfl), .of (by kernel_rfl) (by kernel_rfl), .of (by kernel_rfl) (by kernel_rfl), .of (by kernel_rfl) (by kernel_rfl), .of (by kernel_rfl) (by kernel_rfl), .of (by kernel_rfl) (by kernel_rfl), .of (by kernel_rfl) (by kernel_rfl), .of (by kernel_rfl) (by kernel_rfl), .of (by kernel_rfl) (by kernel_rfl), .of (by kernel_rfl) (by kernel_rfl), .of (by kernel_rfl) (by kernel_rfl), .of (by kernel_rfl) (by kernel_rfl), .of (by kernel_rfl) (by kernel_rfl), .of (by kernel_rfl) (by kernel_rfl), .of (by kernel_rfl) (by kernel_rfl), .of (by kernel_rfl) (by kernel_rfl), .of (by kernel_rfl) (by kernel_rfl), .of (by kernel_rfl) (by kernel_rfl), .of (by kernel_rfl) (by kernel_rfl), .of (by kernel_rfl) (by kernel_rfl), .of (by kernel_rfl) (by kernel_rfl), .of (by kernel_rfl) (by kernel_rfl), .of (by kernel_rfl) (by kernel_rfl), .of (by kernel_rfl) (by kernel_rfl), .of (by kernel_rfl) (by kernel_rfl), .of (by kernel_rfl) (by kernel_rfl), .of (by kernel_rfl) (by kernel_rfl), .of (by kernel_rfl) (by kernel_rfl), .of (by kernel_rfl) (by kernel_rfl), .of (by kernel_rfl) (by kernel_rfl), .of (by kernel_rfl) (by kernel_rfl), .of (by kernel_rfl) (by kernel_rfl), .of (by kernel_rfl) (by kernel_rfl), .of (by kernel_rfl) (by kernel_rfl), .of (by kernel_rfl) (by kernel_rfl), .of (by kernel_rfl) (by kernel_rfl), .of (by kernel_rfl) (by kernel_rfl), .of (by kernel_rfl) (by kernel_rfl), .of (by kernel_rfl) (by kernel_rfl), .of (by kernel_rfl) (by kernel_rfl), .of (by kernel_rfl) (by kernel_rfl), .of (by kernel_rfl) (by kernel_rfl), .of (by kernel_rfl) (by kernel_rfl), .of (by kernel_rfl) (by kernel_rfl), .of (by kernel_rfl) (by kernel_rfl), .of (by kernel_rfl) (by kernel_rfl), .of (by kernel_rfl) (by kernel_rfl), .of (by kernel_rfl) (by kernel_rfl), .of (by kernel_rfl) (by kernel_rfl), .of (by kernel_rfl) (by kernel_rfl), .of (by kernel_rfl) (by kernel_rfl), .of (by kernel_rfl) (by kernel_rfl), .of (by kernel_rfl) (by kernel_rfl), .of (by kernel_rfl) (by kernel_rfl), .of (by kernel_rfl) (by kernel_rfl), .of (by kernel_rfl) (by kernel_rfl), trivial⟩
theorem mixed : Tryz.prog.follows .mixedOrders = true := by kernel_rfl
noncomputable def gl : Nat → Option EV := look [(0, .arr .u8 64 tab_deBruijn64tab)]
noncomputable def e_shape_numbers : Entry := ⟨[none], false, fun args H K => match args, H with
  | [.int .u8 a0], [] => shape_numbers a0 (fun y0 y1 y2 y3 => K (EV.tuple [EV.int IntKind.i64 y0, EV.int IntKind.i64 y1, EV.int IntKind.i64 y2, EV.str y3]) [])
  | _, _ => False⟩
noncomputable def E_shape_numbers : Env := ⟨look tys, look [], look [], gl, lookL [], false⟩
theorem X_shape_numbers.eq (a0 : Int) (K : EV → Heap → Prop) : evFn E_shape_numbers Tryz.f103 false [.int .u8 a0] [] K = shape_numbers a0 (fun y0 y1 y2 y3 => K (EV.tuple [EV.int IntKind.i64 y0, EV.int IntKind.i64 y1, EV.int IntKind.i64 y2, EV.str y3]) []) := by
  rw [shape_numbers.is]; exact (evFnQ_eq _ _ _ _ _ _).symm.trans (by kernel_rfl)
theorem X_shape_numbers.ok : SoundE Tryz.prog gl 103 e_shape_numbers := by
  refine fnOK (E := E_shape_numbers) (fn := Tryz.f103) rfl tys_ok rfl (show AllL _ [] from trivial) mixed (by kernel_rfl) (by kernel_rfl) (by kernel_rfl) 0 (by kernel_rfl) false trivial ?_
  intro args H
  by_cases hx : ∃ (a0 : Int), args = [.int .u8 a0] ∧ H = []
  · obtain ⟨a0, rfl, rfl⟩ := hx
    right; intro K
    exact iff_of_eq (X_shape_numbers.eq a0 K).symm
  · left; intro K h
    simp only [e_shape_numbers] at h
    split at h
    · exact hx ⟨_, rfl, rfl⟩
    · exact h
noncomputable def e_shape_Precision : Entry := ⟨[none], false, fun args H K => match args, H with
  | [.int .u8 a0], [] => shape_Precision a0 (fun y0 => K (EV.int IntKind.i64 y0) [])
  | _, _ => False⟩
noncomputable def l_shape_Precision : List (Nat × Entry) := [(103, e_shape_numbers)]
noncomputable def E_shape_Precision : Env := ⟨look tys, look l_shape_Precision, look [], gl, lookL [], false⟩
theorem X_shape_Precision.eq (a0 : Int) (K : EV → Heap → Prop) : evFn E_shape_Precision Tryz.f35 false [.int .u8 a0] [] K = shape_Precision a0 (fun y0 => K (EV.int IntKind.i64 y0) []) := by
  rw [shape_Precision.is]; exact (evFnQ_eq _ _ _ _ _ _).symm.trans (by kernel_rfl)
theorem X_shape_Precision.ok : SoundE Tryz.prog gl 35 e_shape_Precision := by
  refine fnOK (E := E_shape_Precision) (fn := Tryz.f35) rfl tys_ok rfl (show AllL _ l_shape_Precision from ⟨X_shape_numbers.ok, trivial⟩) mixed (by kernel_rfl) (by kernel_rfl) (by kernel_rfl) 0 (by kernel_rfl) false trivial ?_
  intro args H
  by_cases hx : ∃ (a0 : Int), args = [.int .u8 a0] ∧ H = []
  · obtain ⟨a0, rfl, rfl⟩ := hx
    right; intro K
    exact iff_of_eq (X_shape_Precision.eq a0 K).symm
  · left; intro K h
    simp only [e_shape_Precision] at h
    split at h
    · exact hx ⟨_, rfl, rfl⟩
    · exact h
noncomputable def e_shape_Check : Entry := ⟨[none], false, fun args H K => match args, H with
  | [.int .u8 a0], [] => shape_Check a0 (fun y0 => K (EV.int IntKind.i64 y0) [])
  | _, _ => False⟩
noncomputable def E_shape_Check : Env := ⟨look tys, look [], look [], gl, lookL [], false⟩
theorem X_shape_Check.eq (a0 : Int) (K : EV → Heap → Prop) : evFn E_shape_Check Tryz.f57 false [.int .u8 a0] [] K = shape_Check a0 (fun y0 => K (EV.int IntKind.i64 y0) []) := by
  rw [shape_Check.is]; exact (evFnQ_eq _ _ _ _ _ _).symm.trans (by kernel_rfl)
theorem X_shape_Check.ok : SoundE Tryz.prog gl 57 e_shape_Check := by
  refine fnOK (E := E_shape_Check) (fn := Tryz.f57) rfl tys_ok rfl (show AllL _ [] from trivial) mixed (by kernel_rfl) (by kernel_rfl) (by kernel_rfl) 0 (by kernel_rfl) false trivial ?_
  intro args H
  by_cases hx : ∃ (a0 : Int), args = [.int .u8 a0] ∧ H = []
  · obtain ⟨a0, rfl, rfl⟩ := hx
    right; intro K
    exact iff_of_eq (X_shape_Check.eq a0 K).symm
  · left; intro K h
    simp only [e_shape_Check] at h
    split at h
    · exact hx ⟨_, rfl, rfl⟩
    · exact h
noncomputable def e_shape_CheckMode : Entry := ⟨[none], false, fun args H K => match args, H with
  | [.int .u8 a0], [] => shape_CheckMode a0 (fun y0 => K (EV.int IntKind.i64 y0) [])
  | _, _ => False⟩
noncomputable def E_shape_CheckMode : Env := ⟨look tys, look [], look [], gl, lookL [], false⟩
theorem X_shape_CheckMode.eq (a0 : Int) (K : EV → Heap → Prop) : evFn E_shape_CheckMode Tryz.f104 false [.int .u8 a0] [] K = shape_CheckMode a0 (fun y0 => K (EV.int IntKind.i64 y0) []) := by
  rw [shape_CheckMode.is]; exact (evFnQ_eq _ _ _ _ _ _).symm.trans (by kernel_rfl)
theorem X_shape_CheckMode.ok : SoundE Tryz.prog gl 104 e_shape_CheckMode := by
  refine fnOK (E := E_shape_CheckMode) (fn := Tryz.f104) rfl tys_ok rfl (show AllL _ [] from trivial) mixed (by kernel_rfl) (by kernel_rfl) (by kernel_rfl) 0 (by kernel_rfl) false trivial ?_
  intro args H
  by_cases hx : ∃ (a0 : Int), args = [.int .u8 a0] ∧ H = []
  · obtain ⟨a0, rfl, rfl⟩ := hx
    right; intro K
    exact iff_of_eq (X_shape_CheckMode.eq a0 K).symm
  · left; intro K h
    simp only [e_shape_CheckMode] at h
    split at h
    · exact hx ⟨_, rfl, rfl⟩
    · exact h
noncomputable def e_round_right : Entry := ⟨[none, none], false, fun args H K => match args, H with
  | [.int .u8 a0, .int .u8 a1], [] => round_right a0 a1 (fun y0 => K (EV.bool y0) [])
  | _, _ => False⟩
noncomputable def l_round_right : List (Nat × Entry) := [(57, e_shape_Check), (104, e_shape_CheckMode)]
noncomputable def E_round_right : Env := ⟨look tys, look l_round_right, look [], gl, lookL [], false⟩
theorem X_round_right.eq (a0 : Int) (a1 : Int) (K : EV → Heap → Prop) : evFn E_round_right Tryz.f36 false [.int .u8 a0, .int .u8 a1] [] K = round_right a0 a1 (fun y0 => K (EV.bool y0) []) := by
  rw [round_right.is]; exact (evFnQ_eq _ _ _ _ _ _).symm.trans (by kernel_rfl)
theorem X_round_right.ok : SoundE Tryz.prog gl 36 e_round_right := by
  refine fnOK (E := E_round_right) (fn := Tryz.f36) rfl tys_ok rfl (show AllL _ l_round_right from ⟨X_shape_Check.ok, X_shape_CheckMode.ok, trivial⟩) mixed (by kernel_rfl) (by kernel_rfl) (by kernel_rfl) 0 (by kernel_rfl) false trivial ?_
  intro args H
  by_cases hx : ∃ (a0 : Int) (a1 : Int), args = [.int .u8 a0, .int .u8 a1] ∧ H = []
  · obtain ⟨a0, a1, rfl, rfl⟩ := hx
    right; intro K
    exact iff_of_eq (X_round_right.eq a0 a1 K).symm
  · left; intro K h
    simp only [e_round_right] at h
    split at h
    · exact hx ⟨_, _, rfl, rfl⟩
    · exact h
noncomputable def e_bits_Len64 : Entry := ⟨[none], false, fun args H K => match args, H with
  | [.int .u64 a0], [] => bits_Len64 a0 (fun y0 => K (EV.int IntKind.i64 y0) [])
  | _, _ => False⟩
noncomputable def E_bits_Len64 : Env := ⟨look tys, look [], look [], gl, lookL [], false⟩
theorem X_bits_Len64.eq (a0 : Int) (K : EV → Heap → Prop) : evFn E_bits_Len64 Tryz.f165 false [.int .u64 a0] [] K = bits_Len64 a0 (fun y0 => K (EV.int IntKind.i64 y0) []) := by
  rw [bits_Len64.is]; exact (evFnQ_eq _ _ _ _ _ _).symm.trans (by kernel_rfl)
theorem X_bits_Len64.ok : SoundE Tryz.prog gl 165 e_bits_Len64 := by
  refine fnOK (E := E_bits_Len64) (fn := Tryz.f165) rfl tys_ok rfl (show AllL _ [] from trivial) mixed (by kernel_rfl) (by kernel_rfl) (by kernel_rfl) 0 (by kernel_rfl) false trivial ?_
  intro args H
  by_cases hx : ∃ (a0 : Int), args = [.int .u64 a0] ∧ H = []
  · obtain ⟨a0, rfl, rfl⟩ := hx
    right; intro K
    exact iff_of_eq (X_bits_Len64.eq a0 K).symm
  · left; intro K h
    simp only [e_bits_Len64] at h
    split at h
    · exact hx ⟨_, rfl, rfl⟩
    · exact h
noncomputable def e_word_Len : Entry := ⟨[none], false, fun args H K => match args, H with
  | [.int .u64 a0], [] => word_Len a0 (fun y0 => K (EV.int IntKind.i64 y0) [])
  | _, _ => False⟩
noncomputable def l_word_Len : List (Nat × Entry) := [(165, e_bits_Len64)]
noncomputable def E_word_Len : Env := ⟨look tys, look l_word_Len, look [], gl, lookL [], false⟩
theorem X_word_Len.eq (a0 : Int) (K : EV → Heap → Prop) : evFn E_word_Len Tryz.f105 false [.int .u64 a0] [] K = word_Len a0 (fun y0 => K (EV.int IntKind.i64 y0) []) := by
  rw [word_Len.is]; exact (evFnQ_eq _ _ _ _ _ _).symm.trans (by kernel_rfl)
theorem X_word_Len.ok : SoundE Tryz.prog gl 105 e_word_Len := by
  refine fnOK (E := E_word_Len) (fn := Tryz.f105) rfl tys_ok rfl (show AllL _ l_word_Len from ⟨X_bits_Len64.ok, trivial⟩) mixed (by kernel_rfl) (by kernel_rfl) (by kernel_rfl) 0 (by kernel_rfl) false trivial ?_
  intro args H
  by_cases hx : ∃ (a0 : Int), args = [.int .u64 a0] ∧ H = []
  · obtain ⟨a0, rfl, rfl⟩ := hx
    right; intro K
    exact iff_of_eq (X_word_Len.eq a0 K).symm
  · left; intro K h
    simp only [e_word_Len] at h
    split at h
    · exact hx ⟨_, rfl, rfl⟩
    · exact h
noncomputable def e_wide_Len : Entry := ⟨[none], false, fun args H K => match args, H with
  | [.arr .u64 6 a0], [] => wide_Len a0 (fun y0 => K (EV.int IntKind.i64 y0) [])
  | _, _ => False⟩
noncomputable def l_wide_Len : List (Nat × Entry) := [(105, e_word_Len)]
noncomputable def E_wide_Len : Env := ⟨look tys, look l_wide_Len, look [(2, wide_Len.l2.entry)], gl, lookL [], false⟩
theorem wide_Len.l2X.stepEq (R : List EV → Heap → Prop) (K : Ex → List EV → Heap → Prop) (x0 : Int) (x1 : Nat → Int) : loopStep (evCode E_wide_Len (loopAt Tryz.f37 0) { (LV.mk 0 [(0, 0)] 4 0 false) with nx := live (.loop (loopAt Tryz.f37 0)) (LV.mk 0 [(0, 0)] 4 0 false) }) (live (.loop (loopAt Tryz.f37 0)) (LV.mk 0 [(0, 0)] 4 0 false)) (LV.mk 0 [(0, 0)] 4 0 false) 0 19 R [EV.ptr 0 [], EV.int IntKind.i64 x0] [some (EV.arr IntKind.u64 6 x1)] K = wide_Len.l2.step (fun x0 x1 => R [EV.ptr 0 [], EV.int IntKind.i64 x0] [some (EV.arr IntKind.u64 6 x1)]) (fun y0 => K .ret [EV.int IntKind.i64 y0] []) (K (.exit 0) [] []) x0 x1 := (stepQ_eq _ _ _ _ _ _ _ _ _ _ _).symm.trans (by kernel_rfl)
theorem wide_Len.l2X.eq (K : Ex → List EV → Heap → Prop) : ∀ (n : Nat) (x0 : Int) (x1 : Nat → Int), loopE E_wide_Len (loopAt Tryz.f37 0) (LV.mk 0 [(0, 0)] 4 0 false) 0 19 K n [EV.ptr 0 [], EV.int IntKind.i64 x0] [some (EV.arr IntKind.u64 6 x1)] = wide_Len.l2 (fun y0 => K .ret [EV.int IntKind.i64 y0] []) (K (.exit 0) [] []) n x0 x1
  | 0, _, _ => rfl
  | n + 1, x0, x1 => by
    have ih : (fun (x0 : Int) (x1 : Nat → Int) => loopE E_wide_Len (loopAt Tryz.f37 0) (LV.mk 0 [(0, 0)] 4 0 false) 0 19 K n [EV.ptr 0 [], EV.int IntKind.i64 x0] [some (EV.arr IntKind.u64 6 x1)]) = wide_Len.l2 (fun y0 => K .ret [EV.int IntKind.i64 y0] []) (K (.exit 0) [] []) n := by funext x0 x1; exact wide_Len.l2X.eq K n x0 x1
    show loopStep _ _ _ _ _ (loopE E_wide_Len (loopAt Tryz.f37 0) (LV.mk 0 [(0, 0)] 4 0 false) 0 19 K n) [EV.ptr 0 [], EV.int IntKind.i64 x0] [some (EV.arr IntKind.u64 6 x1)] K = wide_Len.l2.step (wide_Len.l2 (fun y0 => K .ret [EV.int IntKind.i64 y0] []) (K (.exit 0) [] []) n) (fun y0 => K .ret [EV.int IntKind.i64 y0] []) (K (.exit 0) [] []) x0 x1
    rw [← ih]
    exact wide_Len.l2X.stepEq _ K x0 x1
theorem wide_Len.l2X.ok : LoopEq E_wide_Len (loopAt Tryz.f37 0) := by
  intro L hL vs H
  have h1 : E_wide_Len.lp (firstRegion (loopAt Tryz.f37 0)) = some wide_Len.l2.entry := by kernel_rfl
  have h2 : L = wide_Len.l2.entry := Option.some.inj (hL.symm.trans h1)
  subst h2
  by_cases hx : ∃ (x0 : Int) (x1 : Nat → Int), vs = [EV.ptr 0 [], EV.int IntKind.i64 x0] ∧ H = [some (EV.arr IntKind.u64 6 x1)]
  · obtain ⟨x0, x1, rfl, rfl⟩ := hx
    right; intro K
    exact exists_congr fun n => iff_of_eq (wide_Len.l2X.eq K n x0 x1).symm
  · left; intro K h
    simp only [wide_Len.l2.entry] at h
    split at h
    · exact hx ⟨_, _, rfl, rfl⟩
    · exact h
theorem X_wide_Len.eq (a0 : Nat → Int) (K : EV → Heap → Prop) : evFn E_wide_Len Tryz.f37 false [.arr .u64 6 a0] [] K = wide_Len a0 (fun y0 => K (EV.int IntKind.i64 y0) []) := by
  rw [wide_Len.is]; exact (evFnQ_eq _ _ _ _ _ _).symm.trans (by kernel_rfl)
theorem X_wide_Len.ok : SoundE Tryz.prog gl 37 e_wide_Len := by
  refine fnOK (E := E_wide_Len) (fn := Tryz.f37) rfl tys_ok rfl (show AllL _ l_wide_Len from ⟨X_word_Len.ok, trivial⟩) mixed (by kernel_rfl) (by kernel_rfl) (by kernel_rfl) 1 (by kernel_rfl) false ⟨wide_Len.l2X.ok, trivial⟩ ?_
  intro args H
  by_cases hx : ∃ (a0 : Nat → Int), args = [.arr .u64 6 a0] ∧ H = []
  · obtain ⟨a0, rfl, rfl⟩ := hx
    right; intro K
    exact iff_of_eq (X_wide_Len.eq a0 K).symm
  · left; intro K h
    simp only [e_wide_Len] at h
    split at h
    · exact hx ⟨_, rfl, rfl⟩
    · exact h
noncomputable def e_shape_Width : Entry := ⟨[none], false, fun args H K => match args, H with
  | [.int .u8 a0], [] => shape_Width a0 (fun y0 => K (EV.int IntKind.i64 y0) [])
  | _, _ => False⟩
noncomputable def l_shape_Width : List (Nat × Entry) := [(103, e_shape_numbers)]
noncomputable def E_shape_Width : Env := ⟨look tys, look l_shape_Width, look [], gl, lookL [], false⟩
theorem X_shape_Width.eq (a0 : Int) (K : EV → Heap → Prop) : evFn E_shape_Width Tryz.f102 false [.int .u8 a0] [] K = shape_Width a0 (fun y0 => K (EV.int IntKind.i64 y0) []) := by
  rw [shape_Width.is]; exact (evFnQ_eq _ _ _ _ _ _).symm.trans (by kernel_rfl)
theorem X_shape_Width.ok : SoundE Tryz.prog gl 102 e_shape_Width := by
  refine fnOK (E := E_shape_Width) (fn := Tryz.f102) rfl tys_ok rfl (show AllL _ l_shape_Width from ⟨X_shape_numbers.ok, trivial⟩) mixed (by kernel_rfl) (by kernel_rfl) (by kernel_rfl) 0 (by kernel_rfl) false trivial ?_
  intro args H
  by_cases hx : ∃ (a0 : Int), args = [.int .u8 a0] ∧ H = []
  · obtain ⟨a0, rfl, rfl⟩ := hx
    right; intro K
    exact iff_of_eq (X_shape_Width.eq a0 K).symm
  · left; intro K h
    simp only [e_shape_Width] at h
    split at h
    · exact hx ⟨_, rfl, rfl⟩
    · exact h
noncomputable def e_shape_at : Entry := ⟨[none, none], false, fun args H K => match args, H with
  | [.int .u64 a0, .int .i64 a1], [] => shape_at a0 a1 (fun y0 y1 => K (EV.agg [EV.int IntKind.u64 y0, EV.int IntKind.u64 y1]) [])
  | _, _ => False⟩
noncomputable def E_shape_at : Env := ⟨look tys, look [], look [], gl, lookL [], false⟩
theorem X_shape_at.eq (a0 : Int) (a1 : Int) (K : EV → Heap → Prop) : evFn E_shape_at Tryz.f166 false [.int .u64 a0, .int .i64 a1] [] K = shape_at a0 a1 (fun y0 y1 => K (EV.agg [EV.int IntKind.u64 y0, EV.int IntKind.u64 y1]) []) := by
  rw [shape_at.is]; exact (evFnQ_eq _ _ _ _ _ _).symm.trans (by kernel_rfl)
theorem X_shape_at.ok : SoundE Tryz.prog gl 166 e_shape_at := by
  refine fnOK (E := E_shape_at) (fn := Tryz.f166) rfl tys_ok rfl (show AllL _ [] from trivial) mixed (by kernel_rfl) (by kernel_rfl) (by kernel_rfl) 0 (by kernel_rfl) false trivial ?_
  intro args H
  by_cases hx : ∃ (a0 : Int) (a1 : Int), args = [.int .u64 a0, .int .i64 a1] ∧ H = []
  · obtain ⟨a0, a1, rfl, rfl⟩ := hx
    right; intro K
    exact iff_of_eq (X_shape_at.eq a0 a1 K).symm
  · left; intro K h
    simp only [e_shape_at] at h
    split at h
    · exact hx ⟨_, _, rfl, rfl⟩
    · exact h
noncomputable def e_shape_with : Entry := ⟨[none, none, none], false, fun args H K => match args, H with
  | [.int .u8 a0, .agg [.int .u64 a1_0, .int .u64 a1_1], .bool a2], [] => shape_with a0 a1_0 a1_1 a2 (fun y0 y1 => K (EV.agg [EV.int IntKind.u64 y0, EV.int IntKind.u64 y1]) [])
  | _, _ => False⟩
noncomputable def l_shape_with : List (Nat × Entry) := [(57, e_shape_Check), (102, e_shape_Width), (166, e_shape_at)]
noncomputable def E_shape_with : Env := ⟨look tys, look l_shape_with, look [], gl, lookL [], false⟩
theorem X_shape_with.eq (a0 : Int) (a1_0 : Int) (a1_1 : Int) (a2 : Bool) (K : EV → Heap → Prop) : evFn E_shape_with Tryz.f106 false [.int .u8 a0, .agg [.int .u64 a1_0, .int .u64 a1_1], .bool a2] [] K = shape_with a0 a1_0 a1_1 a2 (fun y0 y1 => K (EV.agg [EV.int IntKind.u64 y0, EV.int IntKind.u64 y1]) []) := by
  rw [shape_with.is]; exact (evFnQ_eq _ _ _ _ _ _).symm.trans (by kernel_rfl)
theorem X_shape_with.ok : SoundE Tryz.prog gl 106 e_shape_with := by
  refine fnOK (E := E_shape_with) (fn := Tryz.f106) rfl tys_ok rfl (show AllL _ l_shape_with from ⟨X_shape_Check.ok, X_shape_Width.ok, X_shape_at.ok, trivial⟩) mixed (by kernel_rfl) (by kernel_rfl) (by kernel_rfl) 0 (by kernel_rfl) false trivial ?_
  intro args H
  by_cases hx : ∃ (a0 : Int) (a1_0 : Int) (a1_1 : Int) (a2 : Bool), args = [.int .u8 a0, .agg [.int .u64 a1_0, .int .u64 a1_1], .bool a2] ∧ H = []
  · obtain ⟨a0, a1_0, a1_1, a2, rfl, rfl⟩ := hx
    right; intro K
    exact iff_of_eq (X_shape_with.eq a0 a1_0 a1_1 a2 K).symm
  · left; intro K h
    simp only [e_shape_with] at h
    split at h
    · exact hx ⟨_, _, _, _, rfl, rfl⟩
    · exact h
noncomputable def e_shape_Zero : Entry := ⟨[none, none], false, fun args H K => match args, H with
  | [.int .u8 a0, .bool a1], [] => shape_Zero a0 a1 (fun y0 y1 => K (EV.agg [EV.int IntKind.u64 y0, EV.int IntKind.u64 y1]) [])
  | _, _ => False⟩
noncomputable def l_shape_Zero : List (Nat × Entry) := [(106, e_shape_with)]
noncomputable def E_shape_Zero : Env := ⟨look tys, look l_shape_Zero, look [], gl, lookL [], false⟩
theorem X_shape_Zero.eq (a0 : Int) (a1 : Bool) (K : EV → Heap → Prop) : evFn E_shape_Zero Tryz.f38 false [.int .u8 a0, .bool a1] [] K = shape_Zero a0 a1 (fun y0 y1 => K (EV.agg [EV.int IntKind.u64 y0, EV.int IntKind.u64 y1]) []) := by
  rw [shape_Zero.is]; exact (evFnQ_eq _ _ _ _ _ _).symm.trans (by kernel_rfl)
theorem X_shape_Zero.ok : SoundE Tryz.prog gl 38 e_shape_Zero := by
  refine fnOK (E := E_shape_Zero) (fn := Tryz.f38) rfl tys_ok rfl (show AllL _ l_shape_Zero from ⟨X_shape_with.ok, trivial⟩) mixed (by kernel_rfl) (by kernel_rfl) (by kernel_rfl) 0 (by kernel_rfl) false trivial ?_
  intro args H
  by_cases hx : ∃ (a0 : Int) (a1 : Bool), args = [.int .u8 a0, .bool a1] ∧ H = []
  · obtain ⟨a0, a1, rfl, rfl⟩ := hx
    right; intro K
    exact iff_of_eq (X_shape_Zero.eq a0 a1 K).symm
  · left; intro K h
    simp only [e_shape_Zero] at h
    split at h
    · exact hx ⟨_, _, rfl, rfl⟩
    · exact h
noncomputable def e_shape_Emax : Entry := ⟨[none], false, fun args H K => match args, H with
  | [.int .u8 a0], [] => shape_Emax a0 (fun y0 => K (EV.int IntKind.i64 y0) [])
  | _, _ => False⟩
noncomputable def l_shape_Emax : List (Nat × Entry) := [(103, e_shape_numbers)]
noncomputable def E_shape_Emax : Env := ⟨look tys, look l_shape_Emax, look [], gl, lookL [], false⟩
theorem X_shape_Emax.eq (a0 : Int) (K : EV → Heap → Prop) : evFn E_shape_Emax Tryz.f40 false [.int .u8 a0] [] K = shape_Emax a0 (fun y0 => K (EV.int IntKind.i64 y0) []) := by
  rw [shape_Emax.is]; exact (evFnQ_eq _ _ _ _ _ _).symm.trans (by kernel_rfl)
theorem X_shape_Emax.ok : SoundE Tryz.prog gl 40 e_shape_Emax := by
  refine fnOK (E := E_shape_Emax) (fn := Tryz.f40) rfl tys_ok rfl (show AllL _ l_shape_Emax from ⟨X_shape_numbers.ok, trivial⟩) mixed (by kernel_rfl) (by kernel_rfl) (by kernel_rfl) 0 (by kernel_rfl) false trivial ?_
  intro args H
  by_cases hx : ∃ (a0 : Int), args = [.int .u8 a0] ∧ H = []
  · obtain ⟨a0, rfl, rfl⟩ := hx
    right; intro K
    exact iff_of_eq (X_shape_Emax.eq a0 K).symm
  · left; intro K h
    simp only [e_shape_Emax] at h
    split at h
    · exact hx ⟨_, rfl, rfl⟩
    · exact h
noncomputable def e_shape_Emin : Entry := ⟨[none], false, fun args H K => match args, H with
  | [.int .u8 a0], [] => shape_Emin a0 (fun y0 => K (EV.int IntKind.i64 y0) [])
  | _, _ => False⟩
noncomputable def l_shape_Emin : List (Nat × Entry) := [(40, e_shape_Emax), (57, e_shape_Check)]
noncomputable def E_shape_Emin : Env := ⟨look tys, look l_shape_Emin, look [], gl, lookL [], false⟩
theorem X_shape_Emin.eq (a0 : Int) (K : EV → Heap → Prop) : evFn E_shape_Emin Tryz.f39 false [.int .u8 a0] [] K = shape_Emin a0 (fun y0 => K (EV.int IntKind.i64 y0) []) := by
  rw [shape_Emin.is]; exact (evFnQ_eq _ _ _ _ _ _).symm.trans (by kernel_rfl)
theorem X_shape_Emin.ok : SoundE Tryz.prog gl 39 e_shape_Emin := by
  refine fnOK (E := E_shape_Emin) (fn := Tryz.f39) rfl tys_ok rfl (show AllL _ l_shape_Emin from ⟨X_shape_Emax.ok, X_shape_Check.ok, trivial⟩) mixed (by kernel_rfl) (by kernel_rfl) (by kernel_rfl) 0 (by kernel_rfl) false trivial ?_
  intro args H
  by_cases hx : ∃ (a0 : Int), args = [.int .u8 a0] ∧ H = []
  · obtain ⟨a0, rfl, rfl⟩ := hx
    right; intro K
    exact iff_of_eq (X_shape_Emin.eq a0 K).symm
  · left; intro K h
    simp only [e_shape_Emin] at h
    split at h
    · exact hx ⟨_, rfl, rfl⟩
    · exact h
noncomputable def e_shape_field : Entry := ⟨[none, none], false, fun args H K => match args, H with
  | [.int .u8 a0, .int .i64 a1], [] => shape_field a0 a1 (fun y0 y1 => K (EV.agg [EV.int IntKind.u64 y0, EV.int IntKind.u64 y1]) [])
  | _, _ => False⟩
noncomputable def l_shape_field : List (Nat × Entry) := [(35, e_shape_Precision), (166, e_shape_at)]
noncomputable def E_shape_field : Env := ⟨look tys, look l_shape_field, look [], gl, lookL [], false⟩
theorem X_shape_field.eq (a0 : Int) (a1 : Int) (K : EV → Heap → Prop) : evFn E_shape_field Tryz.f164 false [.int .u8 a0, .int .i64 a1] [] K = shape_field a0 a1 (fun y0 y1 => K (EV.agg [EV.int IntKind.u64 y0, EV.int IntKind.u64 y1]) []) := by
  rw [shape_field.is]; exact (evFnQ_eq _ _ _ _ _ _).symm.trans (by kernel_rfl)
theorem X_shape_field.ok : SoundE Tryz.prog gl 164 e_shape_field := by
  refine fnOK (E := E_shape_field) (fn := Tryz.f164) rfl tys_ok rfl (show AllL _ l_shape_field from ⟨X_shape_Precision.ok, X_shape_at.ok, trivial⟩) mixed (by kernel_rfl) (by kernel_rfl) (by kernel_rfl) 0 (by kernel_rfl) false trivial ?_
  intro args H
  by_cases hx : ∃ (a0 : Int) (a1 : Int), args = [.int .u8 a0, .int .i64 a1] ∧ H = []
  · obtain ⟨a0, a1, rfl, rfl⟩ := hx
    right; intro K
    exact iff_of_eq (X_shape_field.eq a0 a1 K).symm
  · left; intro K h
    simp only [e_shape_field] at h
    split at h
    · exact hx ⟨_, _, rfl, rfl⟩
    · exact h
noncomputable def e_shape_Inf : Entry := ⟨[none, none], false, fun args H K => match args, H with
  | [.int .u8 a0, .bool a1], [] => shape_Inf a0 a1 (fun y0 y1 => K (EV.agg [EV.int IntKind.u64 y0, EV.int IntKind.u64 y1]) [])
  | _, _ => False⟩
noncomputable def l_shape_Inf : List (Nat × Entry) := [(40, e_shape_Emax), (57, e_shape_Check), (106, e_shape_with), (164, e_shape_field)]
noncomputable def E_shape_Inf : Env := ⟨look tys, look l_shape_Inf, look [], gl, lookL [], false⟩
theorem X_shape_Inf.eq (a0 : Int) (a1 : Bool) (K : EV → Heap → Prop) : evFn E_shape_Inf Tryz.f100 false [.int .u8 a0, .bool a1] [] K = shape_Inf a0 a1 (fun y0 y1 => K (EV.agg [EV.int IntKind.u64 y0, EV.int IntKind.u64 y1]) []) := by
  rw [shape_Inf.is]; exact (evFnQ_eq _ _ _ _ _ _).symm.trans (by kernel_rfl)
theorem X_shape_Inf.ok : SoundE Tryz.prog gl 100 e_shape_Inf := by
  refine fnOK (E := E_shape_Inf) (fn := Tryz.f100) rfl tys_ok rfl (show AllL _ l_shape_Inf from ⟨X_shape_Emax.ok, X_shape_Check.ok, X_shape_with.ok, X_shape_field.ok, trivial⟩) mixed (by kernel_rfl) (by kernel_rfl) (by kernel_rfl) 0 (by kernel_rfl) false trivial ?_
  intro args H
  by_cases hx : ∃ (a0 : Int) (a1 : Bool), args = [.int .u8 a0, .bool a1] ∧ H = []
  · obtain ⟨a0, a1, rfl, rfl⟩ := hx
    right; intro K
    exact iff_of_eq (X_shape_Inf.eq a0 a1 K).symm
  · left; intro K h
    simp only [e_shape_Inf] at h
    split at h
    · exact hx ⟨_, _, rfl, rfl⟩
    · exact h
noncomputable def e_shape_Greatest : Entry := ⟨[none, none], false, fun args H K => match args, H with
  | [.int .u8 a0, .bool a1], [] => shape_Greatest a0 a1 (fun y0 y1 => K (EV.agg [EV.int IntKind.u64 y0, EV.int IntKind.u64 y1]) [])
  | _, _ => False⟩
noncomputable def l_shape_Greatest : List (Nat × Entry) := [(57, e_shape_Check), (100, e_shape_Inf), (102, e_shape_Width), (106, e_shape_with)]
noncomputable def E_shape_Greatest : Env := ⟨look tys, look l_shape_Greatest, look [], gl, lookL [], false⟩
theorem X_shape_Greatest.eq (a0 : Int) (a1 : Bool) (K : EV → Heap → Prop) : evFn E_shape_Greatest Tryz.f107 false [.int .u8 a0, .bool a1] [] K = shape_Greatest a0 a1 (fun y0 y1 => K (EV.agg [EV.int IntKind.u64 y0, EV.int IntKind.u64 y1]) []) := by
  rw [shape_Greatest.is]; exact (evFnQ_eq _ _ _ _ _ _).symm.trans (by kernel_rfl)
theorem X_shape_Greatest.ok : SoundE Tryz.prog gl 107 e_shape_Greatest := by
  refine fnOK (E := E_shape_Greatest) (fn := Tryz.f107) rfl tys_ok rfl (show AllL _ l_shape_Greatest from ⟨X_shape_Check.ok, X_shape_Inf.ok, X_shape_Width.ok, X_shape_with.ok, trivial⟩) mixed (by kernel_rfl) (by kernel_rfl) (by kernel_rfl) 0 (by kernel_rfl) false trivial ?_
  intro args H
  by_cases hx : ∃ (a0 : Int) (a1 : Bool), args = [.int .u8 a0, .bool a1] ∧ H = []
  · obtain ⟨a0, a1, rfl, rfl⟩ := hx
    right; intro K
    exact iff_of_eq (X_shape_Greatest.eq a0 a1 K).symm
  · left; intro K h
    simp only [e_shape_Greatest] at h
    split at h
    · exact hx ⟨_, _, rfl, rfl⟩
    · exact h
noncomputable def e_round_Over : Entry := ⟨[none, none, none], false, fun args H K => match args, H with
  | [.int .u8 a0, .int .u8 a1, .bool a2], [] => round_Over a0 a1 a2 (fun y0 y1 y2 y3 => K (EV.tuple [EV.agg [EV.int IntKind.u64 y0, EV.int IntKind.u64 y1], EV.int IntKind.u8 y2, EV.int IntKind.i64 y3]) [])
  | _, _ => False⟩
noncomputable def l_round_Over : List (Nat × Entry) := [(36, e_round_right), (100, e_shape_Inf), (107, e_shape_Greatest)]
noncomputable def E_round_Over : Env := ⟨look tys, look l_round_Over, look [], gl, lookL [], false⟩
theorem X_round_Over.eq (a0 : Int) (a1 : Int) (a2 : Bool) (K : EV → Heap → Prop) : evFn E_round_Over Tryz.f41 false [.int .u8 a0, .int .u8 a1, .bool a2] [] K = round_Over a0 a1 a2 (fun y0 y1 y2 y3 => K (EV.tuple [EV.agg [EV.int IntKind.u64 y0, EV.int IntKind.u64 y1], EV.int IntKind.u8 y2, EV.int IntKind.i64 y3]) []) := by
  rw [round_Over.is]; exact (evFnQ_eq _ _ _ _ _ _).symm.trans (by kernel_rfl)
theorem X_round_Over.ok : SoundE Tryz.prog gl 41 e_round_Over := by
  refine fnOK (E := E_round_Over) (fn := Tryz.f41) rfl tys_ok rfl (show AllL _ l_round_Over from ⟨X_round_right.ok, X_shape_Inf.ok, X_shape_Greatest.ok, trivial⟩) mixed (by kernel_rfl) (by kernel_rfl) (by kernel_rfl) 0 (by kernel_rfl) false trivial ?_
  intro args H
  by_cases hx : ∃ (a0 : Int) (a1 : Int) (a2 : Bool), args = [.int .u8 a0, .int .u8 a1, .bool a2] ∧ H = []
  · obtain ⟨a0, a1, a2, rfl, rfl⟩ := hx
    right; intro K
    exact iff_of_eq (X_round_Over.eq a0 a1 a2 K).symm
  · left; intro K h
    simp only [e_round_Over] at h
    split at h
    · exact hx ⟨_, _, _, rfl, rfl⟩
    · exact h
noncomputable def e_wide_count : Entry := ⟨[none], false, fun args H K => match args, H with
  | [.int .i64 a0], [] => wide_count a0 (fun y0 => K (EV.int IntKind.i64 y0) [])
  | _, _ => False⟩
noncomputable def E_wide_count : Env := ⟨look tys, look [], look [], gl, lookL [], false⟩
theorem X_wide_count.eq (a0 : Int) (K : EV → Heap → Prop) : evFn E_wide_count Tryz.f110 false [.int .i64 a0] [] K = wide_count a0 (fun y0 => K (EV.int IntKind.i64 y0) []) := by
  rw [wide_count.is]; exact (evFnQ_eq _ _ _ _ _ _).symm.trans (by kernel_rfl)
theorem X_wide_count.ok : SoundE Tryz.prog gl 110 e_wide_count := by
  refine fnOK (E := E_wide_count) (fn := Tryz.f110) rfl tys_ok rfl (show AllL _ [] from trivial) mixed (by kernel_rfl) (by kernel_rfl) (by kernel_rfl) 0 (by kernel_rfl) false trivial ?_
  intro args H
  by_cases hx : ∃ (a0 : Int), args = [.int .i64 a0] ∧ H = []
  · obtain ⟨a0, rfl, rfl⟩ := hx
    right; intro K
    exact iff_of_eq (X_wide_count.eq a0 K).symm
  · left; intro K h
    simp only [e_wide_count] at h
    split at h
    · exact hx ⟨_, rfl, rfl⟩
    · exact h
noncomputable def e_wide_Left : Entry := ⟨[none, none], false, fun args H K => match args, H with
  | [.arr .u64 6 a0, .int .i64 a1], [] => wide_Left a0 a1 (fun y0 y1 => K (EV.tuple [EV.arr IntKind.u64 6 y0, EV.bool y1]) [])
  | _, _ => False⟩
noncomputable def l_wide_Left : List (Nat × Entry) := [(37, e_wide_Len), (110, e_wide_count)]
noncomputable def E_wide_Left : Env := ⟨look tys, look l_wide_Left, look [(5, wide_Left.l5.entry)], gl, lookL [], false⟩
theorem wide_Left.l5X.stepEq (R : List EV → Heap → Prop) (K : Ex → List EV → Heap → Prop) (x0 : Bool) (x1 : Int) (x2 : Int) (x3 : Int) (x4 : Nat → Int) (x5 : Nat → Int) : loopStep (evCode E_wide_Left (loopAt Tryz.f44 0) { (LV.mk 48 [(0, 48)] 48 0 false) with nx := live (.loop (loopAt Tryz.f44 0)) (LV.mk 48 [(0, 48)] 48 0 false) }) (live (.loop (loopAt Tryz.f44 0)) (LV.mk 48 [(0, 48)] 48 0 false)) (LV.mk 48 [(0, 48)] 48 0 false) 0 59 R [EV.ptr 0 [], EV.ptr 1 [], EV.bool x0, EV.int IntKind.i64 x1, EV.int IntKind.u64 x2, EV.int IntKind.i64 x3] [some (EV.arr IntKind.u64 6 x4), some (EV.arr IntKind.u64 6 x5)] K = wide_Left.l5.step (fun x0 x1 x2 x3 x4 x5 => R [EV.ptr 0 [], EV.ptr 1 [], EV.bool x0, EV.int IntKind.i64 x1, EV.int IntKind.u64 x2, EV.int IntKind.i64 x3] [some (EV.arr IntKind.u64 6 x4), some (EV.arr IntKind.u64 6 x5)]) (fun y0 y1 => K (.exit 0) [EV.ptr 0 [], EV.bool y0] [some (EV.arr IntKind.u64 6 y1)]) x0 x1 x2 x3 x4 x5 := (stepQ_eq _ _ _ _ _ _ _ _ _ _ _).symm.trans (by kernel_rfl)
theorem wide_Left.l5X.eq (K : Ex → List EV → Heap → Prop) : ∀ (n : Nat) (x0 : Bool) (x1 : Int) (x2 : Int) (x3 : Int) (x4 : Nat → Int) (x5 : Nat → Int), loopE E_wide_Left (loopAt Tryz.f44 0) (LV.mk 48 [(0, 48)] 48 0 false) 0 59 K n [EV.ptr 0 [], EV.ptr 1 [], EV.bool x0, EV.int IntKind.i64 x1, EV.int IntKind.u64 x2, EV.int IntKind.i64 x3] [some (EV.arr IntKind.u64 6 x4), some (EV.arr IntKind.u64 6 x5)] = wide_Left.l5 (fun y0 y1 => K (.exit 0) [EV.ptr 0 [], EV.bool y0] [some (EV.arr IntKind.u64 6 y1)]) n x0 x1 x2 x3 x4 x5
  | 0, _, _, _, _, _, _ => rfl
  | n + 1, x0, x1, x2, x3, x4, x5 => by
    have ih : (fun (x0 : Bool) (x1 : Int) (x2 : Int) (x3 : Int) (x4 : Nat → Int) (x5 : Nat → Int) => loopE E_wide_Left (loopAt Tryz.f44 0) (LV.mk 48 [(0, 48)] 48 0 false) 0 59 K n [EV.ptr 0 [], EV.ptr 1 [], EV.bool x0, EV.int IntKind.i64 x1, EV.int IntKind.u64 x2, EV.int IntKind.i64 x3] [some (EV.arr IntKind.u64 6 x4), some (EV.arr IntKind.u64 6 x5)]) = wide_Left.l5 (fun y0 y1 => K (.exit 0) [EV.ptr 0 [], EV.bool y0] [some (EV.arr IntKind.u64 6 y1)]) n := by funext x0 x1 x2 x3 x4 x5; exact wide_Left.l5X.eq K n x0 x1 x2 x3 x4 x5
    show loopStep _ _ _ _ _ (loopE E_wide_Left (loopAt Tryz.f44 0) (LV.mk 48 [(0, 48)] 48 0 false) 0 59 K n) [EV.ptr 0 [], EV.ptr 1 [], EV.bool x0, EV.int IntKind.i64 x1, EV.int IntKind.u64 x2, EV.int IntKind.i64 x3] [some (EV.arr IntKind.u64 6 x4), some (EV.arr IntKind.u64 6 x5)] K = wide_Left.l5.step (wide_Left.l5 (fun y0 y1 => K (.exit 0) [EV.ptr 0 [], EV.bool y0] [some (EV.arr IntKind.u64 6 y1)]) n) (fun y0 y1 => K (.exit 0) [EV.ptr 0 [], EV.bool y0] [some (EV.arr IntKind.u64 6 y1)]) x0 x1 x2 x3 x4 x5
    rw [← ih]
    exact wide_Left.l5X.stepEq _ K x0 x1 x2 x3 x4 x5
theorem wide_Left.l5X.ok : LoopEq E_wide_Left (loopAt Tryz.f44 0) := by
  intro L hL vs H
  have h1 : E_wide_Left.lp (firstRegion (loopAt Tryz.f44 0)) = some wide_Left.l5.entry := by kernel_rfl
  have h2 : L = wide_Left.l5.entry := Option.some.inj (hL.symm.trans h1)
  subst h2
  by_cases hx : ∃ (x0 : Bool) (x1 : Int) (x2 : Int) (x3 : Int) (x4 : Nat → Int) (x5 : Nat → Int), vs = [EV.ptr 0 [], EV.ptr 1 [], EV.bool x0, EV.int IntKind.i64 x1, EV.int IntKind.u64 x2, EV.int IntKind.i64 x3] ∧ H = [some (EV.arr IntKind.u64 6 x4), some (EV.arr IntKind.u64 6 x5)]
  · obtain ⟨x0, x1, x2, x3, x4, x5, rfl, rfl⟩ := hx
    right; intro K
    exact exists_congr fun n => iff_of_eq (wide_Left.l5X.eq K n x0 x1 x2 x3 x4 x5).symm
  · left; intro K h
    simp only [wide_Left.l5.entry] at h
    split at h
    · exact hx ⟨_, _, _, _, _, _, rfl, rfl⟩
    · exact h
theorem X_wide_Left.eq (a0 : Nat → Int) (a1 : Int) (K : EV → Heap → Prop) : evFn E_wide_Left Tryz.f44 false [.arr .u64 6 a0, .int .i64 a1] [] K = wide_Left a0 a1 (fun y0 y1 => K (EV.tuple [EV.arr IntKind.u64 6 y0, EV.bool y1]) []) := by
  rw [wide_Left.is]; exact (evFnQ_eq _ _ _ _ _ _).symm.trans (by kernel_rfl)
theorem X_wide_Left.ok : SoundE Tryz.prog gl 44 e_wide_Left := by
  refine fnOK (E := E_wide_Left) (fn := Tryz.f44) rfl tys_ok rfl (show AllL _ l_wide_Left from ⟨X_wide_Len.ok, X_wide_count.ok, trivial⟩) mixed (by kernel_rfl) (by kernel_rfl) (by kernel_rfl) 1 (by kernel_rfl) false ⟨wide_Left.l5X.ok, trivial⟩ ?_
  intro args H
  by_cases hx : ∃ (a0 : Nat → Int) (a1 : Int), args = [.arr .u64 6 a0, .int .i64 a1] ∧ H = []
  · obtain ⟨a0, a1, rfl, rfl⟩ := hx
    right; intro K
    exact iff_of_eq (X_wide_Left.eq a0 a1 K).symm
  · left; intro K h
    simp only [e_wide_Left] at h
    split at h
    · exact hx ⟨_, _, rfl, rfl⟩
    · exact h
noncomputable def e_wide_Of : Entry := ⟨[none], false, fun args H K => match args, H with
  | [.int .u64 a0], [] => wide_Of a0 (fun y0 => K (EV.arr IntKind.u64 6 y0) [])
  | _, _ => False⟩
noncomputable def E_wide_Of : Env := ⟨look tys, look [], look [], gl, lookL [], false⟩
theorem X_wide_Of.eq (a0 : Int) (K : EV → Heap → Prop) : evFn E_wide_Of Tryz.f45 false [.int .u64 a0] [] K = wide_Of a0 (fun y0 => K (EV.arr IntKind.u64 6 y0) []) := by
  rw [wide_Of.is]; exact (evFnQ_eq _ _ _ _ _ _).symm.trans (by kernel_rfl)
theorem X_wide_Of.ok : SoundE Tryz.prog gl 45 e_wide_Of := by
  refine fnOK (E := E_wide_Of) (fn := Tryz.f45) rfl tys_ok rfl (show AllL _ [] from trivial) mixed (by kernel_rfl) (by kernel_rfl) (by kernel_rfl) 0 (by kernel_rfl) false trivial ?_
  intro args H
  by_cases hx : ∃ (a0 : Int), args = [.int .u64 a0] ∧ H = []
  · obtain ⟨a0, rfl, rfl⟩ := hx
    right; intro K
    exact iff_of_eq (X_wide_Of.eq a0 K).symm
  · left; intro K h
    simp only [e_wide_Of] at h
    split at h
    · exact hx ⟨_, rfl, rfl⟩
    · exact h
noncomputable def e_word_one : Entry := ⟨[none], false, fun args H K => match args, H with
  | [.bool a0], [] => word_one a0 (fun y0 => K (EV.int IntKind.u64 y0) [])
  | _, _ => False⟩
noncomputable def E_word_one : Env := ⟨look tys, look [], look [], gl, lookL [], false⟩
theorem X_word_one.eq (a0 : Bool) (K : EV → Heap → Prop) : evFn E_word_one Tryz.f167 false [.bool a0] [] K = word_one a0 (fun y0 => K (EV.int IntKind.u64 y0) []) := by
  rw [word_one.is]; exact (evFnQ_eq _ _ _ _ _ _).symm.trans (by kernel_rfl)
theorem X_word_one.ok : SoundE Tryz.prog gl 167 e_word_one := by
  refine fnOK (E := E_word_one) (fn := Tryz.f167) rfl tys_ok rfl (show AllL _ [] from trivial) mixed (by kernel_rfl) (by kernel_rfl) (by kernel_rfl) 0 (by kernel_rfl) false trivial ?_
  intro args H
  by_cases hx : ∃ (a0 : Bool), args = [.bool a0] ∧ H = []
  · obtain ⟨a0, rfl, rfl⟩ := hx
    right; intro K
    exact iff_of_eq (X_word_one.eq a0 K).symm
  · left; intro K h
    simp only [e_word_one] at h
    split at h
    · exact hx ⟨_, rfl, rfl⟩
    · exact h
noncomputable def e_word_Add : Entry := ⟨[none, none, none], false, fun args H K => match args, H with
  | [.int .u64 a0, .int .u64 a1, .bool a2], [] => word_Add a0 a1 a2 (fun y0 y1 => K (EV.tuple [EV.int IntKind.u64 y0, EV.bool y1]) [])
  | _, _ => False⟩
noncomputable def l_word_Add : List (Nat × Entry) := [(167, e_word_one)]
noncomputable def E_word_Add : Env := ⟨look tys, look l_word_Add, look [], gl, lookL [], false⟩
theorem X_word_Add.eq (a0 : Int) (a1 : Int) (a2 : Bool) (K : EV → Heap → Prop) : evFn E_word_Add Tryz.f111 false [.int .u64 a0, .int .u64 a1, .bool a2] [] K = word_Add a0 a1 a2 (fun y0 y1 => K (EV.tuple [EV.int IntKind.u64 y0, EV.bool y1]) []) := by
  rw [word_Add.is]; exact (evFnQ_eq _ _ _ _ _ _).symm.trans (by kernel_rfl)
theorem X_word_Add.ok : SoundE Tryz.prog gl 111 e_word_Add := by
  refine fnOK (E := E_word_Add) (fn := Tryz.f111) rfl tys_ok rfl (show AllL _ l_word_Add from ⟨X_word_one.ok, trivial⟩) mixed (by kernel_rfl) (by kernel_rfl) (by kernel_rfl) 0 (by kernel_rfl) false trivial ?_
  intro args H
  by_cases hx : ∃ (a0 : Int) (a1 : Int) (a2 : Bool), args = [.int .u64 a0, .int .u64 a1, .bool a2] ∧ H = []
  · obtain ⟨a0, a1, a2, rfl, rfl⟩ := hx
    right; intro K
    exact iff_of_eq (X_word_Add.eq a0 a1 a2 K).symm
  · left; intro K h
    simp only [e_word_Add] at h
    split at h
    · exact hx ⟨_, _, _, rfl, rfl⟩
    · exact h
noncomputable def e_wide_Add : Entry := ⟨[none, none], false, fun args H K => match args, H with
  | [.arr .u64 6 a0, .arr .u64 6 a1], [] => wide_Add a0 a1 (fun y0 y1 => K (EV.tuple [EV.arr IntKind.u64 6 y0, EV.bool y1]) [])
  | _, _ => False⟩
noncomputable def l_wide_Add : List (Nat × Entry) := [(111, e_word_Add)]
noncomputable def E_wide_Add : Env := ⟨look tys, look l_wide_Add, look [(2, wide_Add.l2.entry)], gl, lookL [], false⟩
theorem wide_Add.l2X.stepEq (R : List EV → Heap → Prop) (K : Ex → List EV → Heap → Prop) (x0 : Bool) (x1 : Int) (x2 : Nat → Int) (x3 : Nat → Int) (x4 : Nat → Int) : loopStep (evCode E_wide_Add (loopAt Tryz.f46 0) { (LV.mk 48 [(0, 48)] 48 0 false) with nx := live (.loop (loopAt Tryz.f46 0)) (LV.mk 48 [(0, 48)] 48 0 false) }) (live (.loop (loopAt Tryz.f46 0)) (LV.mk 48 [(0, 48)] 48 0 false)) (LV.mk 48 [(0, 48)] 48 0 false) 0 26 R [EV.ptr 0 [], EV.ptr 1 [], EV.ptr 2 [], EV.bool x0, EV.int IntKind.i64 x1] [some (EV.arr IntKind.u64 6 x2), some (EV.arr IntKind.u64 6 x3), some (EV.arr IntKind.u64 6 x4)] K = wide_Add.l2.step (fun x0 x1 x2 x3 x4 => R [EV.ptr 0 [], EV.ptr 1 [], EV.ptr 2 [], EV.bool x0, EV.int IntKind.i64 x1] [some (EV.arr IntKind.u64 6 x2), some (EV.arr IntKind.u64 6 x3), some (EV.arr IntKind.u64 6 x4)]) (fun y0 y1 => K (.exit 0) [EV.ptr 0 [], EV.bool y0] [some (EV.arr IntKind.u64 6 y1)]) x0 x1 x2 x3 x4 := (stepQ_eq _ _ _ _ _ _ _ _ _ _ _).symm.trans (by kernel_rfl)
theorem wide_Add.l2X.eq (K : Ex → List EV → Heap → Prop) : ∀ (n : Nat) (x0 : Bool) (x1 : Int) (x2 : Nat → Int) (x3 : Nat → Int) (x4 : Nat → Int), loopE E_wide_Add (loopAt Tryz.f46 0) (LV.mk 48 [(0, 48)] 48 0 false) 0 26 K n [EV.ptr 0 [], EV.ptr 1 [], EV.ptr 2 [], EV.bool x0, EV.int IntKind.i64 x1] [some (EV.arr IntKind.u64 6 x2), some (EV.arr IntKind.u64 6 x3), some (EV.arr IntKind.u64 6 x4)] = wide_Add.l2 (fun y0 y1 => K (.exit 0) [EV.ptr 0 [], EV.bool y0] [some (EV.arr IntKind.u64 6 y1)]) n x0 x1 x2 x3 x4
  | 0, _, _, _, _, _ => rfl
  | n + 1, x0, x1, x2, x3, x4 => by
    have ih : (fun (x0 : Bool) (x1 : Int) (x2 : Nat → Int) (x3 : Nat → Int) (x4 : Nat → Int) => loopE E_wide_Add (loopAt Tryz.f46 0) (LV.mk 48 [(0, 48)] 48 0 false) 0 26 K n [EV.ptr 0 [], EV.ptr 1 [], EV.ptr 2 [], EV.bool x0, EV.int IntKind.i64 x1] [some (EV.arr IntKind.u64 6 x2), some (EV.arr IntKind.u64 6 x3), some (EV.arr IntKind.u64 6 x4)]) = wide_Add.l2 (fun y0 y1 => K (.exit 0) [EV.ptr 0 [], EV.bool y0] [some (EV.arr IntKind.u64 6 y1)]) n := by funext x0 x1 x2 x3 x4; exact wide_Add.l2X.eq K n x0 x1 x2 x3 x4
    show loopStep _ _ _ _ _ (loopE E_wide_Add (loopAt Tryz.f46 0) (LV.mk 48 [(0, 48)] 48 0 false) 0 26 K n) [EV.ptr 0 [], EV.ptr 1 [], EV.ptr 2 [], EV.bool x0, EV.int IntKind.i64 x1] [some (EV.arr IntKind.u64 6 x2), some (EV.arr IntKind.u64 6 x3), some (EV.arr IntKind.u64 6 x4)] K = wide_Add.l2.step (wide_Add.l2 (fun y0 y1 => K (.exit 0) [EV.ptr 0 [], EV.bool y0] [some (EV.arr IntKind.u64 6 y1)]) n) (fun y0 y1 => K (.exit 0) [EV.ptr 0 [], EV.bool y0] [some (EV.arr IntKind.u64 6 y1)]) x0 x1 x2 x3 x4
    rw [← ih]
    exact wide_Add.l2X.stepEq _ K x0 x1 x2 x3 x4
theorem wide_Add.l2X.ok : LoopEq E_wide_Add (loopAt Tryz.f46 0) := by
  intro L hL vs H
  have h1 : E_wide_Add.lp (firstRegion (loopAt Tryz.f46 0)) = some wide_Add.l2.entry := by kernel_rfl
  have h2 : L = wide_Add.l2.entry := Option.some.inj (hL.symm.trans h1)
  subst h2
  by_cases hx : ∃ (x0 : Bool) (x1 : Int) (x2 : Nat → Int) (x3 : Nat → Int) (x4 : Nat → Int), vs = [EV.ptr 0 [], EV.ptr 1 [], EV.ptr 2 [], EV.bool x0, EV.int IntKind.i64 x1] ∧ H = [some (EV.arr IntKind.u64 6 x2), some (EV.arr IntKind.u64 6 x3), some (EV.arr IntKind.u64 6 x4)]
  · obtain ⟨x0, x1, x2, x3, x4, rfl, rfl⟩ := hx
    right; intro K
    exact exists_congr fun n => iff_of_eq (wide_Add.l2X.eq K n x0 x1 x2 x3 x4).symm
  · left; intro K h
    simp only [wide_Add.l2.entry] at h
    split at h
    · exact hx ⟨_, _, _, _, _, rfl, rfl⟩
    · exact h
theorem X_wide_Add.eq (a0 : Nat → Int) (a1 : Nat → Int) (K : EV → Heap → Prop) : evFn E_wide_Add Tryz.f46 false [.arr .u64 6 a0, .arr .u64 6 a1] [] K = wide_Add a0 a1 (fun y0 y1 => K (EV.tuple [EV.arr IntKind.u64 6 y0, EV.bool y1]) []) := by
  rw [wide_Add.is]; exact (evFnQ_eq _ _ _ _ _ _).symm.trans (by kernel_rfl)
theorem X_wide_Add.ok : SoundE Tryz.prog gl 46 e_wide_Add := by
  refine fnOK (E := E_wide_Add) (fn := Tryz.f46) rfl tys_ok rfl (show AllL _ l_wide_Add from ⟨X_word_Add.ok, trivial⟩) mixed (by kernel_rfl) (by kernel_rfl) (by kernel_rfl) 1 (by kernel_rfl) false ⟨wide_Add.l2X.ok, trivial⟩ ?_
  intro args H
  by_cases hx : ∃ (a0 : Nat → Int) (a1 : Nat → Int), args = [.arr .u64 6 a0, .arr .u64 6 a1] ∧ H = []
  · obtain ⟨a0, a1, rfl, rfl⟩ := hx
    right; intro K
    exact iff_of_eq (X_wide_Add.eq a0 a1 K).symm
  · left; intro K h
    simp only [e_wide_Add] at h
    split at h
    · exact hx ⟨_, _, rfl, rfl⟩
    · exact h
noncomputable def e_wide_Bit : Entry := ⟨[none, none], false, fun args H K => match args, H with
  | [.arr .u64 6 a0, .int .i64 a1], [] => wide_Bit a0 a1 (fun y0 => K (EV.bool y0) [])
  | _, _ => False⟩
noncomputable def E_wide_Bit : Env := ⟨look tys, look [], look [], gl, lookL [], false⟩
theorem X_wide_Bit.eq (a0 : Nat → Int) (a1 : Int) (K : EV → Heap → Prop) : evFn E_wide_Bit Tryz.f62 false [.arr .u64 6 a0, .int .i64 a1] [] K = wide_Bit a0 a1 (fun y0 => K (EV.bool y0) []) := by
  rw [wide_Bit.is]; exact (evFnQ_eq _ _ _ _ _ _).symm.trans (by kernel_rfl)
theorem X_wide_Bit.ok : SoundE Tryz.prog gl 62 e_wide_Bit := by
  refine fnOK (E := E_wide_Bit) (fn := Tryz.f62) rfl tys_ok rfl (show AllL _ [] from trivial) mixed (by kernel_rfl) (by kernel_rfl) (by kernel_rfl) 0 (by kernel_rfl) false trivial ?_
  intro args H
  by_cases hx : ∃ (a0 : Nat → Int) (a1 : Int), args = [.arr .u64 6 a0, .int .i64 a1] ∧ H = []
  · obtain ⟨a0, a1, rfl, rfl⟩ := hx
    right; intro K
    exact iff_of_eq (X_wide_Bit.eq a0 a1 K).symm
  · left; intro K h
    simp only [e_wide_Bit] at h
    split at h
    · exact hx ⟨_, _, rfl, rfl⟩
    · exact h
noncomputable def e_wide_And : Entry := ⟨[none, none], false, fun args H K => match args, H with
  | [.arr .u64 6 a0, .arr .u64 6 a1], [] => wide_And a0 a1 (fun y0 => K (EV.arr IntKind.u64 6 y0) [])
  | _, _ => False⟩
noncomputable def E_wide_And : Env := ⟨look tys, look [], look [(2, wide_And.l2.entry)], gl, lookL [], false⟩
theorem wide_And.l2X.stepEq (R : List EV → Heap → Prop) (K : Ex → List EV → Heap → Prop) (x0 : Int) (x1 : Nat → Int) (x2 : Nat → Int) (x3 : Nat → Int) : loopStep (evCode E_wide_And (loopAt Tryz.f64 0) { (LV.mk 20 [(0, 20)] 16 0 false) with nx := live (.loop (loopAt Tryz.f64 0)) (LV.mk 20 [(0, 20)] 16 0 false) }) (live (.loop (loopAt Tryz.f64 0)) (LV.mk 20 [(0, 20)] 16 0 false)) (LV.mk 20 [(0, 20)] 16 0 false) 0 19 R [EV.ptr 0 [], EV.ptr 1 [], EV.ptr 2 [], EV.int IntKind.i64 x0] [some (EV.arr IntKind.u64 6 x1), some (EV.arr IntKind.u64 6 x2), some (EV.arr IntKind.u64 6 x3)] K = wide_And.l2.step (fun x0 x1 x2 x3 => R [EV.ptr 0 [], EV.ptr 1 [], EV.ptr 2 [], EV.int IntKind.i64 x0] [some (EV.arr IntKind.u64 6 x1), some (EV.arr IntKind.u64 6 x2), some (EV.arr IntKind.u64 6 x3)]) (fun y0 y1 => K (.exit 0) [EV.ptr 0 [], EV.ptr 1 []] [some (EV.arr IntKind.u64 6 y0), some (EV.arr IntKind.u64 6 y1)]) x0 x1 x2 x3 := (stepQ_eq _ _ _ _ _ _ _ _ _ _ _).symm.trans (by kernel_rfl)
theorem wide_And.l2X.eq (K : Ex → List EV → Heap → Prop) : ∀ (n : Nat) (x0 : Int) (x1 : Nat → Int) (x2 : Nat → Int) (x3 : Nat → Int), loopE E_wide_And (loopAt Tryz.f64 0) (LV.mk 20 [(0, 20)] 16 0 false) 0 19 K n [EV.ptr 0 [], EV.ptr 1 [], EV.ptr 2 [], EV.int IntKind.i64 x0] [some (EV.arr IntKind.u64 6 x1), some (EV.arr IntKind.u64 6 x2), some (EV.arr IntKind.u64 6 x3)] = wide_And.l2 (fun y0 y1 => K (.exit 0) [EV.ptr 0 [], EV.ptr 1 []] [some (EV.arr IntKind.u64 6 y0), some (EV.arr IntKind.u64 6 y1)]) n x0 x1 x2 x3
  | 0, _, _, _, _ => rfl
  | n + 1, x0, x1, x2, x3 => by
    have ih : (fun (x0 : Int) (x1 : Nat → Int) (x2 : Nat → Int) (x3 : Nat → Int) => loopE E_wide_And (loopAt Tryz.f64 0) (LV.mk 20 [(0, 20)] 16 0 false) 0 19 K n [EV.ptr 0 [], EV.ptr 1 [], EV.ptr 2 [], EV.int IntKind.i64 x0] [some (EV.arr IntKind.u64 6 x1), some (EV.arr IntKind.u64 6 x2), some (EV.arr IntKind.u64 6 x3)]) = wide_And.l2 (fun y0 y1 => K (.exit 0) [EV.ptr 0 [], EV.ptr 1 []] [some (EV.arr IntKind.u64 6 y0), some (EV.arr IntKind.u64 6 y1)]) n := by funext x0 x1 x2 x3; exact wide_And.l2X.eq K n x0 x1 x2 x3
    show loopStep _ _ _ _ _ (loopE E_wide_And (loopAt Tryz.f64 0) (LV.mk 20 [(0, 20)] 16 0 false) 0 19 K n) [EV.ptr 0 [], EV.ptr 1 [], EV.ptr 2 [], EV.int IntKind.i64 x0] [some (EV.arr IntKind.u64 6 x1), some (EV.arr IntKind.u64 6 x2), some (EV.arr IntKind.u64 6 x3)] K = wide_And.l2.step (wide_And.l2 (fun y0 y1 => K (.exit 0) [EV.ptr 0 [], EV.ptr 1 []] [some (EV.arr IntKind.u64 6 y0), some (EV.arr IntKind.u64 6 y1)]) n) (fun y0 y1 => K (.exit 0) [EV.ptr 0 [], EV.ptr 1 []] [some (EV.arr IntKind.u64 6 y0), some (EV.arr IntKind.u64 6 y1)]) x0 x1 x2 x3
    rw [← ih]
    exact wide_And.l2X.stepEq _ K x0 x1 x2 x3
theorem wide_And.l2X.ok : LoopEq E_wide_And (loopAt Tryz.f64 0) := by
  intro L hL vs H
  have h1 : E_wide_And.lp (firstRegion (loopAt Tryz.f64 0)) = some wide_And.l2.entry := by kernel_rfl
  have h2 : L = wide_And.l2.entry := Option.some.inj (hL.symm.trans h1)
  subst h2
  by_cases hx : ∃ (x0 : Int) (x1 : Nat → Int) (x2 : Nat → Int) (x3 : Nat → Int), vs = [EV.ptr 0 [], EV.ptr 1 [], EV.ptr 2 [], EV.int IntKind.i64 x0] ∧ H = [some (EV.arr IntKind.u64 6 x1), some (EV.arr IntKind.u64 6 x2), some (EV.arr IntKind.u64 6 x3)]
  · obtain ⟨x0, x1, x2, x3, rfl, rfl⟩ := hx
    right; intro K
    exact exists_congr fun n => iff_of_eq (wide_And.l2X.eq K n x0 x1 x2 x3).symm
  · left; intro K h
    simp only [wide_And.l2.entry] at h
    split at h
    · exact hx ⟨_, _, _, _, rfl, rfl⟩
    · exact h
theorem X_wide_And.eq (a0 : Nat → Int) (a1 : Nat → Int) (K : EV → Heap → Prop) : evFn E_wide_And Tryz.f64 false [.arr .u64 6 a0, .arr .u64 6 a1] [] K = wide_And a0 a1 (fun y0 => K (EV.arr IntKind.u64 6 y0) []) := by
  rw [wide_And.is]; exact (evFnQ_eq _ _ _ _ _ _).symm.trans (by kernel_rfl)
theorem X_wide_And.ok : SoundE Tryz.prog gl 64 e_wide_And := by
  refine fnOK (E := E_wide_And) (fn := Tryz.f64) rfl tys_ok rfl (show AllL _ [] from trivial) mixed (by kernel_rfl) (by kernel_rfl) (by kernel_rfl) 1 (by kernel_rfl) false ⟨wide_And.l2X.ok, trivial⟩ ?_
  intro args H
  by_cases hx : ∃ (a0 : Nat → Int) (a1 : Nat → Int), args = [.arr .u64 6 a0, .arr .u64 6 a1] ∧ H = []
  · obtain ⟨a0, a1, rfl, rfl⟩ := hx
    right; intro K
    exact iff_of_eq (X_wide_And.eq a0 a1 K).symm
  · left; intro K h
    simp only [e_wide_And] at h
    split at h
    · exact hx ⟨_, _, rfl, rfl⟩
    · exact h
noncomputable def e_word_count : Entry := ⟨[none], false, fun args H K => match args, H with
  | [.int .i64 a0], [] => word_count a0 (fun y0 => K (EV.int IntKind.u64 y0) [])
  | _, _ => False⟩
noncomputable def E_word_count : Env := ⟨look tys, look [], look [], gl, lookL [], false⟩
theorem X_word_count.eq (a0 : Int) (K : EV → Heap → Prop) : evFn E_word_count Tryz.f184 false [.int .i64 a0] [] K = word_count a0 (fun y0 => K (EV.int IntKind.u64 y0) []) := by
  rw [word_count.is]; exact (evFnQ_eq _ _ _ _ _ _).symm.trans (by kernel_rfl)
theorem X_word_count.ok : SoundE Tryz.prog gl 184 e_word_count := by
  refine fnOK (E := E_word_count) (fn := Tryz.f184) rfl tys_ok rfl (show AllL _ [] from trivial) mixed (by kernel_rfl) (by kernel_rfl) (by kernel_rfl) 0 (by kernel_rfl) false trivial ?_
  intro args H
  by_cases hx : ∃ (a0 : Int), args = [.int .i64 a0] ∧ H = []
  · obtain ⟨a0, rfl, rfl⟩ := hx
    right; intro K
    exact iff_of_eq (X_word_count.eq a0 K).symm
  · left; intro K h
    simp only [e_word_count] at h
    split at h
    · exact hx ⟨_, rfl, rfl⟩
    · exact h
noncomputable def e_word_Mask : Entry := ⟨[none], false, fun args H K => match args, H with
  | [.int .i64 a0], [] => word_Mask a0 (fun y0 => K (EV.int IntKind.u64 y0) [])
  | _, _ => False⟩
noncomputable def l_word_Mask : List (Nat × Entry) := [(184, e_word_count)]
noncomputable def E_word_Mask : Env := ⟨look tys, look l_word_Mask, look [], gl, lookL [], false⟩
theorem X_word_Mask.eq (a0 : Int) (K : EV → Heap → Prop) : evFn E_word_Mask Tryz.f135 false [.int .i64 a0] [] K = word_Mask a0 (fun y0 => K (EV.int IntKind.u64 y0) []) := by
  rw [word_Mask.is]; exact (evFnQ_eq _ _ _ _ _ _).symm.trans (by kernel_rfl)
theorem X_word_Mask.ok : SoundE Tryz.prog gl 135 e_word_Mask := by
  refine fnOK (E := E_word_Mask) (fn := Tryz.f135) rfl tys_ok rfl (show AllL _ l_word_Mask from ⟨X_word_count.ok, trivial⟩) mixed (by kernel_rfl) (by kernel_rfl) (by kernel_rfl) 0 (by kernel_rfl) false trivial ?_
  intro args H
  by_cases hx : ∃ (a0 : Int), args = [.int .i64 a0] ∧ H = []
  · obtain ⟨a0, rfl, rfl⟩ := hx
    right; intro K
    exact iff_of_eq (X_word_Mask.eq a0 K).symm
  · left; intro K h
    simp only [e_word_Mask] at h
    split at h
    · exact hx ⟨_, rfl, rfl⟩
    · exact h
noncomputable def e_wide_Mask : Entry := ⟨[none], false, fun args H K => match args, H with
  | [.int .i64 a0], [] => wide_Mask a0 (fun y0 => K (EV.arr IntKind.u64 6 y0) [])
  | _, _ => False⟩
noncomputable def l_wide_Mask : List (Nat × Entry) := [(110, e_wide_count), (135, e_word_Mask)]
noncomputable def E_wide_Mask : Env := ⟨look tys, look l_wide_Mask, look [(4, wide_Mask.l4.entry)], gl, lookL [], false⟩
theorem wide_Mask.l4X.stepEq (R : List EV → Heap → Prop) (K : Ex → List EV → Heap → Prop) (x0 : Int) (x1 : Int) (x2 : Nat → Int) (x3 : Nat → Int) : loopStep (evCode E_wide_Mask (loopAt Tryz.f65 0) { (LV.mk 12 [(0, 12)] 4 0 false) with nx := live (.loop (loopAt Tryz.f65 0)) (LV.mk 12 [(0, 12)] 4 0 false) }) (live (.loop (loopAt Tryz.f65 0)) (LV.mk 12 [(0, 12)] 4 0 false)) (LV.mk 12 [(0, 12)] 4 0 false) 0 19 R [EV.int IntKind.i64 x0, EV.ptr 0 [], EV.ptr 1 [], EV.int IntKind.i64 x1] [some (EV.arr IntKind.u64 6 x2), some (EV.arr IntKind.u64 6 x3)] K = wide_Mask.l4.step (fun x0 x1 x2 x3 => R [EV.int IntKind.i64 x0, EV.ptr 0 [], EV.ptr 1 [], EV.int IntKind.i64 x1] [some (EV.arr IntKind.u64 6 x2), some (EV.arr IntKind.u64 6 x3)]) (fun y0 y1 => K (.exit 0) [EV.ptr 0 [], EV.ptr 1 []] [some (EV.arr IntKind.u64 6 y0), some (EV.arr IntKind.u64 6 y1)]) x0 x1 x2 x3 := (stepQ_eq _ _ _ _ _ _ _ _ _ _ _).symm.trans (by kernel_rfl)
theorem wide_Mask.l4X.eq (K : Ex → List EV → Heap → Prop) : ∀ (n : Nat) (x0 : Int) (x1 : Int) (x2 : Nat → Int) (x3 : Nat → Int), loopE E_wide_Mask (loopAt Tryz.f65 0) (LV.mk 12 [(0, 12)] 4 0 false) 0 19 K n [EV.int IntKind.i64 x0, EV.ptr 0 [], EV.ptr 1 [], EV.int IntKind.i64 x1] [some (EV.arr IntKind.u64 6 x2), some (EV.arr IntKind.u64 6 x3)] = wide_Mask.l4 (fun y0 y1 => K (.exit 0) [EV.ptr 0 [], EV.ptr 1 []] [some (EV.arr IntKind.u64 6 y0), some (EV.arr IntKind.u64 6 y1)]) n x0 x1 x2 x3
  | 0, _, _, _, _ => rfl
  | n + 1, x0, x1, x2, x3 => by
    have ih : (fun (x0 : Int) (x1 : Int) (x2 : Nat → Int) (x3 : Nat → Int) => loopE E_wide_Mask (loopAt Tryz.f65 0) (LV.mk 12 [(0, 12)] 4 0 false) 0 19 K n [EV.int IntKind.i64 x0, EV.ptr 0 [], EV.ptr 1 [], EV.int IntKind.i64 x1] [some (EV.arr IntKind.u64 6 x2), some (EV.arr IntKind.u64 6 x3)]) = wide_Mask.l4 (fun y0 y1 => K (.exit 0) [EV.ptr 0 [], EV.ptr 1 []] [some (EV.arr IntKind.u64 6 y0), some (EV.arr IntKind.u64 6 y1)]) n := by funext x0 x1 x2 x3; exact wide_Mask.l4X.eq K n x0 x1 x2 x3
    show loopStep _ _ _ _ _ (loopE E_wide_Mask (loopAt Tryz.f65 0) (LV.mk 12 [(0, 12)] 4 0 false) 0 19 K n) [EV.int IntKind.i64 x0, EV.ptr 0 [], EV.ptr 1 [], EV.int IntKind.i64 x1] [some (EV.arr IntKind.u64 6 x2), some (EV.arr IntKind.u64 6 x3)] K = wide_Mask.l4.step (wide_Mask.l4 (fun y0 y1 => K (.exit 0) [EV.ptr 0 [], EV.ptr 1 []] [some (EV.arr IntKind.u64 6 y0), some (EV.arr IntKind.u64 6 y1)]) n) (fun y0 y1 => K (.exit 0) [EV.ptr 0 [], EV.ptr 1 []] [some (EV.arr IntKind.u64 6 y0), some (EV.arr IntKind.u64 6 y1)]) x0 x1 x2 x3
    rw [← ih]
    exact wide_Mask.l4X.stepEq _ K x0 x1 x2 x3
theorem wide_Mask.l4X.ok : LoopEq E_wide_Mask (loopAt Tryz.f65 0) := by
  intro L hL vs H
  have h1 : E_wide_Mask.lp (firstRegion (loopAt Tryz.f65 0)) = some wide_Mask.l4.entry := by kernel_rfl
  have h2 : L = wide_Mask.l4.entry := Option.some.inj (hL.symm.trans h1)
  subst h2
  by_cases hx : ∃ (x0 : Int) (x1 : Int) (x2 : Nat → Int) (x3 : Nat → Int), vs = [EV.int IntKind.i64 x0, EV.ptr 0 [], EV.ptr 1 [], EV.int IntKind.i64 x1] ∧ H = [some (EV.arr IntKind.u64 6 x2), some (EV.arr IntKind.u64 6 x3)]
  · obtain ⟨x0, x1, x2, x3, rfl, rfl⟩ := hx
    right; intro K
    exact exists_congr fun n => iff_of_eq (wide_Mask.l4X.eq K n x0 x1 x2 x3).symm
  · left; intro K h
    simp only [wide_Mask.l4.entry] at h
    split at h
    · exact hx ⟨_, _, _, _, rfl, rfl⟩
    · exact h
theorem X_wide_Mask.eq (a0 : Int) (K : EV → Heap → Prop) : evFn E_wide_Mask Tryz.f65 false [.int .i64 a0] [] K = wide_Mask a0 (fun y0 => K (EV.arr IntKind.u64 6 y0) []) := by
  rw [wide_Mask.is]; exact (evFnQ_eq _ _ _ _ _ _).symm.trans (by kernel_rfl)
theorem X_wide_Mask.ok : SoundE Tryz.prog gl 65 e_wide_Mask := by
  refine fnOK (E := E_wide_Mask) (fn := Tryz.f65) rfl tys_ok rfl (show AllL _ l_wide_Mask from ⟨X_wide_count.ok, X_word_Mask.ok, trivial⟩) mixed (by kernel_rfl) (by kernel_rfl) (by kernel_rfl) 1 (by kernel_rfl) false ⟨wide_Mask.l4X.ok, trivial⟩ ?_
  intro args H
  by_cases hx : ∃ (a0 : Int), args = [.int .i64 a0] ∧ H = []
  · obtain ⟨a0, rfl, rfl⟩ := hx
    right; intro K
    exact iff_of_eq (X_wide_Mask.eq a0 K).symm
  · left; intro K h
    simp only [e_wide_Mask] at h
    split at h
    · exact hx ⟨_, rfl, rfl⟩
    · exact h
noncomputable def e_bits_TrailingZeros64 : Entry := ⟨[none], false, fun args H K => match args, H with
  | [.int .u64 a0], [] => bits_TrailingZeros64 a0 (fun y0 => K (EV.int IntKind.i64 y0) [])
  | _, _ => False⟩
noncomputable def E_bits_TrailingZeros64 : Env := ⟨look tys, look [], look [], gl, lookL [], false⟩
theorem X_bits_TrailingZeros64.eq (a0 : Int) (K : EV → Heap → Prop) : evFn E_bits_TrailingZeros64 Tryz.f199 false [.int .u64 a0] [] K = bits_TrailingZeros64 a0 (fun y0 => K (EV.int IntKind.i64 y0) []) := by
  rw [bits_TrailingZeros64.is]; exact (evFnQ_eq _ _ _ _ _ _).symm.trans (by kernel_rfl)
theorem X_bits_TrailingZeros64.ok : SoundE Tryz.prog gl 199 e_bits_TrailingZeros64 := by
  refine fnOK (E := E_bits_TrailingZeros64) (fn := Tryz.f199) rfl tys_ok rfl (show AllL _ [] from trivial) mixed (by kernel_rfl) (by kernel_rfl) (by kernel_rfl) 0 (by kernel_rfl) false trivial ?_
  intro args H
  by_cases hx : ∃ (a0 : Int), args = [.int .u64 a0] ∧ H = []
  · obtain ⟨a0, rfl, rfl⟩ := hx
    right; intro K
    exact iff_of_eq (X_bits_TrailingZeros64.eq a0 K).symm
  · left; intro K h
    simp only [e_bits_TrailingZeros64] at h
    split at h
    · exact hx ⟨_, rfl, rfl⟩
    · exact h
noncomputable def e_word_Low : Entry := ⟨[none], false, fun args H K => match args, H with
  | [.int .u64 a0], [] => word_Low a0 (fun y0 => K (EV.int IntKind.i64 y0) [])
  | _, _ => False⟩
noncomputable def l_word_Low : List (Nat × Entry) := [(199, e_bits_TrailingZeros64)]
noncomputable def E_word_Low : Env := ⟨look tys, look l_word_Low, look [], gl, lookL [], false⟩
theorem X_word_Low.eq (a0 : Int) (K : EV → Heap → Prop) : evFn E_word_Low Tryz.f173 false [.int .u64 a0] [] K = word_Low a0 (fun y0 => K (EV.int IntKind.i64 y0) []) := by
  rw [word_Low.is]; exact (evFnQ_eq _ _ _ _ _ _).symm.trans (by kernel_rfl)
theorem X_word_Low.ok : SoundE Tryz.prog gl 173 e_word_Low := by
  refine fnOK (E := E_word_Low) (fn := Tryz.f173) rfl tys_ok rfl (show AllL _ l_word_Low from ⟨X_bits_TrailingZeros64.ok, trivial⟩) mixed (by kernel_rfl) (by kernel_rfl) (by kernel_rfl) 0 (by kernel_rfl) false trivial ?_
  intro args H
  by_cases hx : ∃ (a0 : Int), args = [.int .u64 a0] ∧ H = []
  · obtain ⟨a0, rfl, rfl⟩ := hx
    right; intro K
    exact iff_of_eq (X_word_Low.eq a0 K).symm
  · left; intro K h
    simp only [e_word_Low] at h
    split at h
    · exact hx ⟨_, rfl, rfl⟩
    · exact h
noncomputable def e_wide_Low : Entry := ⟨[none], false, fun args H K => match args, H with
  | [.arr .u64 6 a0], [] => wide_Low a0 (fun y0 => K (EV.int IntKind.i64 y0) [])
  | _, _ => False⟩
noncomputable def l_wide_Low : List (Nat × Entry) := [(173, e_word_Low)]
noncomputable def E_wide_Low : Env := ⟨look tys, look l_wide_Low, look [(2, wide_Low.l2.entry)], gl, lookL [], false⟩
theorem wide_Low.l2X.stepEq (R : List EV → Heap → Prop) (K : Ex → List EV → Heap → Prop) (x0 : Nat → Int) (x1 : Int) : loopStep (evCode E_wide_Low (loopAt Tryz.f194 0) { (LV.mk 0 [(0, 0)] 4 0 false) with nx := live (.loop (loopAt Tryz.f194 0)) (LV.mk 0 [(0, 0)] 4 0 false) }) (live (.loop (loopAt Tryz.f194 0)) (LV.mk 0 [(0, 0)] 4 0 false)) (LV.mk 0 [(0, 0)] 4 0 false) 0 18 R [EV.arr IntKind.u64 6 x0, EV.int IntKind.i64 x1] [] K = wide_Low.l2.step (fun x0 x1 => R [EV.arr IntKind.u64 6 x0, EV.int IntKind.i64 x1] []) (fun y0 => K .ret [EV.int IntKind.i64 y0] []) (K (.exit 0) [] []) x0 x1 := (stepQ_eq _ _ _ _ _ _ _ _ _ _ _).symm.trans (by kernel_rfl)
theorem wide_Low.l2X.eq (K : Ex → List EV → Heap → Prop) : ∀ (n : Nat) (x0 : Nat → Int) (x1 : Int), loopE E_wide_Low (loopAt Tryz.f194 0) (LV.mk 0 [(0, 0)] 4 0 false) 0 18 K n [EV.arr IntKind.u64 6 x0, EV.int IntKind.i64 x1] [] = wide_Low.l2 (fun y0 => K .ret [EV.int IntKind.i64 y0] []) (K (.exit 0) [] []) n x0 x1
  | 0, _, _ => rfl
  | n + 1, x0, x1 => by
    have ih : (fun (x0 : Nat → Int) (x1 : Int) => loopE E_wide_Low (loopAt Tryz.f194 0) (LV.mk 0 [(0, 0)] 4 0 false) 0 18 K n [EV.arr IntKind.u64 6 x0, EV.int IntKind.i64 x1] []) = wide_Low.l2 (fun y0 => K .ret [EV.int IntKind.i64 y0] []) (K (.exit 0) [] []) n := by funext x0 x1; exact wide_Low.l2X.eq K n x0 x1
    show loopStep _ _ _ _ _ (loopE E_wide_Low (loopAt Tryz.f194 0) (LV.mk 0 [(0, 0)] 4 0 false) 0 18 K n) [EV.arr IntKind.u64 6 x0, EV.int IntKind.i64 x1] [] K = wide_Low.l2.step (wide_Low.l2 (fun y0 => K .ret [EV.int IntKind.i64 y0] []) (K (.exit 0) [] []) n) (fun y0 => K .ret [EV.int IntKind.i64 y0] []) (K (.exit 0) [] []) x0 x1
    rw [← ih]
    exact wide_Low.l2X.stepEq _ K x0 x1
theorem wide_Low.l2X.ok : LoopEq E_wide_Low (loopAt Tryz.f194 0) := by
  intro L hL vs H
  have h1 : E_wide_Low.lp (firstRegion (loopAt Tryz.f194 0)) = some wide_Low.l2.entry := by kernel_rfl
  have h2 : L = wide_Low.l2.entry := Option.some.inj (hL.symm.trans h1)
  subst h2
  by_cases hx : ∃ (x0 : Nat → Int) (x1 : Int), vs = [EV.arr IntKind.u64 6 x0, EV.int IntKind.i64 x1] ∧ H = []
  · obtain ⟨x0, x1, rfl, rfl⟩ := hx
    right; intro K
    exact exists_congr fun n => iff_of_eq (wide_Low.l2X.eq K n x0 x1).symm
  · left; intro K h
    simp only [wide_Low.l2.entry] at h
    split at h
    · exact hx ⟨_, _, rfl, rfl⟩
    · exact h
theorem X_wide_Low.eq (a0 : Nat → Int) (K : EV → Heap → Prop) : evFn E_wide_Low Tryz.f194 false [.arr .u64 6 a0] [] K = wide_Low a0 (fun y0 => K (EV.int IntKind.i64 y0) []) := by
  rw [wide_Low.is]; exact (evFnQ_eq _ _ _ _ _ _).symm.trans (by kernel_rfl)
theorem X_wide_Low.ok : SoundE Tryz.prog gl 194 e_wide_Low := by
  refine fnOK (E := E_wide_Low) (fn := Tryz.f194) rfl tys_ok rfl (show AllL _ l_wide_Low from ⟨X_word_Low.ok, trivial⟩) mixed (by kernel_rfl) (by kernel_rfl) (by kernel_rfl) 1 (by kernel_rfl) false ⟨wide_Low.l2X.ok, trivial⟩ ?_
  intro args H
  by_cases hx : ∃ (a0 : Nat → Int), args = [.arr .u64 6 a0] ∧ H = []
  · obtain ⟨a0, rfl, rfl⟩ := hx
    right; intro K
    exact iff_of_eq (X_wide_Low.eq a0 K).symm
  · left; intro K h
    simp only [e_wide_Low] at h
    split at h
    · exact hx ⟨_, rfl, rfl⟩
    · exact h
noncomputable def e_wide_Right : Entry := ⟨[none, none], false, fun args H K => match args, H with
  | [.arr .u64 6 a0, .int .i64 a1], [] => wide_Right a0 a1 (fun y0 y1 => K (EV.tuple [EV.arr IntKind.u64 6 y0, EV.bool y1]) [])
  | _, _ => False⟩
noncomputable def l_wide_Right : List (Nat × Entry) := [(110, e_wide_count), (194, e_wide_Low)]
noncomputable def E_wide_Right : Env := ⟨look tys, look l_wide_Right, look [(5, wide_Right.l5.entry)], gl, lookL [], false⟩
theorem wide_Right.l5X.stepEq (R : List EV → Heap → Prop) (K : Ex → List EV → Heap → Prop) (x0 : Bool) (x1 : Int) (x2 : Int) (x3 : Int) (x4 : Nat → Int) (x5 : Nat → Int) : loopStep (evCode E_wide_Right (loopAt Tryz.f163 0) { (LV.mk 48 [(0, 48)] 48 0 false) with nx := live (.loop (loopAt Tryz.f163 0)) (LV.mk 48 [(0, 48)] 48 0 false) }) (live (.loop (loopAt Tryz.f163 0)) (LV.mk 48 [(0, 48)] 48 0 false)) (LV.mk 48 [(0, 48)] 48 0 false) 0 60 R [EV.ptr 0 [], EV.ptr 1 [], EV.bool x0, EV.int IntKind.i64 x1, EV.int IntKind.u64 x2, EV.int IntKind.i64 x3] [some (EV.arr IntKind.u64 6 x4), some (EV.arr IntKind.u64 6 x5)] K = wide_Right.l5.step (fun x0 x1 x2 x3 x4 x5 => R [EV.ptr 0 [], EV.ptr 1 [], EV.bool x0, EV.int IntKind.i64 x1, EV.int IntKind.u64 x2, EV.int IntKind.i64 x3] [some (EV.arr IntKind.u64 6 x4), some (EV.arr IntKind.u64 6 x5)]) (fun y0 y1 => K (.exit 0) [EV.ptr 0 [], EV.bool y0] [some (EV.arr IntKind.u64 6 y1)]) x0 x1 x2 x3 x4 x5 := (stepQ_eq _ _ _ _ _ _ _ _ _ _ _).symm.trans (by kernel_rfl)
theorem wide_Right.l5X.eq (K : Ex → List EV → Heap → Prop) : ∀ (n : Nat) (x0 : Bool) (x1 : Int) (x2 : Int) (x3 : Int) (x4 : Nat → Int) (x5 : Nat → Int), loopE E_wide_Right (loopAt Tryz.f163 0) (LV.mk 48 [(0, 48)] 48 0 false) 0 60 K n [EV.ptr 0 [], EV.ptr 1 [], EV.bool x0, EV.int IntKind.i64 x1, EV.int IntKind.u64 x2, EV.int IntKind.i64 x3] [some (EV.arr IntKind.u64 6 x4), some (EV.arr IntKind.u64 6 x5)] = wide_Right.l5 (fun y0 y1 => K (.exit 0) [EV.ptr 0 [], EV.bool y0] [some (EV.arr IntKind.u64 6 y1)]) n x0 x1 x2 x3 x4 x5
  | 0, _, _, _, _, _, _ => rfl
  | n + 1, x0, x1, x2, x3, x4, x5 => by
    have ih : (fun (x0 : Bool) (x1 : Int) (x2 : Int) (x3 : Int) (x4 : Nat → Int) (x5 : Nat → Int) => loopE E_wide_Right (loopAt Tryz.f163 0) (LV.mk 48 [(0, 48)] 48 0 false) 0 60 K n [EV.ptr 0 [], EV.ptr 1 [], EV.bool x0, EV.int IntKind.i64 x1, EV.int IntKind.u64 x2, EV.int IntKind.i64 x3] [some (EV.arr IntKind.u64 6 x4), some (EV.arr IntKind.u64 6 x5)]) = wide_Right.l5 (fun y0 y1 => K (.exit 0) [EV.ptr 0 [], EV.bool y0] [some (EV.arr IntKind.u64 6 y1)]) n := by funext x0 x1 x2 x3 x4 x5; exact wide_Right.l5X.eq K n x0 x1 x2 x3 x4 x5
    show loopStep _ _ _ _ _ (loopE E_wide_Right (loopAt Tryz.f163 0) (LV.mk 48 [(0, 48)] 48 0 false) 0 60 K n) [EV.ptr 0 [], EV.ptr 1 [], EV.bool x0, EV.int IntKind.i64 x1, EV.int IntKind.u64 x2, EV.int IntKind.i64 x3] [some (EV.arr IntKind.u64 6 x4), some (EV.arr IntKind.u64 6 x5)] K = wide_Right.l5.step (wide_Right.l5 (fun y0 y1 => K (.exit 0) [EV.ptr 0 [], EV.bool y0] [some (EV.arr IntKind.u64 6 y1)]) n) (fun y0 y1 => K (.exit 0) [EV.ptr 0 [], EV.bool y0] [some (EV.arr IntKind.u64 6 y1)]) x0 x1 x2 x3 x4 x5
    rw [← ih]
    exact wide_Right.l5X.stepEq _ K x0 x1 x2 x3 x4 x5
theorem wide_Right.l5X.ok : LoopEq E_wide_Right (loopAt Tryz.f163 0) := by
  intro L hL vs H
  have h1 : E_wide_Right.lp (firstRegion (loopAt Tryz.f163 0)) = some wide_Right.l5.entry := by kernel_rfl
  have h2 : L = wide_Right.l5.entry := Option.some.inj (hL.symm.trans h1)
  subst h2
  by_cases hx : ∃ (x0 : Bool) (x1 : Int) (x2 : Int) (x3 : Int) (x4 : Nat → Int) (x5 : Nat → Int), vs = [EV.ptr 0 [], EV.ptr 1 [], EV.bool x0, EV.int IntKind.i64 x1, EV.int IntKind.u64 x2, EV.int IntKind.i64 x3] ∧ H = [some (EV.arr IntKind.u64 6 x4), some (EV.arr IntKind.u64 6 x5)]
  · obtain ⟨x0, x1, x2, x3, x4, x5, rfl, rfl⟩ := hx
    right; intro K
    exact exists_congr fun n => iff_of_eq (wide_Right.l5X.eq K n x0 x1 x2 x3 x4 x5).symm
  · left; intro K h
    simp only [wide_Right.l5.entry] at h
    split at h
    · exact hx ⟨_, _, _, _, _, _, rfl, rfl⟩
    · exact h
theorem X_wide_Right.eq (a0 : Nat → Int) (a1 : Int) (K : EV → Heap → Prop) : evFn E_wide_Right Tryz.f163 false [.arr .u64 6 a0, .int .i64 a1] [] K = wide_Right a0 a1 (fun y0 y1 => K (EV.tuple [EV.arr IntKind.u64 6 y0, EV.bool y1]) []) := by
  rw [wide_Right.is]; exact (evFnQ_eq _ _ _ _ _ _).symm.trans (by kernel_rfl)
theorem X_wide_Right.ok : SoundE Tryz.prog gl 163 e_wide_Right := by
  refine fnOK (E := E_wide_Right) (fn := Tryz.f163) rfl tys_ok rfl (show AllL _ l_wide_Right from ⟨X_wide_count.ok, X_wide_Low.ok, trivial⟩) mixed (by kernel_rfl) (by kernel_rfl) (by kernel_rfl) 1 (by kernel_rfl) false ⟨wide_Right.l5X.ok, trivial⟩ ?_
  intro args H
  by_cases hx : ∃ (a0 : Nat → Int) (a1 : Int), args = [.arr .u64 6 a0, .int .i64 a1] ∧ H = []
  · obtain ⟨a0, a1, rfl, rfl⟩ := hx
    right; intro K
    exact iff_of_eq (X_wide_Right.eq a0 a1 K).symm
  · left; intro K h
    simp only [e_wide_Right] at h
    split at h
    · exact hx ⟨_, _, rfl, rfl⟩
    · exact h
noncomputable def e_jam_Cut : Entry := ⟨[none, none], false, fun args H K => match args, H with
  | [.arr .u64 6 a0, .int .i64 a1], [] => jam_Cut a0 a1 (fun y0 y1 y2 => K (EV.tuple [EV.arr IntKind.u64 6 y0, EV.int IntKind.i64 y1, EV.bool y2]) [])
  | _, _ => False⟩
noncomputable def l_jam_Cut : List (Nat × Entry) := [(62, e_wide_Bit), (64, e_wide_And), (65, e_wide_Mask), (163, e_wide_Right)]
noncomputable def E_jam_Cut : Env := ⟨look tys, look l_jam_Cut, look [], gl, lookL [], false⟩
theorem X_jam_Cut.eq (a0 : Nat → Int) (a1 : Int) (K : EV → Heap → Prop) : evFn E_jam_Cut Tryz.f108 false [.arr .u64 6 a0, .int .i64 a1] [] K = jam_Cut a0 a1 (fun y0 y1 y2 => K (EV.tuple [EV.arr IntKind.u64 6 y0, EV.int IntKind.i64 y1, EV.bool y2]) []) := by
  rw [jam_Cut.is]; exact (evFnQ_eq _ _ _ _ _ _).symm.trans (by kernel_rfl)
theorem X_jam_Cut.ok : SoundE Tryz.prog gl 108 e_jam_Cut := by
  refine fnOK (E := E_jam_Cut) (fn := Tryz.f108) rfl tys_ok rfl (show AllL _ l_jam_Cut from ⟨X_wide_Bit.ok, X_wide_And.ok, X_wide_Mask.ok, X_wide_Right.ok, trivial⟩) mixed (by kernel_rfl) (by kernel_rfl) (by kernel_rfl) 0 (by kernel_rfl) false trivial ?_
  intro args H
  by_cases hx : ∃ (a0 : Nat → Int) (a1 : Int), args = [.arr .u64 6 a0, .int .i64 a1] ∧ H = []
  · obtain ⟨a0, a1, rfl, rfl⟩ := hx
    right; intro K
    exact iff_of_eq (X_jam_Cut.eq a0 a1 K).symm
  · left; intro K h
    simp only [e_jam_Cut] at h
    split at h
    · exact hx ⟨_, _, rfl, rfl⟩
    · exact h
noncomputable def e_round_Up : Entry := ⟨[none, none, none, none, none], false, fun args H K => match args, H with
  | [.int .u8 a0, .bool a1, .bool a2, .int .i64 a3, .bool a4], [] => round_Up a0 a1 a2 a3 a4 (fun y0 => K (EV.bool y0) [])
  | _, _ => False⟩
noncomputable def E_round_Up : Env := ⟨look tys, look [], look [], gl, lookL [], false⟩
theorem X_round_Up.eq (a0 : Int) (a1 : Bool) (a2 : Bool) (a3 : Int) (a4 : Bool) (K : EV → Heap → Prop) : evFn E_round_Up Tryz.f109 false [.int .u8 a0, .bool a1, .bool a2, .int .i64 a3, .bool a4] [] K = round_Up a0 a1 a2 a3 a4 (fun y0 => K (EV.bool y0) []) := by
  rw [round_Up.is]; exact (evFnQ_eq _ _ _ _ _ _).symm.trans (by kernel_rfl)
theorem X_round_Up.ok : SoundE Tryz.prog gl 109 e_round_Up := by
  refine fnOK (E := E_round_Up) (fn := Tryz.f109) rfl tys_ok rfl (show AllL _ [] from trivial) mixed (by kernel_rfl) (by kernel_rfl) (by kernel_rfl) 0 (by kernel_rfl) false trivial ?_
  intro args H
  by_cases hx : ∃ (a0 : Int) (a1 : Bool) (a2 : Bool) (a3 : Int) (a4 : Bool), args = [.int .u8 a0, .bool a1, .bool a2, .int .i64 a3, .bool a4] ∧ H = []
  · obtain ⟨a0, a1, a2, a3, a4, rfl, rfl⟩ := hx
    right; intro K
    exact iff_of_eq (X_round_Up.eq a0 a1 a2 a3 a4 K).symm
  · left; intro K h
    simp only [e_round_Up] at h
    split at h
    · exact hx ⟨_, _, _, _, _, rfl, rfl⟩
    · exact h
noncomputable def e_round_grid : Entry := ⟨[none, none, none], false, fun args H K => match args, H with
  | [.int .u8 a0, .agg [.bool a1_0, .arr .u64 6 a1_1, .int .i64 a1_2, .bool a1_3], .int .i64 a2], [] => round_grid a0 a1_0 a1_1 a1_2 a1_3 a2 (fun y0 y1 => K (EV.tuple [EV.arr IntKind.u64 6 y0, EV.bool y1]) [])
  | _, _ => False⟩
noncomputable def l_round_grid : List (Nat × Entry) := [(44, e_wide_Left), (45, e_wide_Of), (46, e_wide_Add), (108, e_jam_Cut), (109, e_round_Up)]
noncomputable def E_round_grid : Env := ⟨look tys, look l_round_grid, look [], gl, lookL [], false⟩
theorem X_round_grid.eq (a0 : Int) (a1_0 : Bool) (a1_1 : Nat → Int) (a1_2 : Int) (a1_3 : Bool) (a2 : Int) (K : EV → Heap → Prop) : evFn E_round_grid Tryz.f42 false [.int .u8 a0, .agg [.bool a1_0, .arr .u64 6 a1_1, .int .i64 a1_2, .bool a1_3], .int .i64 a2] [] K = round_grid a0 a1_0 a1_1 a1_2 a1_3 a2 (fun y0 y1 => K (EV.tuple [EV.arr IntKind.u64 6 y0, EV.bool y1]) []) := by
  rw [round_grid.is]; exact (evFnQ_eq _ _ _ _ _ _).symm.trans (by kernel_rfl)
theorem X_round_grid.ok : SoundE Tryz.prog gl 42 e_round_grid := by
  refine fnOK (E := E_round_grid) (fn := Tryz.f42) rfl tys_ok rfl (show AllL _ l_round_grid from ⟨X_wide_Left.ok, X_wide_Of.ok, X_wide_Add.ok, X_jam_Cut.ok, X_round_Up.ok, trivial⟩) mixed (by kernel_rfl) (by kernel_rfl) (by kernel_rfl) 0 (by kernel_rfl) false trivial ?_
  intro args H
  by_cases hx : ∃ (a0 : Int) (a1_0 : Bool) (a1_1 : Nat → Int) (a1_2 : Int) (a1_3 : Bool) (a2 : Int), args = [.int .u8 a0, .agg [.bool a1_0, .arr .u64 6 a1_1, .int .i64 a1_2, .bool a1_3], .int .i64 a2] ∧ H = []
  · obtain ⟨a0, a1_0, a1_1, a1_2, a1_3, a2, rfl, rfl⟩ := hx
    right; intro K
    exact iff_of_eq (X_round_grid.eq a0 a1_0 a1_1 a1_2 a1_3 a2 K).symm
  · left; intro K h
    simp only [e_round_grid] at h
    split at h
    · exact hx ⟨_, _, _, _, _, _, rfl, rfl⟩
    · exact h
noncomputable def e_round_tiny : Entry := ⟨[none, none, none, none], false, fun args H K => match args, H with
  | [.int .u8 a0, .int .u8 a1, .agg [.bool a2_0, .arr .u64 6 a2_1, .int .i64 a2_2, .bool a2_3], .int .i64 a3], [] => round_tiny a0 a1 a2_0 a2_1 a2_2 a2_3 a3 (fun y0 => K (EV.bool y0) [])
  | _, _ => False⟩
noncomputable def l_round_tiny : List (Nat × Entry) := [(35, e_shape_Precision), (37, e_wide_Len), (39, e_shape_Emin), (42, e_round_grid)]
noncomputable def E_round_tiny : Env := ⟨look tys, look l_round_tiny, look [], gl, lookL [], false⟩
theorem X_round_tiny.eq (a0 : Int) (a1 : Int) (a2_0 : Bool) (a2_1 : Nat → Int) (a2_2 : Int) (a2_3 : Bool) (a3 : Int) (K : EV → Heap → Prop) : evFn E_round_tiny Tryz.f43 false [.int .u8 a0, .int .u8 a1, .agg [.bool a2_0, .arr .u64 6 a2_1, .int .i64 a2_2, .bool a2_3], .int .i64 a3] [] K = round_tiny a0 a1 a2_0 a2_1 a2_2 a2_3 a3 (fun y0 => K (EV.bool y0) []) := by
  rw [round_tiny.is]; exact (evFnQ_eq _ _ _ _ _ _).symm.trans (by kernel_rfl)
theorem X_round_tiny.ok : SoundE Tryz.prog gl 43 e_round_tiny := by
  refine fnOK (E := E_round_tiny) (fn := Tryz.f43) rfl tys_ok rfl (show AllL _ l_round_tiny from ⟨X_shape_Precision.ok, X_wide_Len.ok, X_shape_Emin.ok, X_round_grid.ok, trivial⟩) mixed (by kernel_rfl) (by kernel_rfl) (by kernel_rfl) 0 (by kernel_rfl) false trivial ?_
  intro args H
  by_cases hx : ∃ (a0 : Int) (a1 : Int) (a2_0 : Bool) (a2_1 : Nat → Int) (a2_2 : Int) (a2_3 : Bool) (a3 : Int), args = [.int .u8 a0, .int .u8 a1, .agg [.bool a2_0, .arr .u64 6 a2_1, .int .i64 a2_2, .bool a2_3], .int .i64 a3] ∧ H = []
  · obtain ⟨a0, a1, a2_0, a2_1, a2_2, a2_3, a3, rfl, rfl⟩ := hx
    right; intro K
    exact iff_of_eq (X_round_tiny.eq a0 a1 a2_0 a2_1 a2_2 a2_3 a3 K).symm
  · left; intro K h
    simp only [e_round_tiny] at h
    split at h
    · exact hx ⟨_, _, _, _, _, _, _, rfl, rfl⟩
    · exact h
noncomputable def e_wide_ToBits : Entry := ⟨[none], false, fun args H K => match args, H with
  | [.arr .u64 6 a0], [] => wide_ToBits a0 (fun y0 y1 y2 => K (EV.tuple [EV.agg [EV.int IntKind.u64 y0, EV.int IntKind.u64 y1], EV.bool y2]) [])
  | _, _ => False⟩
noncomputable def E_wide_ToBits : Env := ⟨look tys, look [], look [], gl, lookL [], false⟩
theorem X_wide_ToBits.eq (a0 : Nat → Int) (K : EV → Heap → Prop) : evFn E_wide_ToBits Tryz.f47 false [.arr .u64 6 a0] [] K = wide_ToBits a0 (fun y0 y1 y2 => K (EV.tuple [EV.agg [EV.int IntKind.u64 y0, EV.int IntKind.u64 y1], EV.bool y2]) []) := by
  rw [wide_ToBits.is]; exact (evFnQ_eq _ _ _ _ _ _).symm.trans (by kernel_rfl)
theorem X_wide_ToBits.ok : SoundE Tryz.prog gl 47 e_wide_ToBits := by
  refine fnOK (E := E_wide_ToBits) (fn := Tryz.f47) rfl tys_ok rfl (show AllL _ [] from trivial) mixed (by kernel_rfl) (by kernel_rfl) (by kernel_rfl) 0 (by kernel_rfl) false trivial ?_
  intro args H
  by_cases hx : ∃ (a0 : Nat → Int), args = [.arr .u64 6 a0] ∧ H = []
  · obtain ⟨a0, rfl, rfl⟩ := hx
    right; intro K
    exact iff_of_eq (X_wide_ToBits.eq a0 K).symm
  · left; intro K h
    simp only [e_wide_ToBits] at h
    split at h
    · exact hx ⟨_, rfl, rfl⟩
    · exact h
noncomputable def e_round_Pack : Entry := ⟨[none, none, none], false, fun args H K => match args, H with
  | [.int .u8 a0, .int .u8 a1, .agg [.bool a2_0, .arr .u64 6 a2_1, .int .i64 a2_2, .bool a2_3]], [] => round_Pack a0 a1 a2_0 a2_1 a2_2 a2_3 (fun y0 y1 y2 y3 => K (EV.tuple [EV.agg [EV.int IntKind.u64 y0, EV.int IntKind.u64 y1], EV.int IntKind.u8 y2, EV.int IntKind.i64 y3]) [])
  | _, _ => False⟩
noncomputable def l_round_Pack : List (Nat × Entry) := [(35, e_shape_Precision), (36, e_round_right), (37, e_wide_Len), (38, e_shape_Zero), (39, e_shape_Emin), (40, e_shape_Emax), (41, e_round_Over), (42, e_round_grid), (43, e_round_tiny), (44, e_wide_Left), (45, e_wide_Of), (46, e_wide_Add), (47, e_wide_ToBits)]
noncomputable def E_round_Pack : Env := ⟨look tys, look l_round_Pack, look [], gl, lookL [], false⟩
theorem X_round_Pack.eq (a0 : Int) (a1 : Int) (a2_0 : Bool) (a2_1 : Nat → Int) (a2_2 : Int) (a2_3 : Bool) (K : EV → Heap → Prop) : evFn E_round_Pack Tryz.f8 false [.int .u8 a0, .int .u8 a1, .agg [.bool a2_0, .arr .u64 6 a2_1, .int .i64 a2_2, .bool a2_3]] [] K = round_Pack a0 a1 a2_0 a2_1 a2_2 a2_3 (fun y0 y1 y2 y3 => K (EV.tuple [EV.agg [EV.int IntKind.u64 y0, EV.int IntKind.u64 y1], EV.int IntKind.u8 y2, EV.int IntKind.i64 y3]) []) := by
  rw [round_Pack.is]; exact (evFnQ_eq _ _ _ _ _ _).symm.trans (by kernel_rfl)
theorem X_round_Pack.ok : SoundE Tryz.prog gl 8 e_round_Pack := by
  refine fnOK (E := E_round_Pack) (fn := Tryz.f8) rfl tys_ok rfl (show AllL _ l_round_Pack from ⟨X_shape_Precision.ok, X_round_right.ok, X_wide_Len.ok, X_shape_Zero.ok, X_shape_Emin.ok, X_shape_Emax.ok, X_round_Over.ok, X_round_grid.ok, X_round_tiny.ok, X_wide_Left.ok, X_wide_Of.ok, X_wide_Add.ok, X_wide_ToBits.ok, trivial⟩) mixed (by kernel_rfl) (by kernel_rfl) (by kernel_rfl) 0 (by kernel_rfl) false trivial ?_
  intro args H
  by_cases hx : ∃ (a0 : Int) (a1 : Int) (a2_0 : Bool) (a2_1 : Nat → Int) (a2_2 : Int) (a2_3 : Bool), args = [.int .u8 a0, .int .u8 a1, .agg [.bool a2_0, .arr .u64 6 a2_1, .int .i64 a2_2, .bool a2_3]] ∧ H = []
  · obtain ⟨a0, a1, a2_0, a2_1, a2_2, a2_3, rfl, rfl⟩ := hx
    right; intro K
    exact iff_of_eq (X_round_Pack.eq a0 a1 a2_0 a2_1 a2_2 a2_3 K).symm
  · left; intro K h
    simp only [e_round_Pack] at h
    split at h
    · exact hx ⟨_, _, _, _, _, _, rfl, rfl⟩
    · exact h
noncomputable def e_r07_Right : Entry := ⟨[none], false, fun args H K => match args, H with
  | [.int .u8 a0], [] => r07_Right a0 (fun y0 => K (EV.bool y0) [])
  | _, _ => False⟩
noncomputable def E_r07_Right : Env := ⟨look tys, look [], look [], gl, lookL [], false⟩
theorem X_r07_Right.eq (a0 : Int) (K : EV → Heap → Prop) : evFn E_r07_Right Tryz.f16 false [.int .u8 a0] [] K = r07_Right a0 (fun y0 => K (EV.bool y0) []) := by
  rw [r07_Right.is]; exact (evFnQ_eq _ _ _ _ _ _).symm.trans (by kernel_rfl)
theorem X_r07_Right.ok : SoundE Tryz.prog gl 16 e_r07_Right := by
  refine fnOK (E := E_r07_Right) (fn := Tryz.f16) rfl tys_ok rfl (show AllL _ [] from trivial) mixed (by kernel_rfl) (by kernel_rfl) (by kernel_rfl) 0 (by kernel_rfl) false trivial ?_
  intro args H
  by_cases hx : ∃ (a0 : Int), args = [.int .u8 a0] ∧ H = []
  · obtain ⟨a0, rfl, rfl⟩ := hx
    right; intro K
    exact iff_of_eq (X_r07_Right.eq a0 K).symm
  · left; intro K h
    simp only [e_r07_Right] at h
    split at h
    · exact hx ⟨_, rfl, rfl⟩
    · exact h
noncomputable def e_r07_RightMode : Entry := ⟨[none], false, fun args H K => match args, H with
  | [.int .u8 a0], [] => r07_RightMode a0 (fun y0 => K (EV.bool y0) [])
  | _, _ => False⟩
noncomputable def E_r07_RightMode : Env := ⟨look tys, look [], look [], gl, lookL [], false⟩
theorem X_r07_RightMode.eq (a0 : Int) (K : EV → Heap → Prop) : evFn E_r07_RightMode Tryz.f19 false [.int .u8 a0] [] K = r07_RightMode a0 (fun y0 => K (EV.bool y0) []) := by
  rw [r07_RightMode.is]; exact (evFnQ_eq _ _ _ _ _ _).symm.trans (by kernel_rfl)
theorem X_r07_RightMode.ok : SoundE Tryz.prog gl 19 e_r07_RightMode := by
  refine fnOK (E := E_r07_RightMode) (fn := Tryz.f19) rfl tys_ok rfl (show AllL _ [] from trivial) mixed (by kernel_rfl) (by kernel_rfl) (by kernel_rfl) 0 (by kernel_rfl) false trivial ?_
  intro args H
  by_cases hx : ∃ (a0 : Int), args = [.int .u8 a0] ∧ H = []
  · obtain ⟨a0, rfl, rfl⟩ := hx
    right; intro K
    exact iff_of_eq (X_r07_RightMode.eq a0 K).symm
  · left; intro K h
    simp only [e_r07_RightMode] at h
    split at h
    · exact hx ⟨_, rfl, rfl⟩
    · exact h
noncomputable def e_r07_Precision : Entry := ⟨[none], false, fun args H K => match args, H with
  | [.int .u8 a0], [] => r07_Precision a0 (fun y0 => K (EV.int IntKind.i64 y0) [])
  | _, _ => False⟩
noncomputable def E_r07_Precision : Env := ⟨look tys, look [], look [], gl, lookL [], false⟩
theorem X_r07_Precision.eq (a0 : Int) (K : EV → Heap → Prop) : evFn E_r07_Precision Tryz.f70 false [.int .u8 a0] [] K = r07_Precision a0 (fun y0 => K (EV.int IntKind.i64 y0) []) := by
  rw [r07_Precision.is]; exact (evFnQ_eq _ _ _ _ _ _).symm.trans (by kernel_rfl)
theorem X_r07_Precision.ok : SoundE Tryz.prog gl 70 e_r07_Precision := by
  refine fnOK (E := E_r07_Precision) (fn := Tryz.f70) rfl tys_ok rfl (show AllL _ [] from trivial) mixed (by kernel_rfl) (by kernel_rfl) (by kernel_rfl) 0 (by kernel_rfl) false trivial ?_
  intro args H
  by_cases hx : ∃ (a0 : Int), args = [.int .u8 a0] ∧ H = []
  · obtain ⟨a0, rfl, rfl⟩ := hx
    right; intro K
    exact iff_of_eq (X_r07_Precision.eq a0 K).symm
  · left; intro K h
    simp only [e_r07_Precision] at h
    split at h
    · exact hx ⟨_, rfl, rfl⟩
    · exact h
noncomputable def e_r01_Bit : Entry := ⟨[none, none], false, fun args H K => match args, H with
  | [.int .u64 a0, .int .i64 a1], [] => r01_Bit a0 a1 (fun y0 => K (EV.bool y0) [])
  | _, _ => False⟩
noncomputable def E_r01_Bit : Env := ⟨look tys, look [], look [], gl, lookL [], false⟩
theorem X_r01_Bit.eq (a0 : Int) (a1 : Int) (K : EV → Heap → Prop) : evFn E_r01_Bit Tryz.f185 false [.int .u64 a0, .int .i64 a1] [] K = r01_Bit a0 a1 (fun y0 => K (EV.bool y0) []) := by
  rw [r01_Bit.is]; exact (evFnQ_eq _ _ _ _ _ _).symm.trans (by kernel_rfl)
theorem X_r01_Bit.ok : SoundE Tryz.prog gl 185 e_r01_Bit := by
  refine fnOK (E := E_r01_Bit) (fn := Tryz.f185) rfl tys_ok rfl (show AllL _ [] from trivial) mixed (by kernel_rfl) (by kernel_rfl) (by kernel_rfl) 0 (by kernel_rfl) false trivial ?_
  intro args H
  by_cases hx : ∃ (a0 : Int) (a1 : Int), args = [.int .u64 a0, .int .i64 a1] ∧ H = []
  · obtain ⟨a0, a1, rfl, rfl⟩ := hx
    right; intro K
    exact iff_of_eq (X_r01_Bit.eq a0 a1 K).symm
  · left; intro K h
    simp only [e_r01_Bit] at h
    split at h
    · exact hx ⟨_, _, rfl, rfl⟩
    · exact h
noncomputable def e_r01_Len : Entry := ⟨[none], false, fun args H K => match args, H with
  | [.int .u64 a0], [] => r01_Len a0 (fun y0 => K (EV.int IntKind.i64 y0) [])
  | _, _ => False⟩
noncomputable def l_r01_Len : List (Nat × Entry) := [(185, e_r01_Bit)]
noncomputable def E_r01_Len : Env := ⟨look tys, look l_r01_Len, look [(3, r01_Len.l3.entry)], gl, lookL [], false⟩
theorem r01_Len.l3X.stepEq (R : List EV → Heap → Prop) (K : Ex → List EV → Heap → Prop) (x0 : Int) (x1 : Int) (x2 : Int) : loopStep (evCode E_r01_Len (loopAt Tryz.f138 0) { (LV.mk 8 [(0, 8)] 4 0 false) with nx := live (.loop (loopAt Tryz.f138 0)) (LV.mk 8 [(0, 8)] 4 0 false) }) (live (.loop (loopAt Tryz.f138 0)) (LV.mk 8 [(0, 8)] 4 0 false)) (LV.mk 8 [(0, 8)] 4 0 false) 0 15 R [EV.int IntKind.u64 x0, EV.int IntKind.i64 x1, EV.int IntKind.i64 x2] [] K = r01_Len.l3.step (fun x0 x1 x2 => R [EV.int IntKind.u64 x0, EV.int IntKind.i64 x1, EV.int IntKind.i64 x2] []) (fun y0 => K (.exit 0) [EV.int IntKind.i64 y0] []) x0 x1 x2 := (stepQ_eq _ _ _ _ _ _ _ _ _ _ _).symm.trans (by kernel_rfl)
theorem r01_Len.l3X.eq (K : Ex → List EV → Heap → Prop) : ∀ (n : Nat) (x0 : Int) (x1 : Int) (x2 : Int), loopE E_r01_Len (loopAt Tryz.f138 0) (LV.mk 8 [(0, 8)] 4 0 false) 0 15 K n [EV.int IntKind.u64 x0, EV.int IntKind.i64 x1, EV.int IntKind.i64 x2] [] = r01_Len.l3 (fun y0 => K (.exit 0) [EV.int IntKind.i64 y0] []) n x0 x1 x2
  | 0, _, _, _ => rfl
  | n + 1, x0, x1, x2 => by
    have ih : (fun (x0 : Int) (x1 : Int) (x2 : Int) => loopE E_r01_Len (loopAt Tryz.f138 0) (LV.mk 8 [(0, 8)] 4 0 false) 0 15 K n [EV.int IntKind.u64 x0, EV.int IntKind.i64 x1, EV.int IntKind.i64 x2] []) = r01_Len.l3 (fun y0 => K (.exit 0) [EV.int IntKind.i64 y0] []) n := by funext x0 x1 x2; exact r01_Len.l3X.eq K n x0 x1 x2
    show loopStep _ _ _ _ _ (loopE E_r01_Len (loopAt Tryz.f138 0) (LV.mk 8 [(0, 8)] 4 0 false) 0 15 K n) [EV.int IntKind.u64 x0, EV.int IntKind.i64 x1, EV.int IntKind.i64 x2] [] K = r01_Len.l3.step (r01_Len.l3 (fun y0 => K (.exit 0) [EV.int IntKind.i64 y0] []) n) (fun y0 => K (.exit 0) [EV.int IntKind.i64 y0] []) x0 x1 x2
    rw [← ih]
    exact r01_Len.l3X.stepEq _ K x0 x1 x2
theorem r01_Len.l3X.ok : LoopEq E_r01_Len (loopAt Tryz.f138 0) := by
  intro L hL vs H
  have h1 : E_r01_Len.lp (firstRegion (loopAt Tryz.f138 0)) = some r01_Len.l3.entry := by kernel_rfl
  have h2 : L = r01_Len.l3.entry := Option.some.inj (hL.symm.trans h1)
  subst h2
  by_cases hx : ∃ (x0 : Int) (x1 : Int) (x2 : Int), vs = [EV.int IntKind.u64 x0, EV.int IntKind.i64 x1, EV.int IntKind.i64 x2] ∧ H = []
  · obtain ⟨x0, x1, x2, rfl, rfl⟩ := hx
    right; intro K
    exact exists_congr fun n => iff_of_eq (r01_Len.l3X.eq K n x0 x1 x2).symm
  · left; intro K h
    simp only [r01_Len.l3.entry] at h
    split at h
    · exact hx ⟨_, _, _, rfl, rfl⟩
    · exact h
theorem X_r01_Len.eq (a0 : Int) (K : EV → Heap → Prop) : evFn E_r01_Len Tryz.f138 false [.int .u64 a0] [] K = r01_Len a0 (fun y0 => K (EV.int IntKind.i64 y0) []) := by
  rw [r01_Len.is]; exact (evFnQ_eq _ _ _ _ _ _).symm.trans (by kernel_rfl)
theorem X_r01_Len.ok : SoundE Tryz.prog gl 138 e_r01_Len := by
  refine fnOK (E := E_r01_Len) (fn := Tryz.f138) rfl tys_ok rfl (show AllL _ l_r01_Len from ⟨X_r01_Bit.ok, trivial⟩) mixed (by kernel_rfl) (by kernel_rfl) (by kernel_rfl) 1 (by kernel_rfl) false ⟨r01_Len.l3X.ok, trivial⟩ ?_
  intro args H
  by_cases hx : ∃ (a0 : Int), args = [.int .u64 a0] ∧ H = []
  · obtain ⟨a0, rfl, rfl⟩ := hx
    right; intro K
    exact iff_of_eq (X_r01_Len.eq a0 K).symm
  · left; intro K h
    simp only [e_r01_Len] at h
    split at h
    · exact hx ⟨_, rfl, rfl⟩
    · exact h
noncomputable def e_r02_Len : Entry := ⟨[none], false, fun args H K => match args, H with
  | [.arr .u64 6 a0], [] => r02_Len a0 (fun y0 => K (EV.int IntKind.i64 y0) [])
  | _, _ => False⟩
noncomputable def l_r02_Len : List (Nat × Entry) := [(138, e_r01_Len)]
noncomputable def E_r02_Len : Env := ⟨look tys, look l_r02_Len, look [(2, r02_Len.l2.entry)], gl, lookL [], false⟩
theorem r02_Len.l2X.stepEq (R : List EV → Heap → Prop) (K : Ex → List EV → Heap → Prop) (x0 : Int) (x1 : Nat → Int) : loopStep (evCode E_r02_Len (loopAt Tryz.f76 0) { (LV.mk 0 [(0, 0)] 4 0 false) with nx := live (.loop (loopAt Tryz.f76 0)) (LV.mk 0 [(0, 0)] 4 0 false) }) (live (.loop (loopAt Tryz.f76 0)) (LV.mk 0 [(0, 0)] 4 0 false)) (LV.mk 0 [(0, 0)] 4 0 false) 0 19 R [EV.ptr 0 [], EV.int IntKind.i64 x0] [some (EV.arr IntKind.u64 6 x1)] K = r02_Len.l2.step (fun x0 x1 => R [EV.ptr 0 [], EV.int IntKind.i64 x0] [some (EV.arr IntKind.u64 6 x1)]) (fun y0 => K .ret [EV.int IntKind.i64 y0] []) (K (.exit 0) [] []) x0 x1 := (stepQ_eq _ _ _ _ _ _ _ _ _ _ _).symm.trans (by kernel_rfl)
theorem r02_Len.l2X.eq (K : Ex → List EV → Heap → Prop) : ∀ (n : Nat) (x0 : Int) (x1 : Nat → Int), loopE E_r02_Len (loopAt Tryz.f76 0) (LV.mk 0 [(0, 0)] 4 0 false) 0 19 K n [EV.ptr 0 [], EV.int IntKind.i64 x0] [some (EV.arr IntKind.u64 6 x1)] = r02_Len.l2 (fun y0 => K .ret [EV.int IntKind.i64 y0] []) (K (.exit 0) [] []) n x0 x1
  | 0, _, _ => rfl
  | n + 1, x0, x1 => by
    have ih : (fun (x0 : Int) (x1 : Nat → Int) => loopE E_r02_Len (loopAt Tryz.f76 0) (LV.mk 0 [(0, 0)] 4 0 false) 0 19 K n [EV.ptr 0 [], EV.int IntKind.i64 x0] [some (EV.arr IntKind.u64 6 x1)]) = r02_Len.l2 (fun y0 => K .ret [EV.int IntKind.i64 y0] []) (K (.exit 0) [] []) n := by funext x0 x1; exact r02_Len.l2X.eq K n x0 x1
    show loopStep _ _ _ _ _ (loopE E_r02_Len (loopAt Tryz.f76 0) (LV.mk 0 [(0, 0)] 4 0 false) 0 19 K n) [EV.ptr 0 [], EV.int IntKind.i64 x0] [some (EV.arr IntKind.u64 6 x1)] K = r02_Len.l2.step (r02_Len.l2 (fun y0 => K .ret [EV.int IntKind.i64 y0] []) (K (.exit 0) [] []) n) (fun y0 => K .ret [EV.int IntKind.i64 y0] []) (K (.exit 0) [] []) x0 x1
    rw [← ih]
    exact r02_Len.l2X.stepEq _ K x0 x1
theorem r02_Len.l2X.ok : LoopEq E_r02_Len (loopAt Tryz.f76 0) := by
  intro L hL vs H
  have h1 : E_r02_Len.lp (firstRegion (loopAt Tryz.f76 0)) = some r02_Len.l2.entry := by kernel_rfl
  have h2 : L = r02_Len.l2.entry := Option.some.inj (hL.symm.trans h1)
  subst h2
  by_cases hx : ∃ (x0 : Int) (x1 : Nat → Int), vs = [EV.ptr 0 [], EV.int IntKind.i64 x0] ∧ H = [some (EV.arr IntKind.u64 6 x1)]
  · obtain ⟨x0, x1, rfl, rfl⟩ := hx
    right; intro K
    exact exists_congr fun n => iff_of_eq (r02_Len.l2X.eq K n x0 x1).symm
  · left; intro K h
    simp only [r02_Len.l2.entry] at h
    split at h
    · exact hx ⟨_, _, rfl, rfl⟩
    · exact h
theorem X_r02_Len.eq (a0 : Nat → Int) (K : EV → Heap → Prop) : evFn E_r02_Len Tryz.f76 false [.arr .u64 6 a0] [] K = r02_Len a0 (fun y0 => K (EV.int IntKind.i64 y0) []) := by
  rw [r02_Len.is]; exact (evFnQ_eq _ _ _ _ _ _).symm.trans (by kernel_rfl)
theorem X_r02_Len.ok : SoundE Tryz.prog gl 76 e_r02_Len := by
  refine fnOK (E := E_r02_Len) (fn := Tryz.f76) rfl tys_ok rfl (show AllL _ l_r02_Len from ⟨X_r01_Len.ok, trivial⟩) mixed (by kernel_rfl) (by kernel_rfl) (by kernel_rfl) 1 (by kernel_rfl) false ⟨r02_Len.l2X.ok, trivial⟩ ?_
  intro args H
  by_cases hx : ∃ (a0 : Nat → Int), args = [.arr .u64 6 a0] ∧ H = []
  · obtain ⟨a0, rfl, rfl⟩ := hx
    right; intro K
    exact iff_of_eq (X_r02_Len.eq a0 K).symm
  · left; intro K h
    simp only [e_r02_Len] at h
    split at h
    · exact hx ⟨_, rfl, rfl⟩
    · exact h
noncomputable def e_r10_May : Entry := ⟨[none, none], false, fun args H K => match args, H with
  | [.int .u8 a0, .agg [.bool a1_0, .arr .u64 6 a1_1, .int .i64 a1_2, .bool a1_3]], [] => r10_May a0 a1_0 a1_1 a1_2 a1_3 (fun y0 => K (EV.bool y0) [])
  | _, _ => False⟩
noncomputable def l_r10_May : List (Nat × Entry) := [(70, e_r07_Precision), (76, e_r02_Len)]
noncomputable def E_r10_May : Env := ⟨look tys, look l_r10_May, look [], gl, lookL [], false⟩
theorem X_r10_May.eq (a0 : Int) (a1_0 : Bool) (a1_1 : Nat → Int) (a1_2 : Int) (a1_3 : Bool) (K : EV → Heap → Prop) : evFn E_r10_May Tryz.f20 false [.int .u8 a0, .agg [.bool a1_0, .arr .u64 6 a1_1, .int .i64 a1_2, .bool a1_3]] [] K = r10_May a0 a1_0 a1_1 a1_2 a1_3 (fun y0 => K (EV.bool y0) []) := by
  rw [r10_May.is]; exact (evFnQ_eq _ _ _ _ _ _).symm.trans (by kernel_rfl)
theorem X_r10_May.ok : SoundE Tryz.prog gl 20 e_r10_May := by
  refine fnOK (E := E_r10_May) (fn := Tryz.f20) rfl tys_ok rfl (show AllL _ l_r10_May from ⟨X_r07_Precision.ok, X_r02_Len.ok, trivial⟩) mixed (by kernel_rfl) (by kernel_rfl) (by kernel_rfl) 0 (by kernel_rfl) false trivial ?_
  intro args H
  by_cases hx : ∃ (a0 : Int) (a1_0 : Bool) (a1_1 : Nat → Int) (a1_2 : Int) (a1_3 : Bool), args = [.int .u8 a0, .agg [.bool a1_0, .arr .u64 6 a1_1, .int .i64 a1_2, .bool a1_3]] ∧ H = []
  · obtain ⟨a0, a1_0, a1_1, a1_2, a1_3, rfl, rfl⟩ := hx
    right; intro K
    exact iff_of_eq (X_r10_May.eq a0 a1_0 a1_1 a1_2 a1_3 K).symm
  · left; intro K h
    simp only [e_r10_May] at h
    split at h
    · exact hx ⟨_, _, _, _, _, rfl, rfl⟩
    · exact h
noncomputable def e_r07_Width : Entry := ⟨[none], false, fun args H K => match args, H with
  | [.int .u8 a0], [] => r07_Width a0 (fun y0 => K (EV.int IntKind.i64 y0) [])
  | _, _ => False⟩
noncomputable def E_r07_Width : Env := ⟨look tys, look [], look [], gl, lookL [], false⟩
theorem X_r07_Width.eq (a0 : Int) (K : EV → Heap → Prop) : evFn E_r07_Width Tryz.f123 false [.int .u8 a0] [] K = r07_Width a0 (fun y0 => K (EV.int IntKind.i64 y0) []) := by
  rw [r07_Width.is]; exact (evFnQ_eq _ _ _ _ _ _).symm.trans (by kernel_rfl)
theorem X_r07_Width.ok : SoundE Tryz.prog gl 123 e_r07_Width := by
  refine fnOK (E := E_r07_Width) (fn := Tryz.f123) rfl tys_ok rfl (show AllL _ [] from trivial) mixed (by kernel_rfl) (by kernel_rfl) (by kernel_rfl) 0 (by kernel_rfl) false trivial ?_
  intro args H
  by_cases hx : ∃ (a0 : Int), args = [.int .u8 a0] ∧ H = []
  · obtain ⟨a0, rfl, rfl⟩ := hx
    right; intro K
    exact iff_of_eq (X_r07_Width.eq a0 K).symm
  · left; intro K h
    simp only [e_r07_Width] at h
    split at h
    · exact hx ⟨_, rfl, rfl⟩
    · exact h
noncomputable def e_r02_Count : Entry := ⟨[none], false, fun args H K => match args, H with
  | [.int .i64 a0], [] => r02_Count a0 (fun y0 => K (EV.int IntKind.i64 y0) [])
  | _, _ => False⟩
noncomputable def E_r02_Count : Env := ⟨look tys, look [], look [], gl, lookL [], false⟩
theorem X_r02_Count.eq (a0 : Int) (K : EV → Heap → Prop) : evFn E_r02_Count Tryz.f140 false [.int .i64 a0] [] K = r02_Count a0 (fun y0 => K (EV.int IntKind.i64 y0) []) := by
  rw [r02_Count.is]; exact (evFnQ_eq _ _ _ _ _ _).symm.trans (by kernel_rfl)
theorem X_r02_Count.ok : SoundE Tryz.prog gl 140 e_r02_Count := by
  refine fnOK (E := E_r02_Count) (fn := Tryz.f140) rfl tys_ok rfl (show AllL _ [] from trivial) mixed (by kernel_rfl) (by kernel_rfl) (by kernel_rfl) 0 (by kernel_rfl) false trivial ?_
  intro args H
  by_cases hx : ∃ (a0 : Int), args = [.int .i64 a0] ∧ H = []
  · obtain ⟨a0, rfl, rfl⟩ := hx
    right; intro K
    exact iff_of_eq (X_r02_Count.eq a0 K).symm
  · left; intro K h
    simp only [e_r02_Count] at h
    split at h
    · exact hx ⟨_, rfl, rfl⟩
    · exact h
noncomputable def e_r02_Bit : Entry := ⟨[none, none], false, fun args H K => match args, H with
  | [.arr .u64 6 a0, .int .i64 a1], [] => r02_Bit a0 a1 (fun y0 => K (EV.bool y0) [])
  | _, _ => False⟩
noncomputable def l_r02_Bit : List (Nat × Entry) := [(185, e_r01_Bit)]
noncomputable def E_r02_Bit : Env := ⟨look tys, look l_r02_Bit, look [], gl, lookL [], false⟩
theorem X_r02_Bit.eq (a0 : Nat → Int) (a1 : Int) (K : EV → Heap → Prop) : evFn E_r02_Bit Tryz.f178 false [.arr .u64 6 a0, .int .i64 a1] [] K = r02_Bit a0 a1 (fun y0 => K (EV.bool y0) []) := by
  rw [r02_Bit.is]; exact (evFnQ_eq _ _ _ _ _ _).symm.trans (by kernel_rfl)
theorem X_r02_Bit.ok : SoundE Tryz.prog gl 178 e_r02_Bit := by
  refine fnOK (E := E_r02_Bit) (fn := Tryz.f178) rfl tys_ok rfl (show AllL _ l_r02_Bit from ⟨X_r01_Bit.ok, trivial⟩) mixed (by kernel_rfl) (by kernel_rfl) (by kernel_rfl) 0 (by kernel_rfl) false trivial ?_
  intro args H
  by_cases hx : ∃ (a0 : Nat → Int) (a1 : Int), args = [.arr .u64 6 a0, .int .i64 a1] ∧ H = []
  · obtain ⟨a0, a1, rfl, rfl⟩ := hx
    right; intro K
    exact iff_of_eq (X_r02_Bit.eq a0 a1 K).symm
  · left; intro K h
    simp only [e_r02_Bit] at h
    split at h
    · exact hx ⟨_, _, rfl, rfl⟩
    · exact h
noncomputable def e_r02_Left : Entry := ⟨[none, none], false, fun args H K => match args, H with
  | [.arr .u64 6 a0, .int .i64 a1], [] => r02_Left a0 a1 (fun y0 y1 => K (EV.tuple [EV.arr IntKind.u64 6 y0, EV.bool y1]) [])
  | _, _ => False⟩
noncomputable def l_r02_Left : List (Nat × Entry) := [(140, e_r02_Count), (178, e_r02_Bit)]
noncomputable def E_r02_Left : Env := ⟨look tys, look l_r02_Left, look [(5, r02_Left.l5.entry)], gl, lookL [], false⟩
theorem r02_Left.l5X.stepEq (R : List EV → Heap → Prop) (K : Ex → List EV → Heap → Prop) (x0 : Int) (x1 : Bool) (x2 : Int) (x3 : Nat → Int) (x4 : Nat → Int) (x5 : Nat → Int) : loopStep (evCode E_r02_Left (loopAt Tryz.f126 0) { (LV.mk 208 [(0, 208)] 48 0 false) with nx := live (.loop (loopAt Tryz.f126 0)) (LV.mk 208 [(0, 208)] 48 0 false) }) (live (.loop (loopAt Tryz.f126 0)) (LV.mk 208 [(0, 208)] 48 0 false)) (LV.mk 208 [(0, 208)] 48 0 false) 0 42 R [EV.int IntKind.i64 x0, EV.ptr 0 [], EV.ptr 1 [], EV.ptr 2 [], EV.bool x1, EV.int IntKind.i64 x2] [some (EV.arr IntKind.u64 6 x3), some (EV.arr IntKind.u64 6 x4), some (EV.arr IntKind.u64 6 x5)] K = r02_Left.l5.step (fun x0 x1 x2 x3 x4 x5 => R [EV.int IntKind.i64 x0, EV.ptr 0 [], EV.ptr 1 [], EV.ptr 2 [], EV.bool x1, EV.int IntKind.i64 x2] [some (EV.arr IntKind.u64 6 x3), some (EV.arr IntKind.u64 6 x4), some (EV.arr IntKind.u64 6 x5)]) (fun y0 y1 y2 => K (.exit 0) [EV.ptr 0 [], EV.ptr 1 [], EV.bool y0] [some (EV.arr IntKind.u64 6 y1), some (EV.arr IntKind.u64 6 y2)]) x0 x1 x2 x3 x4 x5 := (stepQ_eq _ _ _ _ _ _ _ _ _ _ _).symm.trans (by kernel_rfl)
theorem r02_Left.l5X.eq (K : Ex → List EV → Heap → Prop) : ∀ (n : Nat) (x0 : Int) (x1 : Bool) (x2 : Int) (x3 : Nat → Int) (x4 : Nat → Int) (x5 : Nat → Int), loopE E_r02_Left (loopAt Tryz.f126 0) (LV.mk 208 [(0, 208)] 48 0 false) 0 42 K n [EV.int IntKind.i64 x0, EV.ptr 0 [], EV.ptr 1 [], EV.ptr 2 [], EV.bool x1, EV.int IntKind.i64 x2] [some (EV.arr IntKind.u64 6 x3), some (EV.arr IntKind.u64 6 x4), some (EV.arr IntKind.u64 6 x5)] = r02_Left.l5 (fun y0 y1 y2 => K (.exit 0) [EV.ptr 0 [], EV.ptr 1 [], EV.bool y0] [some (EV.arr IntKind.u64 6 y1), some (EV.arr IntKind.u64 6 y2)]) n x0 x1 x2 x3 x4 x5
  | 0, _, _, _, _, _, _ => rfl
  | n + 1, x0, x1, x2, x3, x4, x5 => by
    have ih : (fun (x0 : Int) (x1 : Bool) (x2 : Int) (x3 : Nat → Int) (x4 : Nat → Int) (x5 : Nat → Int) => loopE E_r02_Left (loopAt Tryz.f126 0) (LV.mk 208 [(0, 208)] 48 0 false) 0 42 K n [EV.int IntKind.i64 x0, EV.ptr 0 [], EV.ptr 1 [], EV.ptr 2 [], EV.bool x1, EV.int IntKind.i64 x2] [some (EV.arr IntKind.u64 6 x3), some (EV.arr IntKind.u64 6 x4), some (EV.arr IntKind.u64 6 x5)]) = r02_Left.l5 (fun y0 y1 y2 => K (.exit 0) [EV.ptr 0 [], EV.ptr 1 [], EV.bool y0] [some (EV.arr IntKind.u64 6 y1), some (EV.arr IntKind.u64 6 y2)]) n := by funext x0 x1 x2 x3 x4 x5; exact r02_Left.l5X.eq K n x0 x1 x2 x3 x4 x5
    show loopStep _ _ _ _ _ (loopE E_r02_Left (loopAt Tryz.f126 0) (LV.mk 208 [(0, 208)] 48 0 false) 0 42 K n) [EV.int IntKind.i64 x0, EV.ptr 0 [], EV.ptr 1 [], EV.ptr 2 [], EV.bool x1, EV.int IntKind.i64 x2] [some (EV.arr IntKind.u64 6 x3), some (EV.arr IntKind.u64 6 x4), some (EV.arr IntKind.u64 6 x5)] K = r02_Left.l5.step (r02_Left.l5 (fun y0 y1 y2 => K (.exit 0) [EV.ptr 0 [], EV.ptr 1 [], EV.bool y0] [some (EV.arr IntKind.u64 6 y1), some (EV.arr IntKind.u64 6 y2)]) n) (fun y0 y1 y2 => K (.exit 0) [EV.ptr 0 [], EV.ptr 1 [], EV.bool y0] [some (EV.arr IntKind.u64 6 y1), some (EV.arr IntKind.u64 6 y2)]) x0 x1 x2 x3 x4 x5
    rw [← ih]
    exact r02_Left.l5X.stepEq _ K x0 x1 x2 x3 x4 x5
theorem r02_Left.l5X.ok : LoopEq E_r02_Left (loopAt Tryz.f126 0) := by
  intro L hL vs H
  have h1 : E_r02_Left.lp (firstRegion (loopAt Tryz.f126 0)) = some r02_Left.l5.entry := by kernel_rfl
  have h2 : L = r02_Left.l5.entry := Option.some.inj (hL.symm.trans h1)
  subst h2
  by_cases hx : ∃ (x0 : Int) (x1 : Bool) (x2 : Int) (x3 : Nat → Int) (x4 : Nat → Int) (x5 : Nat → Int), vs = [EV.int IntKind.i64 x0, EV.ptr 0 [], EV.ptr 1 [], EV.ptr 2 [], EV.bool x1, EV.int IntKind.i64 x2] ∧ H = [some (EV.arr IntKind.u64 6 x3), some (EV.arr IntKind.u64 6 x4), some (EV.arr IntKind.u64 6 x5)]
  · obtain ⟨x0, x1, x2, x3, x4, x5, rfl, rfl⟩ := hx
    right; intro K
    exact exists_congr fun n => iff_of_eq (r02_Left.l5X.eq K n x0 x1 x2 x3 x4 x5).symm
  · left; intro K h
    simp only [r02_Left.l5.entry] at h
    split at h
    · exact hx ⟨_, _, _, _, _, _, rfl, rfl⟩
    · exact h
theorem X_r02_Left.eq (a0 : Nat → Int) (a1 : Int) (K : EV → Heap → Prop) : evFn E_r02_Left Tryz.f126 false [.arr .u64 6 a0, .int .i64 a1] [] K = r02_Left a0 a1 (fun y0 y1 => K (EV.tuple [EV.arr IntKind.u64 6 y0, EV.bool y1]) []) := by
  rw [r02_Left.is]; exact (evFnQ_eq _ _ _ _ _ _).symm.trans (by kernel_rfl)
theorem X_r02_Left.ok : SoundE Tryz.prog gl 126 e_r02_Left := by
  refine fnOK (E := E_r02_Left) (fn := Tryz.f126) rfl tys_ok rfl (show AllL _ l_r02_Left from ⟨X_r02_Count.ok, X_r02_Bit.ok, trivial⟩) mixed (by kernel_rfl) (by kernel_rfl) (by kernel_rfl) 1 (by kernel_rfl) false ⟨r02_Left.l5X.ok, trivial⟩ ?_
  intro args H
  by_cases hx : ∃ (a0 : Nat → Int) (a1 : Int), args = [.arr .u64 6 a0, .int .i64 a1] ∧ H = []
  · obtain ⟨a0, a1, rfl, rfl⟩ := hx
    right; intro K
    exact iff_of_eq (X_r02_Left.eq a0 a1 K).symm
  · left; intro K h
    simp only [e_r02_Left] at h
    split at h
    · exact hx ⟨_, _, rfl, rfl⟩
    · exact h
noncomputable def e_r02_Of : Entry := ⟨[none], false, fun args H K => match args, H with
  | [.int .u64 a0], [] => r02_Of a0 (fun y0 => K (EV.arr IntKind.u64 6 y0) [])
  | _, _ => False⟩
noncomputable def E_r02_Of : Env := ⟨look tys, look [], look [], gl, lookL [], false⟩
theorem X_r02_Of.eq (a0 : Int) (K : EV → Heap → Prop) : evFn E_r02_Of Tryz.f127 false [.int .u64 a0] [] K = r02_Of a0 (fun y0 => K (EV.arr IntKind.u64 6 y0) []) := by
  rw [r02_Of.is]; exact (evFnQ_eq _ _ _ _ _ _).symm.trans (by kernel_rfl)
theorem X_r02_Of.ok : SoundE Tryz.prog gl 127 e_r02_Of := by
  refine fnOK (E := E_r02_Of) (fn := Tryz.f127) rfl tys_ok rfl (show AllL _ [] from trivial) mixed (by kernel_rfl) (by kernel_rfl) (by kernel_rfl) 0 (by kernel_rfl) false trivial ?_
  intro args H
  by_cases hx : ∃ (a0 : Int), args = [.int .u64 a0] ∧ H = []
  · obtain ⟨a0, rfl, rfl⟩ := hx
    right; intro K
    exact iff_of_eq (X_r02_Of.eq a0 K).symm
  · left; intro K h
    simp only [e_r02_Of] at h
    split at h
    · exact hx ⟨_, rfl, rfl⟩
    · exact h
noncomputable def e_r01_Add : Entry := ⟨[none, none, none], false, fun args H K => match args, H with
  | [.int .u64 a0, .int .u64 a1, .bool a2], [] => r01_Add a0 a1 a2 (fun y0 y1 => K (EV.tuple [EV.int IntKind.u64 y0, EV.bool y1]) [])
  | _, _ => False⟩
noncomputable def l_r01_Add : List (Nat × Entry) := [(185, e_r01_Bit)]
noncomputable def E_r01_Add : Env := ⟨look tys, look l_r01_Add, look [(3, r01_Add.l3.entry)], gl, lookL [], false⟩
theorem r01_Add.l3X.stepEq (R : List EV → Heap → Prop) (K : Ex → List EV → Heap → Prop) (x0 : Int) (x1 : Int) (x2 : Bool) (x3 : Int) (x4 : Int) : loopStep (evCode E_r01_Add (loopAt Tryz.f180 0) { (LV.mk 260 [(0, 260)] 192 0 false) with nx := live (.loop (loopAt Tryz.f180 0)) (LV.mk 260 [(0, 260)] 192 0 false) }) (live (.loop (loopAt Tryz.f180 0)) (LV.mk 260 [(0, 260)] 192 0 false)) (LV.mk 260 [(0, 260)] 192 0 false) 0 50 R [EV.int IntKind.u64 x0, EV.int IntKind.u64 x1, EV.bool x2, EV.int IntKind.u64 x3, EV.int IntKind.i64 x4] [] K = r01_Add.l3.step (fun x0 x1 x2 x3 x4 => R [EV.int IntKind.u64 x0, EV.int IntKind.u64 x1, EV.bool x2, EV.int IntKind.u64 x3, EV.int IntKind.i64 x4] []) (fun y0 y1 => K (.exit 0) [EV.bool y0, EV.int IntKind.u64 y1] []) x0 x1 x2 x3 x4 := (stepQ_eq _ _ _ _ _ _ _ _ _ _ _).symm.trans (by kernel_rfl)
theorem r01_Add.l3X.eq (K : Ex → List EV → Heap → Prop) : ∀ (n : Nat) (x0 : Int) (x1 : Int) (x2 : Bool) (x3 : Int) (x4 : Int), loopE E_r01_Add (loopAt Tryz.f180 0) (LV.mk 260 [(0, 260)] 192 0 false) 0 50 K n [EV.int IntKind.u64 x0, EV.int IntKind.u64 x1, EV.bool x2, EV.int IntKind.u64 x3, EV.int IntKind.i64 x4] [] = r01_Add.l3 (fun y0 y1 => K (.exit 0) [EV.bool y0, EV.int IntKind.u64 y1] []) n x0 x1 x2 x3 x4
  | 0, _, _, _, _, _ => rfl
  | n + 1, x0, x1, x2, x3, x4 => by
    have ih : (fun (x0 : Int) (x1 : Int) (x2 : Bool) (x3 : Int) (x4 : Int) => loopE E_r01_Add (loopAt Tryz.f180 0) (LV.mk 260 [(0, 260)] 192 0 false) 0 50 K n [EV.int IntKind.u64 x0, EV.int IntKind.u64 x1, EV.bool x2, EV.int IntKind.u64 x3, EV.int IntKind.i64 x4] []) = r01_Add.l3 (fun y0 y1 => K (.exit 0) [EV.bool y0, EV.int IntKind.u64 y1] []) n := by funext x0 x1 x2 x3 x4; exact r01_Add.l3X.eq K n x0 x1 x2 x3 x4
    show loopStep _ _ _ _ _ (loopE E_r01_Add (loopAt Tryz.f180 0) (LV.mk 260 [(0, 260)] 192 0 false) 0 50 K n) [EV.int IntKind.u64 x0, EV.int IntKind.u64 x1, EV.bool x2, EV.int IntKind.u64 x3, EV.int IntKind.i64 x4] [] K = r01_Add.l3.step (r01_Add.l3 (fun y0 y1 => K (.exit 0) [EV.bool y0, EV.int IntKind.u64 y1] []) n) (fun y0 y1 => K (.exit 0) [EV.bool y0, EV.int IntKind.u64 y1] []) x0 x1 x2 x3 x4
    rw [← ih]
    exact r01_Add.l3X.stepEq _ K x0 x1 x2 x3 x4
theorem r01_Add.l3X.ok : LoopEq E_r01_Add (loopAt Tryz.f180 0) := by
  intro L hL vs H
  have h1 : E_r01_Add.lp (firstRegion (loopAt Tryz.f180 0)) = some r01_Add.l3.entry := by kernel_rfl
  have h2 : L = r01_Add.l3.entry := Option.some.inj (hL.symm.trans h1)
  subst h2
  by_cases hx : ∃ (x0 : Int) (x1 : Int) (x2 : Bool) (x3 : Int) (x4 : Int), vs = [EV.int IntKind.u64 x0, EV.int IntKind.u64 x1, EV.bool x2, EV.int IntKind.u64 x3, EV.int IntKind.i64 x4] ∧ H = []
  · obtain ⟨x0, x1, x2, x3, x4, rfl, rfl⟩ := hx
    right; intro K
    exact exists_congr fun n => iff_of_eq (r01_Add.l3X.eq K n x0 x1 x2 x3 x4).symm
  · left; intro K h
    simp only [r01_Add.l3.entry] at h
    split at h
    · exact hx ⟨_, _, _, _, _, rfl, rfl⟩
    · exact h
theorem X_r01_Add.eq (a0 : Int) (a1 : Int) (a2 : Bool) (K : EV → Heap → Prop) : evFn E_r01_Add Tryz.f180 false [.int .u64 a0, .int .u64 a1, .bool a2] [] K = r01_Add a0 a1 a2 (fun y0 y1 => K (EV.tuple [EV.int IntKind.u64 y0, EV.bool y1]) []) := by
  rw [r01_Add.is]; exact (evFnQ_eq _ _ _ _ _ _).symm.trans (by kernel_rfl)
theorem X_r01_Add.ok : SoundE Tryz.prog gl 180 e_r01_Add := by
  refine fnOK (E := E_r01_Add) (fn := Tryz.f180) rfl tys_ok rfl (show AllL _ l_r01_Add from ⟨X_r01_Bit.ok, trivial⟩) mixed (by kernel_rfl) (by kernel_rfl) (by kernel_rfl) 1 (by kernel_rfl) false ⟨r01_Add.l3X.ok, trivial⟩ ?_
  intro args H
  by_cases hx : ∃ (a0 : Int) (a1 : Int) (a2 : Bool), args = [.int .u64 a0, .int .u64 a1, .bool a2] ∧ H = []
  · obtain ⟨a0, a1, a2, rfl, rfl⟩ := hx
    right; intro K
    exact iff_of_eq (X_r01_Add.eq a0 a1 a2 K).symm
  · left; intro K h
    simp only [e_r01_Add] at h
    split at h
    · exact hx ⟨_, _, _, rfl, rfl⟩
    · exact h
noncomputable def e_r02_Add : Entry := ⟨[none, none], false, fun args H K => match args, H with
  | [.arr .u64 6 a0, .arr .u64 6 a1], [] => r02_Add a0 a1 (fun y0 y1 => K (EV.tuple [EV.arr IntKind.u64 6 y0, EV.bool y1]) [])
  | _, _ => False⟩
noncomputable def l_r02_Add : List (Nat × Entry) := [(180, e_r01_Add)]
noncomputable def E_r02_Add : Env := ⟨look tys, look l_r02_Add, look [(4, r02_Add.l4.entry)], gl, lookL [], false⟩
theorem r02_Add.l4X.stepEq (R : List EV → Heap → Prop) (K : Ex → List EV → Heap → Prop) (x0 : Bool) (x1 : Int) (x2 : Nat → Int) (x3 : Nat → Int) (x4 : Nat → Int) (x5 : Nat → Int) : loopStep (evCode E_r02_Add (loopAt Tryz.f128 0) { (LV.mk 208 [(0, 208)] 48 0 false) with nx := live (.loop (loopAt Tryz.f128 0)) (LV.mk 208 [(0, 208)] 48 0 false) }) (live (.loop (loopAt Tryz.f128 0)) (LV.mk 208 [(0, 208)] 48 0 false)) (LV.mk 208 [(0, 208)] 48 0 false) 0 32 R [EV.ptr 0 [], EV.ptr 1 [], EV.ptr 2 [], EV.ptr 3 [], EV.bool x0, EV.int IntKind.i64 x1] [some (EV.arr IntKind.u64 6 x2), some (EV.arr IntKind.u64 6 x3), some (EV.arr IntKind.u64 6 x4), some (EV.arr IntKind.u64 6 x5)] K = r02_Add.l4.step (fun x0 x1 x2 x3 x4 x5 => R [EV.ptr 0 [], EV.ptr 1 [], EV.ptr 2 [], EV.ptr 3 [], EV.bool x0, EV.int IntKind.i64 x1] [some (EV.arr IntKind.u64 6 x2), some (EV.arr IntKind.u64 6 x3), some (EV.arr IntKind.u64 6 x4), some (EV.arr IntKind.u64 6 x5)]) (fun y0 y1 y2 => K (.exit 0) [EV.ptr 0 [], EV.ptr 1 [], EV.bool y0] [some (EV.arr IntKind.u64 6 y1), some (EV.arr IntKind.u64 6 y2)]) x0 x1 x2 x3 x4 x5 := (stepQ_eq _ _ _ _ _ _ _ _ _ _ _).symm.trans (by kernel_rfl)
theorem r02_Add.l4X.eq (K : Ex → List EV → Heap → Prop) : ∀ (n : Nat) (x0 : Bool) (x1 : Int) (x2 : Nat → Int) (x3 : Nat → Int) (x4 : Nat → Int) (x5 : Nat → Int), loopE E_r02_Add (loopAt Tryz.f128 0) (LV.mk 208 [(0, 208)] 48 0 false) 0 32 K n [EV.ptr 0 [], EV.ptr 1 [], EV.ptr 2 [], EV.ptr 3 [], EV.bool x0, EV.int IntKind.i64 x1] [some (EV.arr IntKind.u64 6 x2), some (EV.arr IntKind.u64 6 x3), some (EV.arr IntKind.u64 6 x4), some (EV.arr IntKind.u64 6 x5)] = r02_Add.l4 (fun y0 y1 y2 => K (.exit 0) [EV.ptr 0 [], EV.ptr 1 [], EV.bool y0] [some (EV.arr IntKind.u64 6 y1), some (EV.arr IntKind.u64 6 y2)]) n x0 x1 x2 x3 x4 x5
  | 0, _, _, _, _, _, _ => rfl
  | n + 1, x0, x1, x2, x3, x4, x5 => by
    have ih : (fun (x0 : Bool) (x1 : Int) (x2 : Nat → Int) (x3 : Nat → Int) (x4 : Nat → Int) (x5 : Nat → Int) => loopE E_r02_Add (loopAt Tryz.f128 0) (LV.mk 208 [(0, 208)] 48 0 false) 0 32 K n [EV.ptr 0 [], EV.ptr 1 [], EV.ptr 2 [], EV.ptr 3 [], EV.bool x0, EV.int IntKind.i64 x1] [some (EV.arr IntKind.u64 6 x2), some (EV.arr IntKind.u64 6 x3), some (EV.arr IntKind.u64 6 x4), some (EV.arr IntKind.u64 6 x5)]) = r02_Add.l4 (fun y0 y1 y2 => K (.exit 0) [EV.ptr 0 [], EV.ptr 1 [], EV.bool y0] [some (EV.arr IntKind.u64 6 y1), some (EV.arr IntKind.u64 6 y2)]) n := by funext x0 x1 x2 x3 x4 x5; exact r02_Add.l4X.eq K n x0 x1 x2 x3 x4 x5
    show loopStep _ _ _ _ _ (loopE E_r02_Add (loopAt Tryz.f128 0) (LV.mk 208 [(0, 208)] 48 0 false) 0 32 K n) [EV.ptr 0 [], EV.ptr 1 [], EV.ptr 2 [], EV.ptr 3 [], EV.bool x0, EV.int IntKind.i64 x1] [some (EV.arr IntKind.u64 6 x2), some (EV.arr IntKind.u64 6 x3), some (EV.arr IntKind.u64 6 x4), some (EV.arr IntKind.u64 6 x5)] K = r02_Add.l4.step (r02_Add.l4 (fun y0 y1 y2 => K (.exit 0) [EV.ptr 0 [], EV.ptr 1 [], EV.bool y0] [some (EV.arr IntKind.u64 6 y1), some (EV.arr IntKind.u64 6 y2)]) n) (fun y0 y1 y2 => K (.exit 0) [EV.ptr 0 [], EV.ptr 1 [], EV.bool y0] [some (EV.arr IntKind.u64 6 y1), some (EV.arr IntKind.u64 6 y2)]) x0 x1 x2 x3 x4 x5
    rw [← ih]
    exact r02_Add.l4X.stepEq _ K x0 x1 x2 x3 x4 x5
theorem r02_Add.l4X.ok : LoopEq E_r02_Add (loopAt Tryz.f128 0) := by
  intro L hL vs H
  have h1 : E_r02_Add.lp (firstRegion (loopAt Tryz.f128 0)) = some r02_Add.l4.entry := by kernel_rfl
  have h2 : L = r02_Add.l4.entry := Option.some.inj (hL.symm.trans h1)
  subst h2
  by_cases hx : ∃ (x0 : Bool) (x1 : Int) (x2 : Nat → Int) (x3 : Nat → Int) (x4 : Nat → Int) (x5 : Nat → Int), vs = [EV.ptr 0 [], EV.ptr 1 [], EV.ptr 2 [], EV.ptr 3 [], EV.bool x0, EV.int IntKind.i64 x1] ∧ H = [some (EV.arr IntKind.u64 6 x2), some (EV.arr IntKind.u64 6 x3), some (EV.arr IntKind.u64 6 x4), some (EV.arr IntKind.u64 6 x5)]
  · obtain ⟨x0, x1, x2, x3, x4, x5, rfl, rfl⟩ := hx
    right; intro K
    exact exists_congr fun n => iff_of_eq (r02_Add.l4X.eq K n x0 x1 x2 x3 x4 x5).symm
  · left; intro K h
    simp only [r02_Add.l4.entry] at h
    split at h
    · exact hx ⟨_, _, _, _, _, _, rfl, rfl⟩
    · exact h
theorem X_r02_Add.eq (a0 : Nat → Int) (a1 : Nat → Int) (K : EV → Heap → Prop) : evFn E_r02_Add Tryz.f128 false [.arr .u64 6 a0, .arr .u64 6 a1] [] K = r02_Add a0 a1 (fun y0 y1 => K (EV.tuple [EV.arr IntKind.u64 6 y0, EV.bool y1]) []) := by
  rw [r02_Add.is]; exact (evFnQ_eq _ _ _ _ _ _).symm.trans (by kernel_rfl)
theorem X_r02_Add.ok : SoundE Tryz.prog gl 128 e_r02_Add := by
  refine fnOK (E := E_r02_Add) (fn := Tryz.f128) rfl tys_ok rfl (show AllL _ l_r02_Add from ⟨X_r01_Add.ok, trivial⟩) mixed (by kernel_rfl) (by kernel_rfl) (by kernel_rfl) 1 (by kernel_rfl) false ⟨r02_Add.l4X.ok, trivial⟩ ?_
  intro args H
  by_cases hx : ∃ (a0 : Nat → Int) (a1 : Nat → Int), args = [.arr .u64 6 a0, .arr .u64 6 a1] ∧ H = []
  · obtain ⟨a0, a1, rfl, rfl⟩ := hx
    right; intro K
    exact iff_of_eq (X_r02_Add.eq a0 a1 K).symm
  · left; intro K h
    simp only [e_r02_Add] at h
    split at h
    · exact hx ⟨_, _, rfl, rfl⟩
    · exact h
noncomputable def e_r02_ToBits : Entry := ⟨[none], false, fun args H K => match args, H with
  | [.arr .u64 6 a0], [] => r02_ToBits a0 (fun y0 y1 y2 => K (EV.tuple [EV.agg [EV.int IntKind.u64 y0, EV.int IntKind.u64 y1], EV.bool y2]) [])
  | _, _ => False⟩
noncomputable def E_r02_ToBits : Env := ⟨look tys, look [], look [], gl, lookL [], false⟩
theorem X_r02_ToBits.eq (a0 : Nat → Int) (K : EV → Heap → Prop) : evFn E_r02_ToBits Tryz.f139 false [.arr .u64 6 a0] [] K = r02_ToBits a0 (fun y0 y1 y2 => K (EV.tuple [EV.agg [EV.int IntKind.u64 y0, EV.int IntKind.u64 y1], EV.bool y2]) []) := by
  rw [r02_ToBits.is]; exact (evFnQ_eq _ _ _ _ _ _).symm.trans (by kernel_rfl)
theorem X_r02_ToBits.ok : SoundE Tryz.prog gl 139 e_r02_ToBits := by
  refine fnOK (E := E_r02_ToBits) (fn := Tryz.f139) rfl tys_ok rfl (show AllL _ [] from trivial) mixed (by kernel_rfl) (by kernel_rfl) (by kernel_rfl) 0 (by kernel_rfl) false trivial ?_
  intro args H
  by_cases hx : ∃ (a0 : Nat → Int), args = [.arr .u64 6 a0] ∧ H = []
  · obtain ⟨a0, rfl, rfl⟩ := hx
    right; intro K
    exact iff_of_eq (X_r02_ToBits.eq a0 K).symm
  · left; intro K h
    simp only [e_r02_ToBits] at h
    split at h
    · exact hx ⟨_, rfl, rfl⟩
    · exact h
noncomputable def e_r07_Build : Entry := ⟨[none, none, none, none], false, fun args H K => match args, H with
  | [.int .u8 a0, .bool a1, .int .i64 a2, .arr .u64 6 a3], [] => r07_Build a0 a1 a2 a3 (fun y0 y1 => K (EV.agg [EV.int IntKind.u64 y0, EV.int IntKind.u64 y1]) [])
  | _, _ => False⟩
noncomputable def l_r07_Build : List (Nat × Entry) := [(16, e_r07_Right), (70, e_r07_Precision), (123, e_r07_Width), (126, e_r02_Left), (127, e_r02_Of), (128, e_r02_Add), (139, e_r02_ToBits)]
noncomputable def E_r07_Build : Env := ⟨look tys, look l_r07_Build, look [], gl, lookL [], false⟩
theorem X_r07_Build.eq (a0 : Int) (a1 : Bool) (a2 : Int) (a3 : Nat → Int) (K : EV → Heap → Prop) : evFn E_r07_Build Tryz.f77 false [.int .u8 a0, .bool a1, .int .i64 a2, .arr .u64 6 a3] [] K = r07_Build a0 a1 a2 a3 (fun y0 y1 => K (EV.agg [EV.int IntKind.u64 y0, EV.int IntKind.u64 y1]) []) := by
  rw [r07_Build.is]; exact (evFnQ_eq _ _ _ _ _ _).symm.trans (by kernel_rfl)
theorem X_r07_Build.ok : SoundE Tryz.prog gl 77 e_r07_Build := by
  refine fnOK (E := E_r07_Build) (fn := Tryz.f77) rfl tys_ok rfl (show AllL _ l_r07_Build from ⟨X_r07_Right.ok, X_r07_Precision.ok, X_r07_Width.ok, X_r02_Left.ok, X_r02_Of.ok, X_r02_Add.ok, X_r02_ToBits.ok, trivial⟩) mixed (by kernel_rfl) (by kernel_rfl) (by kernel_rfl) 0 (by kernel_rfl) false trivial ?_
  intro args H
  by_cases hx : ∃ (a0 : Int) (a1 : Bool) (a2 : Int) (a3 : Nat → Int), args = [.int .u8 a0, .bool a1, .int .i64 a2, .arr .u64 6 a3] ∧ H = []
  · obtain ⟨a0, a1, a2, a3, rfl, rfl⟩ := hx
    right; intro K
    exact iff_of_eq (X_r07_Build.eq a0 a1 a2 a3 K).symm
  · left; intro K h
    simp only [e_r07_Build] at h
    split at h
    · exact hx ⟨_, _, _, _, rfl, rfl⟩
    · exact h
noncomputable def e_r07_Zero : Entry := ⟨[none, none], false, fun args H K => match args, H with
  | [.int .u8 a0, .bool a1], [] => r07_Zero a0 a1 (fun y0 y1 => K (EV.agg [EV.int IntKind.u64 y0, EV.int IntKind.u64 y1]) [])
  | _, _ => False⟩
noncomputable def l_r07_Zero : List (Nat × Entry) := [(77, e_r07_Build)]
noncomputable def E_r07_Zero : Env := ⟨look tys, look l_r07_Zero, look [], gl, lookL [], false⟩
theorem X_r07_Zero.eq (a0 : Int) (a1 : Bool) (K : EV → Heap → Prop) : evFn E_r07_Zero Tryz.f48 false [.int .u8 a0, .bool a1] [] K = r07_Zero a0 a1 (fun y0 y1 => K (EV.agg [EV.int IntKind.u64 y0, EV.int IntKind.u64 y1]) []) := by
  rw [r07_Zero.is]; exact (evFnQ_eq _ _ _ _ _ _).symm.trans (by kernel_rfl)
theorem X_r07_Zero.ok : SoundE Tryz.prog gl 48 e_r07_Zero := by
  refine fnOK (E := E_r07_Zero) (fn := Tryz.f48) rfl tys_ok rfl (show AllL _ l_r07_Zero from ⟨X_r07_Build.ok, trivial⟩) mixed (by kernel_rfl) (by kernel_rfl) (by kernel_rfl) 0 (by kernel_rfl) false trivial ?_
  intro args H
  by_cases hx : ∃ (a0 : Int) (a1 : Bool), args = [.int .u8 a0, .bool a1] ∧ H = []
  · obtain ⟨a0, a1, rfl, rfl⟩ := hx
    right; intro K
    exact iff_of_eq (X_r07_Zero.eq a0 a1 K).symm
  · left; intro K h
    simp only [e_r07_Zero] at h
    split at h
    · exact hx ⟨_, _, rfl, rfl⟩
    · exact h
noncomputable def e_r05_May : Entry := ⟨[none], false, fun args H K => match args, H with
  | [.str a0], [] => r05_May a0 (fun y0 => K (EV.bool y0) [])
  | _, _ => False⟩
noncomputable def E_r05_May : Env := ⟨look tys, look [], look [], gl, lookL [], false⟩
theorem X_r05_May.eq (a0 : List UInt8) (K : EV → Heap → Prop) : evFn E_r05_May Tryz.f66 false [.str a0] [] K = r05_May a0 (fun y0 => K (EV.bool y0) []) := by
  rw [r05_May.is]; exact (evFnQ_eq _ _ _ _ _ _).symm.trans (by kernel_rfl)
theorem X_r05_May.ok : SoundE Tryz.prog gl 66 e_r05_May := by
  refine fnOK (E := E_r05_May) (fn := Tryz.f66) rfl tys_ok rfl (show AllL _ [] from trivial) mixed (by kernel_rfl) (by kernel_rfl) (by kernel_rfl) 0 (by kernel_rfl) false trivial ?_
  intro args H
  by_cases hx : ∃ (a0 : List UInt8), args = [.str a0] ∧ H = []
  · obtain ⟨a0, rfl, rfl⟩ := hx
    right; intro K
    exact iff_of_eq (X_r05_May.eq a0 K).symm
  · left; intro K h
    simp only [e_r05_May] at h
    split at h
    · exact hx ⟨_, rfl, rfl⟩
    · exact h
noncomputable def e_r05_Len : Entry := ⟨[none], false, fun args H K => match args, H with
  | [.str a0], [] => r05_Len a0 (fun y0 => K (EV.int IntKind.i64 y0) [])
  | _, _ => False⟩
noncomputable def l_r05_Len : List (Nat × Entry) := [(66, e_r05_May), (138, e_r01_Len)]
noncomputable def E_r05_Len : Env := ⟨look tys, look l_r05_Len, look [], gl, lookL [], false⟩
theorem X_r05_Len.eq (a0 : List UInt8) (K : EV → Heap → Prop) : evFn E_r05_Len Tryz.f80 false [.str a0] [] K = r05_Len a0 (fun y0 => K (EV.int IntKind.i64 y0) []) := by
  rw [r05_Len.is]; exact (evFnQ_eq _ _ _ _ _ _).symm.trans (by kernel_rfl)
theorem X_r05_Len.ok : SoundE Tryz.prog gl 80 e_r05_Len := by
  refine fnOK (E := E_r05_Len) (fn := Tryz.f80) rfl tys_ok rfl (show AllL _ l_r05_Len from ⟨X_r05_May.ok, X_r01_Len.ok, trivial⟩) mixed (by kernel_rfl) (by kernel_rfl) (by kernel_rfl) 0 (by kernel_rfl) false trivial ?_
  intro args H
  by_cases hx : ∃ (a0 : List UInt8), args = [.str a0] ∧ H = []
  · obtain ⟨a0, rfl, rfl⟩ := hx
    right; intro K
    exact iff_of_eq (X_r05_Len.eq a0 K).symm
  · left; intro K h
    simp only [e_r05_Len] at h
    split at h
    · exact hx ⟨_, rfl, rfl⟩
    · exact h
noncomputable def e_r05_at : Entry := ⟨[none, none], false, fun args H K => match args, H with
  | [.str a0, .int .i64 a1], [] => r05_at a0 a1 (fun y0 => K (EV.int IntKind.i64 y0) [])
  | _, _ => False⟩
noncomputable def E_r05_at : Env := ⟨look tys, look [], look [], gl, lookL [], false⟩
theorem X_r05_at.eq (a0 : List UInt8) (a1 : Int) (K : EV → Heap → Prop) : evFn E_r05_at Tryz.f81 false [.str a0, .int .i64 a1] [] K = r05_at a0 a1 (fun y0 => K (EV.int IntKind.i64 y0) []) := by
  rw [r05_at.is]; exact (evFnQ_eq _ _ _ _ _ _).symm.trans (by kernel_rfl)
theorem X_r05_at.ok : SoundE Tryz.prog gl 81 e_r05_at := by
  refine fnOK (E := E_r05_at) (fn := Tryz.f81) rfl tys_ok rfl (show AllL _ [] from trivial) mixed (by kernel_rfl) (by kernel_rfl) (by kernel_rfl) 0 (by kernel_rfl) false trivial ?_
  intro args H
  by_cases hx : ∃ (a0 : List UInt8) (a1 : Int), args = [.str a0, .int .i64 a1] ∧ H = []
  · obtain ⟨a0, a1, rfl, rfl⟩ := hx
    right; intro K
    exact iff_of_eq (X_r05_at.eq a0 a1 K).symm
  · left; intro K h
    simp only [e_r05_at] at h
    split at h
    · exact hx ⟨_, _, rfl, rfl⟩
    · exact h
noncomputable def e_r05_fit : Entry := ⟨[some .u8], false, fun args H K => match args, H with
  | [.rsI .u8 a0n a0], [] => r05_fit a0n a0 (fun y0 => K (EV.str y0) [])
  | _, _ => False⟩
noncomputable def E_r05_fit : Env := ⟨look tys, look [], look [(2, r05_fit.l2.entry), (6, r05_fit.l6.entry)], gl, lookL [], false⟩
theorem r05_fit.l2X.stepEq (R : List EV → Heap → Prop) (K : Ex → List EV → Heap → Prop) (x0 : Nat) (x1 : Nat → Int) (x2 : Int) : loopStep (evCode E_r05_fit (loopAt Tryz.f82 0) { (LV.mk 9 [(0, 9)] 4 0 false) with nx := live (.loop (loopAt Tryz.f82 0)) (LV.mk 9 [(0, 9)] 4 0 false) }) (live (.loop (loopAt Tryz.f82 0)) (LV.mk 9 [(0, 9)] 4 0 false)) (LV.mk 9 [(0, 9)] 4 0 false) 0 39 R [EV.rsI IntKind.u8 x0 x1, EV.int IntKind.i64 x2] [] K = r05_fit.l2.step (fun x0 x1 x2 => R [EV.rsI IntKind.u8 x0 x1, EV.int IntKind.i64 x2] []) (fun y0 y1 y2 => K (.exit 0) [EV.rsI IntKind.u8 y0 y1, EV.int IntKind.i64 y2] []) x0 x1 x2 := (stepQ_eq _ _ _ _ _ _ _ _ _ _ _).symm.trans (by kernel_rfl)
theorem r05_fit.l2X.eq (K : Ex → List EV → Heap → Prop) : ∀ (n : Nat) (x0 : Nat) (x1 : Nat → Int) (x2 : Int), loopE E_r05_fit (loopAt Tryz.f82 0) (LV.mk 9 [(0, 9)] 4 0 false) 0 39 K n [EV.rsI IntKind.u8 x0 x1, EV.int IntKind.i64 x2] [] = r05_fit.l2 (fun y0 y1 y2 => K (.exit 0) [EV.rsI IntKind.u8 y0 y1, EV.int IntKind.i64 y2] []) n x0 x1 x2
  | 0, _, _, _ => rfl
  | n + 1, x0, x1, x2 => by
    have ih : (fun (x0 : Nat) (x1 : Nat → Int) (x2 : Int) => loopE E_r05_fit (loopAt Tryz.f82 0) (LV.mk 9 [(0, 9)] 4 0 false) 0 39 K n [EV.rsI IntKind.u8 x0 x1, EV.int IntKind.i64 x2] []) = r05_fit.l2 (fun y0 y1 y2 => K (.exit 0) [EV.rsI IntKind.u8 y0 y1, EV.int IntKind.i64 y2] []) n := by funext x0 x1 x2; exact r05_fit.l2X.eq K n x0 x1 x2
    show loopStep _ _ _ _ _ (loopE E_r05_fit (loopAt Tryz.f82 0) (LV.mk 9 [(0, 9)] 4 0 false) 0 39 K n) [EV.rsI IntKind.u8 x0 x1, EV.int IntKind.i64 x2] [] K = r05_fit.l2.step (r05_fit.l2 (fun y0 y1 y2 => K (.exit 0) [EV.rsI IntKind.u8 y0 y1, EV.int IntKind.i64 y2] []) n) (fun y0 y1 y2 => K (.exit 0) [EV.rsI IntKind.u8 y0 y1, EV.int IntKind.i64 y2] []) x0 x1 x2
    rw [← ih]
    exact r05_fit.l2X.stepEq _ K x0 x1 x2
theorem r05_fit.l2X.ok : LoopEq E_r05_fit (loopAt Tryz.f82 0) := by
  intro L hL vs H
  have h1 : E_r05_fit.lp (firstRegion (loopAt Tryz.f82 0)) = some r05_fit.l2.entry := by kernel_rfl
  have h2 : L = r05_fit.l2.entry := Option.some.inj (hL.symm.trans h1)
  subst h2
  by_cases hx : ∃ (x0 : Nat) (x1 : Nat → Int) (x2 : Int), vs = [EV.rsI IntKind.u8 x0 x1, EV.int IntKind.i64 x2] ∧ H = []
  · obtain ⟨x0, x1, x2, rfl, rfl⟩ := hx
    right; intro K
    exact exists_congr fun n => iff_of_eq (r05_fit.l2X.eq K n x0 x1 x2).symm
  · left; intro K h
    simp only [r05_fit.l2.entry] at h
    split at h
    · exact hx ⟨_, _, _, rfl, rfl⟩
    · exact h
theorem r05_fit.l6X.stepEq (R : List EV → Heap → Prop) (K : Ex → List EV → Heap → Prop) (x0 : Nat) (x1 : Nat → Int) (x2 : Int) (x3 : Nat) (x4 : Nat) (x5 : Int) (x6 : Nat) (x7 : Nat → Int) : loopStep (evCode E_r05_fit (loopAt Tryz.f82 1) { (LV.mk 16 [(2, 16)] 4 0 false) with nx := live (.loop (loopAt Tryz.f82 1)) (LV.mk 16 [(2, 16)] 4 0 false) }) (live (.loop (loopAt Tryz.f82 1)) (LV.mk 16 [(2, 16)] 4 0 false)) (LV.mk 16 [(2, 16)] 4 0 false) 0 39 R [EV.rsI IntKind.u8 x0 x1, EV.int IntKind.i64 x2, EV.slice 0 0 x3 (some x4) 1, EV.int IntKind.i64 x5] [some (EV.arr IntKind.u8 x6 x7)] K = r05_fit.l6.step (fun x0 x1 x2 x3 x4 x5 x6 x7 => R [EV.rsI IntKind.u8 x0 x1, EV.int IntKind.i64 x2, EV.slice 0 0 x3 (some x4) 1, EV.int IntKind.i64 x5] [some (EV.arr IntKind.u8 x6 x7)]) (fun y0 y1 y2 y3 => K (.exit 2) [EV.slice 0 0 y0 (some y1) 1] [some (EV.arr IntKind.u8 y2 y3)]) x0 x1 x2 x3 x4 x5 x6 x7 := (stepQ_eq _ _ _ _ _ _ _ _ _ _ _).symm.trans (by kernel_rfl)
theorem r05_fit.l6X.eq (K : Ex → List EV → Heap → Prop) : ∀ (n : Nat) (x0 : Nat) (x1 : Nat → Int) (x2 : Int) (x3 : Nat) (x4 : Nat) (x5 : Int) (x6 : Nat) (x7 : Nat → Int), loopE E_r05_fit (loopAt Tryz.f82 1) (LV.mk 16 [(2, 16)] 4 0 false) 0 39 K n [EV.rsI IntKind.u8 x0 x1, EV.int IntKind.i64 x2, EV.slice 0 0 x3 (some x4) 1, EV.int IntKind.i64 x5] [some (EV.arr IntKind.u8 x6 x7)] = r05_fit.l6 (fun y0 y1 y2 y3 => K (.exit 2) [EV.slice 0 0 y0 (some y1) 1] [some (EV.arr IntKind.u8 y2 y3)]) n x0 x1 x2 x3 x4 x5 x6 x7
  | 0, _, _, _, _, _, _, _, _ => rfl
  | n + 1, x0, x1, x2, x3, x4, x5, x6, x7 => by
    have ih : (fun (x0 : Nat) (x1 : Nat → Int) (x2 : Int) (x3 : Nat) (x4 : Nat) (x5 : Int) (x6 : Nat) (x7 : Nat → Int) => loopE E_r05_fit (loopAt Tryz.f82 1) (LV.mk 16 [(2, 16)] 4 0 false) 0 39 K n [EV.rsI IntKind.u8 x0 x1, EV.int IntKind.i64 x2, EV.slice 0 0 x3 (some x4) 1, EV.int IntKind.i64 x5] [some (EV.arr IntKind.u8 x6 x7)]) = r05_fit.l6 (fun y0 y1 y2 y3 => K (.exit 2) [EV.slice 0 0 y0 (some y1) 1] [some (EV.arr IntKind.u8 y2 y3)]) n := by funext x0 x1 x2 x3 x4 x5 x6 x7; exact r05_fit.l6X.eq K n x0 x1 x2 x3 x4 x5 x6 x7
    show loopStep _ _ _ _ _ (loopE E_r05_fit (loopAt Tryz.f82 1) (LV.mk 16 [(2, 16)] 4 0 false) 0 39 K n) [EV.rsI IntKind.u8 x0 x1, EV.int IntKind.i64 x2, EV.slice 0 0 x3 (some x4) 1, EV.int IntKind.i64 x5] [some (EV.arr IntKind.u8 x6 x7)] K = r05_fit.l6.step (r05_fit.l6 (fun y0 y1 y2 y3 => K (.exit 2) [EV.slice 0 0 y0 (some y1) 1] [some (EV.arr IntKind.u8 y2 y3)]) n) (fun y0 y1 y2 y3 => K (.exit 2) [EV.slice 0 0 y0 (some y1) 1] [some (EV.arr IntKind.u8 y2 y3)]) x0 x1 x2 x3 x4 x5 x6 x7
    rw [← ih]
    exact r05_fit.l6X.stepEq _ K x0 x1 x2 x3 x4 x5 x6 x7
theorem r05_fit.l6X.ok : LoopEq E_r05_fit (loopAt Tryz.f82 1) := by
  intro L hL vs H
  have h1 : E_r05_fit.lp (firstRegion (loopAt Tryz.f82 1)) = some r05_fit.l6.entry := by kernel_rfl
  have h2 : L = r05_fit.l6.entry := Option.some.inj (hL.symm.trans h1)
  subst h2
  by_cases hx : ∃ (x0 : Nat) (x1 : Nat → Int) (x2 : Int) (x3 : Nat) (x4 : Nat) (x5 : Int) (x6 : Nat) (x7 : Nat → Int), vs = [EV.rsI IntKind.u8 x0 x1, EV.int IntKind.i64 x2, EV.slice 0 0 x3 (some x4) 1, EV.int IntKind.i64 x5] ∧ H = [some (EV.arr IntKind.u8 x6 x7)]
  · obtain ⟨x0, x1, x2, x3, x4, x5, x6, x7, rfl, rfl⟩ := hx
    right; intro K
    exact exists_congr fun n => iff_of_eq (r05_fit.l6X.eq K n x0 x1 x2 x3 x4 x5 x6 x7).symm
  · left; intro K h
    simp only [r05_fit.l6.entry] at h
    split at h
    · exact hx ⟨_, _, _, _, _, _, _, _, rfl, rfl⟩
    · exact h
theorem X_r05_fit.eq (a0n : Nat) (a0 : Nat → Int) (K : EV → Heap → Prop) : evFn E_r05_fit Tryz.f82 false [.rsI .u8 a0n a0] [] K = r05_fit a0n a0 (fun y0 => K (EV.str y0) []) := by
  rw [r05_fit.is]; exact (evFnQ_eq _ _ _ _ _ _).symm.trans (by kernel_rfl)
theorem X_r05_fit.ok : SoundE Tryz.prog gl 82 e_r05_fit := by
  refine fnOK (E := E_r05_fit) (fn := Tryz.f82) rfl tys_ok rfl (show AllL _ [] from trivial) mixed (by kernel_rfl) (by kernel_rfl) (by kernel_rfl) 2 (by kernel_rfl) false ⟨r05_fit.l2X.ok, r05_fit.l6X.ok, trivial⟩ ?_
  intro args H
  by_cases hx : ∃ (a0n : Nat) (a0 : Nat → Int), args = [.rsI .u8 a0n a0] ∧ H = []
  · obtain ⟨a0n, a0, rfl, rfl⟩ := hx
    right; intro K
    exact iff_of_eq (X_r05_fit.eq a0n a0 K).symm
  · left; intro K h
    simp only [e_r05_fit] at h
    split at h
    · exact hx ⟨_, _, rfl, rfl⟩
    · exact h
noncomputable def e_r05_Left : Entry := ⟨[none, none], false, fun args H K => match args, H with
  | [.str a0, .int .i64 a1], [] => r05_Left a0 a1 (fun y0 y1 => K (EV.tuple [EV.str y0, EV.int IntKind.i64 y1]) [])
  | _, _ => False⟩
noncomputable def l_r05_Left : List (Nat × Entry) := [(80, e_r05_Len), (81, e_r05_at), (82, e_r05_fit)]
noncomputable def E_r05_Left : Env := ⟨look tys, look l_r05_Left, look [(9, r05_Left.l9.entry)], gl, lookL [], false⟩
theorem r05_Left.l9X.stepEq (R : List EV → Heap → Prop) (K : Ex → List EV → Heap → Prop) (x0 : List UInt8) (x1 : Int) (x2 : Nat) (x3 : Nat) (x4 : Int) (x5 : Nat) (x6 : Nat → Int) : loopStep (evCode E_r05_Left (loopAt Tryz.f21 0) { (LV.mk 64 [(0, 64)] 48 0 false) with nx := live (.loop (loopAt Tryz.f21 0)) (LV.mk 64 [(0, 64)] 48 0 false) }) (live (.loop (loopAt Tryz.f21 0)) (LV.mk 64 [(0, 64)] 48 0 false)) (LV.mk 64 [(0, 64)] 48 0 false) 0 70 R [EV.str x0, EV.int IntKind.i64 x1, EV.slice 0 0 x2 (some x3) 1, EV.int IntKind.i64 x4] [some (EV.arr IntKind.u8 x5 x6)] K = r05_Left.l9.step (fun x0 x1 x2 x3 x4 x5 x6 => R [EV.str x0, EV.int IntKind.i64 x1, EV.slice 0 0 x2 (some x3) 1, EV.int IntKind.i64 x4] [some (EV.arr IntKind.u8 x5 x6)]) (fun y0 y1 y2 y3 => K (.exit 0) [EV.slice 0 0 y0 (some y1) 1] [some (EV.arr IntKind.u8 y2 y3)]) x0 x1 x2 x3 x4 x5 x6 := (stepQ_eq _ _ _ _ _ _ _ _ _ _ _).symm.trans (by kernel_rfl)
theorem r05_Left.l9X.eq (K : Ex → List EV → Heap → Prop) : ∀ (n : Nat) (x0 : List UInt8) (x1 : Int) (x2 : Nat) (x3 : Nat) (x4 : Int) (x5 : Nat) (x6 : Nat → Int), loopE E_r05_Left (loopAt Tryz.f21 0) (LV.mk 64 [(0, 64)] 48 0 false) 0 70 K n [EV.str x0, EV.int IntKind.i64 x1, EV.slice 0 0 x2 (some x3) 1, EV.int IntKind.i64 x4] [some (EV.arr IntKind.u8 x5 x6)] = r05_Left.l9 (fun y0 y1 y2 y3 => K (.exit 0) [EV.slice 0 0 y0 (some y1) 1] [some (EV.arr IntKind.u8 y2 y3)]) n x0 x1 x2 x3 x4 x5 x6
  | 0, _, _, _, _, _, _, _ => rfl
  | n + 1, x0, x1, x2, x3, x4, x5, x6 => by
    have ih : (fun (x0 : List UInt8) (x1 : Int) (x2 : Nat) (x3 : Nat) (x4 : Int) (x5 : Nat) (x6 : Nat → Int) => loopE E_r05_Left (loopAt Tryz.f21 0) (LV.mk 64 [(0, 64)] 48 0 false) 0 70 K n [EV.str x0, EV.int IntKind.i64 x1, EV.slice 0 0 x2 (some x3) 1, EV.int IntKind.i64 x4] [some (EV.arr IntKind.u8 x5 x6)]) = r05_Left.l9 (fun y0 y1 y2 y3 => K (.exit 0) [EV.slice 0 0 y0 (some y1) 1] [some (EV.arr IntKind.u8 y2 y3)]) n := by funext x0 x1 x2 x3 x4 x5 x6; exact r05_Left.l9X.eq K n x0 x1 x2 x3 x4 x5 x6
    show loopStep _ _ _ _ _ (loopE E_r05_Left (loopAt Tryz.f21 0) (LV.mk 64 [(0, 64)] 48 0 false) 0 70 K n) [EV.str x0, EV.int IntKind.i64 x1, EV.slice 0 0 x2 (some x3) 1, EV.int IntKind.i64 x4] [some (EV.arr IntKind.u8 x5 x6)] K = r05_Left.l9.step (r05_Left.l9 (fun y0 y1 y2 y3 => K (.exit 0) [EV.slice 0 0 y0 (some y1) 1] [some (EV.arr IntKind.u8 y2 y3)]) n) (fun y0 y1 y2 y3 => K (.exit 0) [EV.slice 0 0 y0 (some y1) 1] [some (EV.arr IntKind.u8 y2 y3)]) x0 x1 x2 x3 x4 x5 x6
    rw [← ih]
    exact r05_Left.l9X.stepEq _ K x0 x1 x2 x3 x4 x5 x6
theorem r05_Left.l9X.ok : LoopEq E_r05_Left (loopAt Tryz.f21 0) := by
  intro L hL vs H
  have h1 : E_r05_Left.lp (firstRegion (loopAt Tryz.f21 0)) = some r05_Left.l9.entry := by kernel_rfl
  have h2 : L = r05_Left.l9.entry := Option.some.inj (hL.symm.trans h1)
  subst h2
  by_cases hx : ∃ (x0 : List UInt8) (x1 : Int) (x2 : Nat) (x3 : Nat) (x4 : Int) (x5 : Nat) (x6 : Nat → Int), vs = [EV.str x0, EV.int IntKind.i64 x1, EV.slice 0 0 x2 (some x3) 1, EV.int IntKind.i64 x4] ∧ H = [some (EV.arr IntKind.u8 x5 x6)]
  · obtain ⟨x0, x1, x2, x3, x4, x5, x6, rfl, rfl⟩ := hx
    right; intro K
    exact exists_congr fun n => iff_of_eq (r05_Left.l9X.eq K n x0 x1 x2 x3 x4 x5 x6).symm
  · left; intro K h
    simp only [r05_Left.l9.entry] at h
    split at h
    · exact hx ⟨_, _, _, _, _, _, _, rfl, rfl⟩
    · exact h
theorem X_r05_Left.eq (a0 : List UInt8) (a1 : Int) (K : EV → Heap → Prop) : evFn E_r05_Left Tryz.f21 false [.str a0, .int .i64 a1] [] K = r05_Left a0 a1 (fun y0 y1 => K (EV.tuple [EV.str y0, EV.int IntKind.i64 y1]) []) := by
  rw [r05_Left.is]; exact (evFnQ_eq _ _ _ _ _ _).symm.trans (by kernel_rfl)
theorem X_r05_Left.ok : SoundE Tryz.prog gl 21 e_r05_Left := by
  refine fnOK (E := E_r05_Left) (fn := Tryz.f21) rfl tys_ok rfl (show AllL _ l_r05_Left from ⟨X_r05_Len.ok, X_r05_at.ok, X_r05_fit.ok, trivial⟩) mixed (by kernel_rfl) (by kernel_rfl) (by kernel_rfl) 1 (by kernel_rfl) false ⟨r05_Left.l9X.ok, trivial⟩ ?_
  intro args H
  by_cases hx : ∃ (a0 : List UInt8) (a1 : Int), args = [.str a0, .int .i64 a1] ∧ H = []
  · obtain ⟨a0, a1, rfl, rfl⟩ := hx
    right; intro K
    exact iff_of_eq (X_r05_Left.eq a0 a1 K).symm
  · left; intro K h
    simp only [e_r05_Left] at h
    split at h
    · exact hx ⟨_, _, rfl, rfl⟩
    · exact h
end Go.Ev.S
