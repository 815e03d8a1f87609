/- The functions of the seat: that the evaluator has them as they are. -/
import Derived.Test.YtcbhglgbjcbegaaDoorProg
import Derived.Test.YtcbhglgbjcbegaaDoorEvC
import Derived.Test.YtcbhglgbjcbegaaDoorDA
import Derived.Test.YtcbhglgbjcbegaaDoorLA
import Derived.KernelRfl
set_option maxRecDepth 100000
set_option linter.unusedVariables false
set_option linter.unusedSimpArgs false
namespace Go.Ev.S
open Go Go.Proofs Go.Ev
def tys : List (Nat × TI) := [
 (1, ⟨.func, 1, 8, .nilFunc⟩),
 (2, ⟨.int .i64, 1, 8, .int .i64 0⟩),
 (3, ⟨.int .i64, 1, 8, .int .i64 0⟩),
 (4, ⟨.bool, 1, 1, .bool false⟩),
 (5, ⟨.int .u8, 1, 1, .int .u8 0⟩),
 (6, ⟨.int .u8, 1, 1, .int .u8 0⟩),
 (7, ⟨.struct [(0, 2), (1, 3), (2, 4), (3, 6)], 4, 24, .agg [.int .i64 0, .int .i64 0, .bool false, .int .u8 0]⟩),
 (8, ⟨.struct [(0, 2), (1, 3), (2, 4), (3, 6)], 4, 24, .agg [.int .i64 0, .int .i64 0, .bool false, .int .u8 0]⟩),
 (9, ⟨.str, 1, 16, .str []⟩),
 (10, ⟨.str, 1, 16, .str []⟩),
 (11, ⟨.str, 1, 16, .str []⟩),
 (12, ⟨.int .u64, 1, 8, .int .u64 0⟩),
 (15, ⟨.ptr, 1, 8, .nilPtr⟩),
 (16, ⟨.ptr, 1, 8, .nilPtr⟩),
 (17, ⟨.ptr, 1, 8, .nilPtr⟩),
 (20, ⟨.iface, 1, 16, .nilIface⟩),
 (21, ⟨.int .i32, 1, 4, .int .i32 0⟩),
 (22, ⟨.int .i64, 1, 8, .int .i64 0⟩),
 (24, ⟨.func, 1, 8, .nilFunc⟩),
 (26, ⟨.func, 1, 8, .nilFunc⟩),
 (27, ⟨.func, 1, 8, .nilFunc⟩),
 (28, ⟨.func, 1, 8, .nilFunc⟩),
 (29, ⟨.int .u8, 1, 1, .int .u8 0⟩),
 (30, ⟨.int .u64, 1, 8, .int .u64 0⟩),
 (31, ⟨.struct [(0, 30), (1, 30)], 2, 16, .agg [.int .u64 0, .int .u64 0]⟩),
 (32, ⟨.struct [(0, 30), (1, 30)], 2, 16, .agg [.int .u64 0, .int .u64 0]⟩),
 (33, ⟨.struct [(0, 4), (1, 3), (2, 30), (3, 32)], 5, 40, .agg [.bool false, .int .i64 0, .int .u64 0, .agg [.int .u64 0, .int .u64 0]]⟩),
 (34, ⟨.struct [(0, 4), (1, 3), (2, 30), (3, 32)], 5, 40, .agg [.bool false, .int .i64 0, .int .u64 0, .agg [.int .u64 0, .int .u64 0]]⟩),
 (35, ⟨.ptr, 1, 8, .nilPtr⟩),
 (36, ⟨.array 32 30, 32, 256, .arr .u64 32 (fun _ => 0)⟩),
 (37, ⟨.array 32 32, 64, 512, .agg [.agg [.int .u64 0, .int .u64 0], .agg [.int .u64 0, .int .u64 0], .agg [.int .u64 0, .int .u64 0], .agg [.int .u64 0, .int .u64 0], .agg [.int .u64 0, .int .u64 0], .agg [.int .u64 0, .int .u64 0], .agg [.int .u64 0, .int .u64 0], .agg [.int .u64 0, .int .u64 0], .agg [.int .u64 0, .int .u64 0], .agg [.int .u64 0, .int .u64 0], .agg [.int .u64 0, .int .u64 0], .agg [.int .u64 0, .int .u64 0], .agg [.int .u64 0, .int .u64 0], .agg [.int .u64 0, .int .u64 0], .agg [.int .u64 0, .int .u64 0], .agg [.int .u64 0, .int .u64 0], .agg [.int .u64 0, .int .u64 0], .agg [.int .u64 0, .int .u64 0], .agg [.int .u64 0, .int .u64 0], .agg [.int .u64 0, .int .u64 0], .agg [.int .u64 0, .int .u64 0], .agg [.int .u64 0, .int .u64 0], .agg [.int .u64 0, .int .u64 0], .agg [.int .u64 0, .int .u64 0], .agg [.int .u64 0, .int .u64 0], .agg [.int .u64 0, .int .u64 0], .agg [.int .u64 0, .int .u64 0], .agg [.int .u64 0, .int .u64 0], .agg [.int .u64 0, .int .u64 0], .agg [.int .u64 0, .int .u64 0], .agg [.int .u64 0, .int .u64 0], .agg [.int .u64 0, .int .u64 0]]⟩),
 (38, ⟨.struct [(0, 4), (1, 36), (33, 37)], 97, 776, .agg [.bool false, .arr .u64 32 (fun _ => 0), .agg [.agg [.int .u64 0, .int .u64 0], .agg [.int .u64 0, .int .u64 0], .agg [.int .u64 0, .int .u64 0], .agg [.int .u64 0, .int .u64 0], .agg [.int .u64 0, .int .u64 0], .agg [.int .u64 0, .int .u64 0], .agg [.int .u64 0, .int .u64 0], .agg [.int .u64 0, .int .u64 0], .agg [.int .u64 0, .int .u64 0], .agg [.int .u64 0, .int .u64 0], .agg [.int .u64 0, .int .u64 0], .agg [.int .u64 0, .int .u64 0], .agg [.int .u64 0, .int .u64 0], .agg [.int .u64 0, .int .u64 0], .agg [.int .u64 0, .int .u64 0], .agg [.int .u64 0, .int .u64 0], .agg [.int .u64 0, .int .u64 0], .agg [.int .u64 0, .int .u64 0], .agg [.int .u64 0, .int .u64 0], .agg [.int .u64 0, .int .u64 0], .agg [.int .u64 0, .int .u64 0], .agg [.int .u64 0, .int .u64 0], .agg [.int .u64 0, .int .u64 0], .agg [.int .u64 0, .int .u64 0], .agg [.int .u64 0, .int .u64 0], .agg [.int .u64 0, .int .u64 0], .agg [.int .u64 0, .int .u64 0], .agg [.int .u64 0, .int .u64 0], .agg [.int .u64 0, .int .u64 0], .agg [.int .u64 0, .int .u64 0], .agg [.int .u64 0, .int .u64 0], .agg [.int .u64 0, .int .u64 0]]]⟩),
 (39, ⟨.struct [(0, 4), (1, 36), (33, 37)], 97, 776, .agg [.bool false, .arr .u64 32 (fun _ => 0), .agg [.agg [.int .u64 0, .int .u64 0], .agg [.int .u64 0, .int .u64 0], .agg [.int .u64 0, .int .u64 0], .agg [.int .u64 0, .int .u64 0], .agg [.int .u64 0, .int .u64 0], .agg [.int .u64 0, .int .u64 0], .agg [.int .u64 0, .int .u64 0], .agg [.int .u64 0, .int .u64 0], .agg [.int .u64 0, .int .u64 0], .agg [.int .u64 0, .int .u64 0], .agg [.int .u64 0, .int .u64 0], .agg [.int .u64 0, .int .u64 0], .agg [.int .u64 0, .int .u64 0], .agg [.int .u64 0, .int .u64 0], .agg [.int .u64 0, .int .u64 0], .agg [.int .u64 0, .int .u64 0], .agg [.int .u64 0, .int .u64 0], .agg [.int .u64 0, .int .u64 0], .agg [.int .u64 0, .int .u64 0], .agg [.int .u64 0, .int .u64 0], .agg [.int .u64 0, .int .u64 0], .agg [.int .u64 0, .int .u64 0], .agg [.int .u64 0, .int .u64 0], .agg [.int .u64 0, .int .u64 0], .agg [.int .u64 0, .int .u64 0], .agg [.int .u64 0, .int .u64 0], .agg [.int .u64 0, .int .u64 0], .agg [.int .u64 0, .int .u64 0], .agg [.int .u64 0, .int .u64 0], .agg [.int .u64 0, .int .u64 0], .agg [.int .u64 0, .int .u64 0], .agg [.int .u64 0, .int .u64 0]]]⟩),
 (40, ⟨.array 2 35, 2, 16, .agg [.nilPtr, .nilPtr]⟩),
 (42, ⟨.func, 1, 8, .nilFunc⟩),
 (44, ⟨.func, 1, 8, .nilFunc⟩),
 (45, ⟨.func, 1, 8, .nilFunc⟩),
 (46, ⟨.slice 34, 1, 24, .nilSlice⟩),
 (48, ⟨.func, 1, 8, .nilFunc⟩),
 (49, ⟨.func, 1, 8, .nilFunc⟩),
 (50, ⟨.func, 1, 8, .nilFunc⟩),
 (51, ⟨.func, 1, 8, .nilFunc⟩),
 (52, ⟨.func, 1, 8, .nilFunc⟩),
 (53, ⟨.func, 1, 8, .nilFunc⟩),
 (54, ⟨.struct [(0, 36), (32, 37)], 96, 768, .agg [.arr .u64 32 (fun _ => 0), .agg [.agg [.int .u64 0, .int .u64 0], .agg [.int .u64 0, .int .u64 0], .agg [.int .u64 0, .int .u64 0], .agg [.int .u64 0, .int .u64 0], .agg [.int .u64 0, .int .u64 0], .agg [.int .u64 0, .int .u64 0], .agg [.int .u64 0, .int .u64 0], .agg [.int .u64 0, .int .u64 0], .agg [.int .u64 0, .int .u64 0], .agg [.int .u64 0, .int .u64 0], .agg [.int .u64 0, .int .u64 0], .agg [.int .u64 0, .int .u64 0], .agg [.int .u64 0, .int .u64 0], .agg [.int .u64 0, .int .u64 0], .agg [.int .u64 0, .int .u64 0], .agg [.int .u64 0, .int .u64 0], .agg [.int .u64 0, .int .u64 0], .agg [.int .u64 0, .int .u64 0], .agg [.int .u64 0, .int .u64 0], .agg [.int .u64 0, .int .u64 0], .agg [.int .u64 0, .int .u64 0], .agg [.int .u64 0, .int .u64 0], .agg [.int .u64 0, .int .u64 0], .agg [.int .u64 0, .int .u64 0], .agg [.int .u64 0, .int .u64 0], .agg [.int .u64 0, .int .u64 0], .agg [.int .u64 0, .int .u64 0], .agg [.int .u64 0, .int .u64 0], .agg [.int .u64 0, .int .u64 0], .agg [.int .u64 0, .int .u64 0], .agg [.int .u64 0, .int .u64 0], .agg [.int .u64 0, .int .u64 0]]]⟩),
 (55, ⟨.struct [(0, 36), (32, 37)], 96, 768, .agg [.arr .u64 32 (fun _ => 0), .agg [.agg [.int .u64 0, .int .u64 0], .agg [.int .u64 0, .int .u64 0], .agg [.int .u64 0, .int .u64 0], .agg [.int .u64 0, .int .u64 0], .agg [.int .u64 0, .int .u64 0], .agg [.int .u64 0, .int .u64 0], .agg [.int .u64 0, .int .u64 0], .agg [.int .u64 0, .int .u64 0], .agg [.int .u64 0, .int .u64 0], .agg [.int .u64 0, .int .u64 0], .agg [.int .u64 0, .int .u64 0], .agg [.int .u64 0, .int .u64 0], .agg [.int .u64 0, .int .u64 0], .agg [.int .u64 0, .int .u64 0], .agg [.int .u64 0, .int .u64 0], .agg [.int .u64 0, .int .u64 0], .agg [.int .u64 0, .int .u64 0], .agg [.int .u64 0, .int .u64 0], .agg [.int .u64 0, .int .u64 0], .agg [.int .u64 0, .int .u64 0], .agg [.int .u64 0, .int .u64 0], .agg [.int .u64 0, .int .u64 0], .agg [.int .u64 0, .int .u64 0], .agg [.int .u64 0, .int .u64 0], .agg [.int .u64 0, .int .u64 0], .agg [.int .u64 0, .int .u64 0], .agg [.int .u64 0, .int .u64 0], .agg [.int .u64 0, .int .u64 0], .agg [.int .u64 0, .int .u64 0], .agg [.int .u64 0, .int .u64 0], .agg [.int .u64 0, .int .u64 0], .agg [.int .u64 0, .int .u64 0]]]⟩),
 (56, ⟨.func, 1, 8, .nilFunc⟩),
 (57, ⟨.func, 1, 8, .nilFunc⟩),
 (58, ⟨.func, 1, 8, .nilFunc⟩),
 (59, ⟨.slice 64, 1, 24, .nilSlice⟩),
 (60, ⟨.func, 1, 8, .nilFunc⟩),
 (61, ⟨.func, 1, 8, .nilFunc⟩),
 (62, ⟨.array 2 55, 192, 1536, .agg [.agg [.arr .u64 32 (fun _ => 0), .agg [.agg [.int .u64 0, .int .u64 0], .agg [.int .u64 0, .int .u64 0], .agg [.int .u64 0, .int .u64 0], .agg [.int .u64 0, .int .u64 0], .agg [.int .u64 0, .int .u64 0], .agg [.int .u64 0, .int .u64 0], .agg [.int .u64 0, .int .u64 0], .agg [.int .u64 0, .int .u64 0], .agg [.int .u64 0, .int .u64 0], .agg [.int .u64 0, .int .u64 0], .agg [.int .u64 0, .int .u64 0], .agg [.int .u64 0, .int .u64 0], .agg [.int .u64 0, .int .u64 0], .agg [.int .u64 0, .int .u64 0], .agg [.int .u64 0, .int .u64 0], .agg [.int .u64 0, .int .u64 0], .agg [.int .u64 0, .int .u64 0], .agg [.int .u64 0, .int .u64 0], .agg [.int .u64 0, .int .u64 0], .agg [.int .u64 0, .int .u64 0], .agg [.int .u64 0, .int .u64 0], .agg [.int .u64 0, .int .u64 0], .agg [.int .u64 0, .int .u64 0], .agg [.int .u64 0, .int .u64 0], .agg [.int .u64 0, .int .u64 0], .agg [.int .u64 0, .int .u64 0], .agg [.int .u64 0, .int .u64 0], .agg [.int .u64 0, .int .u64 0], .agg [.int .u64 0, .int .u64 0], .agg [.int .u64 0, .int .u64 0], .agg [.int .u64 0, .int .u64 0], .agg [.int .u64 0, .int .u64 0]]], .agg [.arr .u64 32 (fun _ => 0), .agg [.agg [.int .u64 0, .int .u64 0], .agg [.int .u64 0, .int .u64 0], .agg [.int .u64 0, .int .u64 0], .agg [.int .u64 0, .int .u64 0], .agg [.int .u64 0, .int .u64 0], .agg [.int .u64 0, .int .u64 0], .agg [.int .u64 0, .int .u64 0], .agg [.int .u64 0, .int .u64 0], .agg [.int .u64 0, .int .u64 0], .agg [.int .u64 0, .int .u64 0], .agg [.int .u64 0, .int .u64 0], .agg [.int .u64 0, .int .u64 0], .agg [.int .u64 0, .int .u64 0], .agg [.int .u64 0, .int .u64 0], .agg [.int .u64 0, .int .u64 0], .agg [.int .u64 0, .int .u64 0], .agg [.int .u64 0, .int .u64 0], .agg [.int .u64 0, .int .u64 0], .agg [.int .u64 0, .int .u64 0], .agg [.int .u64 0, .int .u64 0], .agg [.int .u64 0, .int .u64 0], .agg [.int .u64 0, .int .u64 0], .agg [.int .u64 0, .int .u64 0], .agg [.int .u64 0, .int .u64 0], .agg [.int .u64 0, .int .u64 0], .agg [.int .u64 0, .int .u64 0], .agg [.int .u64 0, .int .u64 0], .agg [.int .u64 0, .int .u64 0], .agg [.int .u64 0, .int .u64 0], .agg [.int .u64 0, .int .u64 0], .agg [.int .u64 0, .int .u64 0], .agg [.int .u64 0, .int .u64 0]]]]⟩),
 (63, ⟨.struct [(0, 3), (1, 3), (2, 3), (3, 30), (4, 32), (6, 29), (7, 46)], 8, 80, .agg [.int .i64 0, .int .i64 0, .int .i64 0, .int .u64 0, .agg [.int .u64 0, .int .u64 0], .int .u8 0, .nilSlice]⟩),
 (64, ⟨.struct [(0, 3), (1, 3), (2, 3), (3, 30), (4, 32), (6, 29), (7, 46)], 8, 80, .agg [.int .i64 0, .int .i64 0, .int .i64 0, .int .u64 0, .agg [.int .u64 0, .int .u64 0], .int .u8 0, .nilSlice]⟩),
 (66, ⟨.func, 1, 8, .nilFunc⟩),
 (67, ⟨.func, 1, 8, .nilFunc⟩),
 (68, ⟨.func, 1, 8, .nilFunc⟩),
 (69, ⟨.func, 1, 8, .nilFunc⟩),
 (70, ⟨.func, 1, 8, .nilFunc⟩),
 (71, ⟨.func, 1, 8, .nilFunc⟩),
 (72, ⟨.iface, 1, 16, .nilIface⟩),
 (73, ⟨.iface, 1, 16, .nilIface⟩),
 (75, ⟨.func, 1, 8, .nilFunc⟩),
 (76, ⟨.ptr, 1, 8, .nilPtr⟩),
 (77, ⟨.func, 1, 8, .nilFunc⟩),
 (78, ⟨.ptr, 1, 8, .nilPtr⟩),
 (79, ⟨.func, 1, 8, .nilFunc⟩),
 (80, ⟨.func, 1, 8, .nilFunc⟩),
 (82, ⟨.func, 1, 8, .nilFunc⟩),
 (83, ⟨.func, 1, 8, .nilFunc⟩),
 (84, ⟨.func, 1, 8, .nilFunc⟩),
 (85, ⟨.func, 1, 8, .nilFunc⟩),
 (86, ⟨.func, 1, 8, .nilFunc⟩),
 (87, ⟨.func, 1, 8, .nilFunc⟩),
 (88, ⟨.func, 1, 8, .nilFunc⟩),
 (89, ⟨.slice 5, 1, 24, .nilSlice⟩),
 (90, ⟨.func, 1, 8, .nilFunc⟩),
 (91, ⟨.func, 1, 8, .nilFunc⟩),
 (92, ⟨.func, 1, 8, .nilFunc⟩),
 (93, ⟨.func, 1, 8, .nilFunc⟩),
 (94, ⟨.func, 1, 8, .nilFunc⟩),
 (95, ⟨.func, 1, 8, .nilFunc⟩),
 (96, ⟨.func, 1, 8, .nilFunc⟩),
 (97, ⟨.int .i64, 1, 8, .int .i64 0⟩),
 (99, ⟨.func, 1, 8, .nilFunc⟩),
 (100, ⟨.ptr, 1, 8, .nilPtr⟩),
 (101, ⟨.func, 1, 8, .nilFunc⟩),
 (102, ⟨.func, 1, 8, .nilFunc⟩),
 (103, ⟨.func, 1, 8, .nilFunc⟩),
 (104, ⟨.func, 1, 8, .nilFunc⟩),
 (105, ⟨.int .u64, 1, 8, .int .u64 0⟩),
 (106, ⟨.array 4 32, 8, 64, .agg [.agg [.int .u64 0, .int .u64 0], .agg [.int .u64 0, .int .u64 0], .agg [.int .u64 0, .int .u64 0], .agg [.int .u64 0, .int .u64 0]]⟩),
 (107, ⟨.func, 1, 8, .nilFunc⟩),
 (108, ⟨.func, 1, 8, .nilFunc⟩),
 (109, ⟨.array 24 5, 24, 24, .arr .u8 24 (fun _ => 0)⟩),
 (110, ⟨.func, 1, 8, .nilFunc⟩),
 (111, ⟨.func, 1, 8, .nilFunc⟩),
 (113, ⟨.func, 1, 8, .nilFunc⟩),
 (115, ⟨.func, 1, 8, .nilFunc⟩),
 (116, ⟨.func, 1, 8, .nilFunc⟩),
 (119, ⟨.func, 1, 8, .nilFunc⟩),
 (121, ⟨.func, 1, 8, .nilFunc⟩),
 (122, ⟨.func, 1, 8, .nilFunc⟩),
 (123, ⟨.func, 1, 8, .nilFunc⟩),
 (124, ⟨.array 20 30, 20, 160, .arr .u64 20 (fun _ => 0)⟩),
 (125, ⟨.int .u32, 1, 4, .int .u32 0⟩),
 (126, ⟨.array 65 5, 65, 65, .arr .u8 65 (fun _ => 0)⟩),
 (127, ⟨.func, 1, 8, .nilFunc⟩),
 (128, ⟨.func, 1, 8, .nilFunc⟩),
 (129, ⟨.func, 1, 8, .nilFunc⟩),
 (130, ⟨.ptr, 1, 8, .nilPtr⟩),
 (131, ⟨.ptr, 1, 8, .nilPtr⟩),
 (132, ⟨.struct [(0, 9)], 1, 16, .agg [.str []]⟩),
 (133, ⟨.struct [(0, 9)], 1, 16, .agg [.str []]⟩),
 (134, ⟨.struct [(0, 3), (1, 3), (2, 3), (3, 9)], 4, 40, .agg [.int .i64 0, .int .i64 0, .int .i64 0, .str []]⟩),
 (135, ⟨.array 4 134, 16, 160, .agg [.agg [.int .i64 0, .int .i64 0, .int .i64 0, .str []], .agg [.int .i64 0, .int .i64 0, .int .i64 0, .str []], .agg [.int .i64 0, .int .i64 0, .int .i64 0, .str []], .agg [.int .i64 0, .int .i64 0, .int .i64 0, .str []]]⟩),
 (136, ⟨.func, 1, 8, .nilFunc⟩),
 (137, ⟨.array 32 5, 32, 32, .arr .u8 32 (fun _ => 0)⟩),
 (138, ⟨.array 64 5, 64, 64, .arr .u8 64 (fun _ => 0)⟩),
 (139, ⟨.func, 1, 8, .nilFunc⟩),
 (142, ⟨.array 0 16, 0, 0, .agg []⟩),
 (145, ⟨.func, 1, 8, .nilFunc⟩),
 (146, ⟨.int .u8, 1, 1, .int .u8 0⟩),
 (147, ⟨.int .u8, 1, 1, .int .u8 0⟩),
 (148, ⟨.func, 1, 8, .nilFunc⟩),
 (149, ⟨.int .i32, 1, 4, .int .i32 0⟩),
 (150, ⟨.int .i32, 1, 4, .int .i32 0⟩)]
theorem tys_ok : ycF (OkTI Tryd.prog) tys :=
 ⟨.of (by kernel_rfl) (by kernel_rfl), .of (by kernel_rfl) (by kernel_rfl), .of (by kernel_rfl) (by kernel_rfl), .of (by kernel_rfl) (by kernel_rfl), .of (by kernel_rfl) (by kernel_rfl), .of (by kernel_rfl) (by kernel_rfl), .of (by kernel_rfl) (by kernel_rfl), .of (by kernel_rfl) (by kernel_rfl), .of (by kernel_rfl) (by kernel_rfl), .of (by kernel_rfl) (by kernel_rfl), .of (by kernel_rfl) (by kernel_rfl), .of (by kernel_rfl) (by kernel_rfl), .of (by kernel_rfl) (by kernel_rfl), .of (by kernel_rfl) (by kernel_rfl), .of (by kernel_rfl) (by kernel_rfl), .of (by kernel_rfl) (by kernel_rfl), .of (by kernel_rfl) (by kernel_rfl), .of (by kernel_rfl) (by kernel_rfl), .of (by kernel_rfl) (by kernel_rfl), .of (by kernel_rfl) (by kernel_rfl), .of (by kernel_rfl) (by kernel_rfl), .of (by kernel_rfl) (by kernel_rfl), .of (by kernel_rfl) (by kernel_rfl), .of (by kernel_rfl) (by kernel_rfl), .of (by kernel_rfl) (by kernel_rfl), .of (by kernel_rfl) (by kernel_rfl), .of (by kernel_rfl) (by kernel_rfl), .of (by kernel_rfl) (by kernel_rfl), .of (by kernel_rfl) (by kernel_rfl), .of (by kernel_rfl) (by kernel_rfl), .of (by kernel_rfl) (by kernel_rfl), .of (by kernel_rfl) (by kernel_rfl), .of (by kernel_rfl) (by kernel_rfl), .of (by kernel_rfl) (by kernel_rfl), .of (by kernel_rfl) (by kernel_rfl), .of (by kernel_rfl) (by kernel_rfl), .of (by kernel_rfl) (by kernel_rfl), .of (by kernel_rfl) (by kernel_rfl), .of (by kernel_rfl) (by kernel_rfl), .of (by kernel_rfl) (by kernel_rfl), .of (by kernel_rfl) (by kernel_rfl), .of (by kernel_rfl) (by kernel_rfl), .of (by kernel_rfl) (by kernel_rfl), .of (by kernel_rfl) (by kernel_rfl), .of (by kernel_rfl) (by kernel_rfl), .of (by kernel_rfl) (by kernel_rfl), .of (by kernel_rfl) (by kernel_rfl), .of (by kernel_rfl) (by kernel_rfl), .of (by kernel_rfl) (by kernel_rfl), .of (by kernel_rfl) (by kernel_rfl), .of (by kernel_rfl) (by kernel_rfl), .of (by kernel_rfl) (by kernel_rfl), .of (by kernel_rfl) (by kernel_rfl), .of (by kernel_rfl) (by kernel_rfl), .of (by kernel_rfl) (by kernel_rfl), .of (by kernel_rfl) (by kernel_rfl), .of (by kernel_rfl) (by kernel_rfl), .of (by kernel_rfl) (by kernel_rfl), .of (by kernel_rfl) (by kernel_rfl), .of (by kernel_rfl) (by kernel_rfl), .of (by kernel_rfl) (by kernel_rfl), .of (by kernel_rfl) (by kernel_rfl), .of (by kernel_rfl) (by kernel_rfl), .of (by kernel_rfl) (by kernel_rfl), .of (by kernel_rfl) (by kernel_rfl), .of (by kernel_rfl) (by kernel_rfl), .of (by kernel_rfl) (by kernel_rfl), .of (by kernel_rfl) (by kernel_rfl), .of (by kernel_rfl) (by kernel_rfl), .of (by kernel_rfl) (by kernel_rfl), .of (by kernel_rfl) (by kernel_rfl), .of (by kernel_rfl) (by kernel_rfl), .of (by kernel_rfl) (by kernel_rfl), .of (by kernel_rfl) (by kernel_rfl), .of (by kernel_rfl) (by kernel_rfl), .of (by kernel_rfl) (by kernel_rfl), .of (by kernel_rfl) (by kernel_rfl), .of (by kernel_rfl) (by kernel_rfl), .of (by kernel_rfl) (by kernel_rfl), .of (by kernel_rfl) (by kernel_rfl), .of (by kernel_rfl) (by kernel_rfl), .of (by kernel_rfl) (by kernel_rfl), .of (by kernel_rfl) (by kernel_rfl), .of (by kernel_rfl) (by kernel_rfl), .of (by kernel_rfl) (by kernel_rfl), .of (by kernel_rfl) (by kernel_rfl), .of (by kernel_rfl) (by kernel_rfl), .of (by kernel_rfl) (by kernel_rfl), .of (by kernel_rfl) (by kernel_rfl), .of (by kernel_rfl) (by kernel_rfl), .of (by kernel_rfl) (by kernel_rfl), .of (by kernel_rfl) (by kernel_rfl), .of (by kernel_rfl) (by kernel_rfl), .of (by kernel_rfl) (by kernel_rfl), .of (by kernel_rfl) (by kernel_rfl), .of (by kernel_rfl) (by kernel_rfl), .of (by kernel_rfl) (by kernel_rfl), .of (by kernel_rfl) (by kernel_rfl), .of (by kernel_rfl) (by kernel_rfl), .of (by kernel_rfl) (by kernel_rfl), .of (by kernel_rfl) (by kernel_rfl), .of (by kernel_rfl) (by kernel_rfl), .of (by kernel_rfl) (by kernel_rfl), .of (by kernel_rfl) (by kernel_rfl), .of (by kernel_rfl) (by kernel_rfl), .of (by kernel_rfl) (by kernel_rfl), .of (by kernel_rfl) (by kernel_rfl), .of (by kernel_rfl) (by kernel_rfl), .of (by kernel_rfl) (by kernel_rfl), .of (by kernel_rfl) (by kernel_rfl), .of (by kernel_rfl) (by kernel_rfl), .of (by kernel_rfl) (by kernel_rfl), .of (by kernel_rfl) (by kernel_rfl), .of (by kernel_rfl) (by kernel_rfl), .of (by kernel_rfl) (by kernel_rfl), .of (by kernel_rfl) (by kernel_rfl), .of (by kernel_rfl) (by kernel_rfl), .of (by kernel_rfl) (by kernel_rfl), .of (by kernel_rfl) (by kernel_rfl), .of (by kernel_rfl) (by kernel_rfl), .of (by kernel_rfl) (by kernel_rfl), .of (by kernel_rfl) (by kernel_rfl), .of (by kernel_rfl) (by kernel_rfl), .of (by kernel_rfl) (by kernel_rfl), .of (by kernel_rfl) (by kernel_rfl), .of (by kernel_rfl) (by kernel_rfl), .of (by kernel_rfl) (by kernel_rfl), .of (by kernel_rfl) (by kernel_rfl), trivial⟩
theorem mixed : Tryd.prog.follows .mixedOrders = true := by kernel_rfl
noncomputable def gl : Nat → Option EV := look [(4, .arr .u8 64 yaU), (0, .iface 131 (.rref (.str [105, 110, 118, 97, 108, 105, 100, 32, 115, 121, 110, 116, 97, 120]))), (1, .iface 131 (.rref (.str [118, 97, 108, 117, 101, 32, 111, 117, 116, 32, 111, 102, 32, 114, 97, 110, 103, 101]))), (2, .arr .u64 20 yer)]
open Go.Shelf in
def lays_strconv_Itoa_ren : Go.Shelf.Ren := ⟨fun | 171 => 29 | 243 => 47 | 246 => 60 | 283 => 75 | 284 => 76 | 285 => 77 | 286 => 78 | 129 => 84 | 317 => 83 | 318 => 85 | 319 => 86 | 320 => 87 | 337 => 90 | 338 => 91 | n => n, fun | 3 => 3 | 9 => 9 | 2 => 2 | 4 => 4 | 171 => 109 | 0 => 0 | 53 => 30 | 37 => 89 | 5 => 5 | 173 => 112 | 212 => 124 | 51 => 125 | 20 => 20 | 213 => 126 | 46 => 105 | 232 => 137 | 233 => 138 | n => n, fun | 17 => 2 | 18 => 3 | 19 => 4 | n => n⟩
open Go.Shelf in
theorem lays_strconv_Itoa : Go.Proofs.LaysM.n171 Tryd.prog lays_strconv_Itoa_ren where
 mixed := by kernel_rfl
 f129 := Tryd.func84.trans (congrArg some (by kernel_rfl))
 f171 := Tryd.func29.trans (congrArg some (by kernel_rfl))
 f243 := Tryd.func47.trans (congrArg some (by kernel_rfl))
 f246 := Tryd.func60.trans (congrArg some (by kernel_rfl))
 f283 := Tryd.func75.trans (congrArg some (by kernel_rfl))
 f284 := Tryd.func76.trans (congrArg some (by kernel_rfl))
 f285 := Tryd.func77.trans (congrArg some (by kernel_rfl))
 f286 := Tryd.func78.trans (congrArg some (by kernel_rfl))
 f317 := Tryd.func83.trans (congrArg some (by kernel_rfl))
 f318 := Tryd.func85.trans (congrArg some (by kernel_rfl))
 f319 := Tryd.func86.trans (congrArg some (by kernel_rfl))
 f320 := Tryd.func87.trans (congrArg some (by kernel_rfl))
 f337 := Tryd.func90.trans (congrArg some (by kernel_rfl))
 f338 := Tryd.func91.trans (congrArg some (by kernel_rfl))
 t0 := Tryd.underlying0
 a0 := Tryd.isAgg0
 z0 := Tryd.sizeOf0
 v0 := Tryd.zeroValue0
 t2 := Tryd.underlying2
 a2 := Tryd.isAgg2
 z2 := Tryd.sizeOf2
 v2 := Tryd.zeroValue2
 t3 := Tryd.underlying3
 a3 := Tryd.isAgg3
 z3 := Tryd.sizeOf3
 v3 := Tryd.zeroValue3
 t4 := Tryd.underlying4
 a4 := Tryd.isAgg4
 z4 := Tryd.sizeOf4
 v4 := Tryd.zeroValue4
 t5 := Tryd.underlying5
 a5 := Tryd.isAgg5
 z5 := Tryd.sizeOf5
 v5 := Tryd.zeroValue5
 t9 := Tryd.underlying9
 a9 := Tryd.isAgg9
 z9 := Tryd.sizeOf9
 v9 := Tryd.zeroValue9
 t20 := Tryd.underlying20
 a20 := Tryd.isAgg20
 z20 := Tryd.sizeOf20
 v20 := Tryd.zeroValue20
 t37 := Tryd.underlying89
 a37 := Tryd.isAgg89
 z37 := Tryd.sizeOf89
 v37 := Tryd.zeroValue89
 t46 := Tryd.underlying105
 a46 := Tryd.isAgg105
 z46 := Tryd.sizeOf105
 v46 := Tryd.zeroValue105
 t51 := Tryd.underlying125
 a51 := Tryd.isAgg125
 z51 := Tryd.sizeOf125
 v51 := Tryd.zeroValue125
 t53 := Tryd.underlying30
 a53 := Tryd.isAgg30
 z53 := Tryd.sizeOf30
 v53 := Tryd.zeroValue30
 t171 := Tryd.underlying109
 a171 := Tryd.isAgg109
 z171 := Tryd.sizeOf109
 v171 := Tryd.zeroValue109
 t173 := Tryd.underlying112
 a173 := Tryd.isAgg112
 z173 := Tryd.sizeOf112
 v173 := Tryd.zeroValue112
 t212 := Tryd.underlying124
 a212 := Tryd.isAgg124
 z212 := Tryd.sizeOf124
 v212 := Tryd.zeroValue124
 t213 := Tryd.underlying126
 a213 := Tryd.isAgg126
 z213 := Tryd.sizeOf126
 t232 := Tryd.underlying137
 a232 := Tryd.isAgg137
 z232 := Tryd.sizeOf137
 v232 := Tryd.zeroValue137
 t233 := Tryd.underlying138
 a233 := Tryd.isAgg138
 z233 := Tryd.sizeOf138
 v233 := Tryd.zeroValue138
 g17 := by kernel_rfl
 g18 := by kernel_rfl
 g19 := by kernel_rfl
 i0 := by kernel_rfl
 i2 := by kernel_rfl
 i3 := by kernel_rfl
 i4 := by kernel_rfl
 i5 := by kernel_rfl
 i9 := by kernel_rfl
 i20 := by kernel_rfl
 i37 := by kernel_rfl
 i46 := by kernel_rfl
 i51 := by kernel_rfl
 i53 := by kernel_rfl
 i171 := by kernel_rfl
 i173 := by kernel_rfl
 i212 := by kernel_rfl
 i232 := by kernel_rfl
 i233 := by kernel_rfl
 m17 := by kernel_rfl
 m18 := by kernel_rfl
 m19 := by kernel_rfl
theorem X_zbe.ok : SoundE Tryd.prog gl 29 yjd := yls (g := 2) lays_strconv_Itoa (by kernel_rfl) (by kernel_rfl) (by kernel_rfl) ⟨_, Tryd.func29, by kernel_rfl, by kernel_rfl⟩
noncomputable def e_zaj : Entry := ⟨[none, none], false, fun args H K => match args, H with
 | [.bool a0, .int .i64 a1], [] => zaj a0 a1 (fun y0 y1 => K (EV.tuple [EV.str y0, EV.int IntKind.i64 y1]) [])
 | _, _ => False⟩
noncomputable def l_zaj : List (Nat × Entry) := [(29, yjd)]
noncomputable def E_zaj : Env := ⟨look tys, look l_zaj, look [], gl, yaR [], false⟩
theorem X_zaj.eq (a0 : Bool) (a1 : Int) (K : EV → yah → Prop) : yci E_zaj Tryd.f7 false [.bool a0, .int .i64 a1] [] K = zaj a0 a1 (fun y0 y1 => K (EV.tuple [EV.str y0, EV.int IntKind.i64 y1]) []) := by
 rw [zaj.is]; exact (yar _ _ _ _ _ _).symm.trans (by kernel_rfl)
theorem X_zaj.ok : SoundE Tryd.prog gl 7 e_zaj := by
 refine ydp (E := E_zaj) (fn := Tryd.f7) rfl tys_ok rfl (show ycF _ l_zaj from ⟨X_zbe.ok, trivial⟩) mixed (by kernel_rfl) (by kernel_rfl) (by kernel_rfl) 0 (by kernel_rfl) false trivial ?_
 intro args H
 by_cases hx : ∃ (a0 : Bool) (a1 : Int), args = [.bool a0, .int .i64 a1] ∧ H = []
 ·obtain ⟨a0, a1, rfl, rfl⟩ := hx
  right; intro K
  exact iff_of_eq (X_zaj.eq a0 a1 K).symm
 ·left; intro K h
  simp only [e_zaj] at h
  split at h
  ·exact hx ⟨_, _, rfl, rfl⟩
  ·exact h
noncomputable def e_zai : Entry := ⟨[none], false, fun args H K => match args, H with
 | [.int .i64 a0], [] => zai a0 (fun y0 => K (EV.bool y0) [])
 | _, _ => False⟩
noncomputable def E_zai : Env := ⟨look tys, look [], look [], gl, yaR [], false⟩
theorem X_zai.eq (a0 : Int) (K : EV → yah → Prop) : yci E_zai Tryd.f30 false [.int .i64 a0] [] K = zai a0 (fun y0 => K (EV.bool y0) []) := by
 rw [zai.is]; exact (yar _ _ _ _ _ _).symm.trans (by kernel_rfl)
theorem X_zai.ok : SoundE Tryd.prog gl 30 e_zai := by
 refine ydp (E := E_zai) (fn := Tryd.f30) rfl tys_ok rfl (show ycF _ [] from trivial) mixed (by kernel_rfl) (by kernel_rfl) (by kernel_rfl) 0 (by kernel_rfl) false trivial ?_
 intro args H
 by_cases hx : ∃ (a0 : Int), args = [.int .i64 a0] ∧ H = []
 ·obtain ⟨a0, rfl, rfl⟩ := hx
  right; intro K
  exact iff_of_eq (X_zai.eq a0 K).symm
 ·left; intro K h
  simp only [e_zai] at h
  split at h
  ·exact hx ⟨_, rfl, rfl⟩
  ·exact h
noncomputable def e_zah : Entry := ⟨[none], false, fun args H K => match args, H with
 | [.int .i64 a0], [] => zah a0 (fun y0 => K (EV.str y0) [])
 | _, _ => False⟩
noncomputable def E_zah : Env := ⟨look tys, look [], look [], gl, yaR [], false⟩
theorem X_zah.eq (a0 : Int) (K : EV → yah → Prop) : yci E_zah Tryd.f31 false [.int .i64 a0] [] K = zah a0 (fun y0 => K (EV.str y0) []) := by
 rw [zah.is]; exact (yar _ _ _ _ _ _).symm.trans (by kernel_rfl)
theorem X_zah.ok : SoundE Tryd.prog gl 31 e_zah := by
 refine ydp (E := E_zah) (fn := Tryd.f31) rfl tys_ok rfl (show ycF _ [] from trivial) mixed (by kernel_rfl) (by kernel_rfl) (by kernel_rfl) 0 (by kernel_rfl) false trivial ?_
 intro args H
 by_cases hx : ∃ (a0 : Int), args = [.int .i64 a0] ∧ H = []
 ·obtain ⟨a0, rfl, rfl⟩ := hx
  right; intro K
  exact iff_of_eq (X_zah.eq a0 K).symm
 ·left; intro K h
  simp only [e_zah] at h
  split at h
  ·exact hx ⟨_, rfl, rfl⟩
  ·exact h
noncomputable def e_zag : Entry := ⟨[none], false, fun args H K => match args, H with
 | [.int .i64 a0], [] => zag a0 (fun y0 => K (EV.str y0) [])
 | _, _ => False⟩
noncomputable def l_zag : List (Nat × Entry) := [(31, e_zah)]
noncomputable def E_zag : Env := ⟨look tys, look l_zag, look [], gl, yaR [], false⟩
theorem X_zag.eq (a0 : Int) (K : EV → yah → Prop) : yci E_zag Tryd.f31 false [.int .i64 a0] [] K = zag a0 (fun y0 => K (EV.str y0) []) := by
 rw [zag.is]; exact (yar _ _ _ _ _ _).symm.trans (by kernel_rfl)
theorem X_zag.ok : SoundE Tryd.prog gl 31 e_zag := by
 refine ydp (E := E_zag) (fn := Tryd.f31) rfl tys_ok rfl (show ycF _ l_zag from ⟨X_zah.ok, trivial⟩) mixed (by kernel_rfl) (by kernel_rfl) (by kernel_rfl) 0 (by kernel_rfl) false trivial ?_
 intro args H
 by_cases hx : ∃ (a0 : Int), args = [.int .i64 a0] ∧ H = []
 ·obtain ⟨a0, rfl, rfl⟩ := hx
  right; intro K
  exact iff_of_eq (X_zag.eq a0 K).symm
 ·left; intro K h
  simp only [e_zag] at h
  split at h
  ·exact hx ⟨_, rfl, rfl⟩
  ·exact h
noncomputable def e_zae : Entry := ⟨[none, none], false, fun args H K => match args, H with
 | [.bool a0, .int .i64 a1], [] => zae a0 a1 (fun y0 y1 => K (EV.tuple [EV.str y0, EV.int IntKind.i64 y1]) [])
 | _, _ => False⟩
noncomputable def l_zae : List (Nat × Entry) := [(30, e_zai), (31, e_zag)]
noncomputable def E_zae : Env := ⟨look tys, look l_zae, look [], gl, yaR [], false⟩
theorem X_zae.eq (a0 : Bool) (a1 : Int) (K : EV → yah → Prop) : yci E_zae Tryd.f8 false [.bool a0, .int .i64 a1] [] K = zae a0 a1 (fun y0 y1 => K (EV.tuple [EV.str y0, EV.int IntKind.i64 y1]) []) := by
 rw [zae.is]; exact (yar _ _ _ _ _ _).symm.trans (by kernel_rfl)
theorem X_zae.ok : SoundE Tryd.prog gl 8 e_zae := by
 refine ydp (E := E_zae) (fn := Tryd.f8) rfl tys_ok rfl (show ycF _ l_zae from ⟨X_zai.ok, X_zag.ok, trivial⟩) mixed (by kernel_rfl) (by kernel_rfl) (by kernel_rfl) 0 (by kernel_rfl) false trivial ?_
 intro args H
 by_cases hx : ∃ (a0 : Bool) (a1 : Int), args = [.bool a0, .int .i64 a1] ∧ H = []
 ·obtain ⟨a0, a1, rfl, rfl⟩ := hx
  right; intro K
  exact iff_of_eq (X_zae.eq a0 a1 K).symm
 ·left; intro K h
  simp only [e_zae] at h
  split at h
  ·exact hx ⟨_, _, rfl, rfl⟩
  ·exact h
open Go.Shelf in
def lays_strconv_Atoi_ren : Go.Shelf.Ren := ⟨fun | 172 => 32 | 244 => 48 | 245 => 49 | 247 => 61 | 279 => 62 | 280 => 63 | 281 => 64 | 282 => 65 | 287 => 79 | 316 => 80 | 171 => 29 | 205 => 81 | 321 => 88 | 322 => 89 | 243 => 47 | 246 => 60 | 283 => 75 | 284 => 76 | 285 => 77 | 286 => 78 | 129 => 84 | 317 => 83 | 318 => 85 | 319 => 86 | 320 => 87 | 337 => 90 | 338 => 91 | n => n, fun | 9 => 9 | 3 => 3 | 75 => 73 | 76 => 74 | 4 => 4 | 5 => 5 | 167 => 97 | 37 => 89 | 0 => 0 | 85 => 98 | 2 => 2 | 168 => 100 | 53 => 30 | 175 => 114 | 46 => 105 | 210 => 118 | 127 => 130 | 145 => 133 | 143 => 131 | 21 => 21 | 171 => 109 | 173 => 112 | 212 => 124 | 51 => 125 | 20 => 20 | 213 => 126 | 232 => 137 | 233 => 138 | 80 => 139 | n => n, fun | 15 => 0 | 16 => 1 | 17 => 2 | 18 => 3 | 19 => 4 | n => n⟩
open Go.Shelf in
theorem lays_strconv_Atoi : Go.Proofs.LaysC.n172 Tryd.prog lays_strconv_Atoi_ren where
 mixed := by kernel_rfl
 f129 := Tryd.func84.trans (congrArg some (by kernel_rfl))
 f171 := Tryd.func29.trans (congrArg some (by kernel_rfl))
 f172 := Tryd.func32.trans (congrArg some (by kernel_rfl))
 f205 := Tryd.func81.trans (congrArg some (by kernel_rfl))
 f243 := Tryd.func47.trans (congrArg some (by kernel_rfl))
 f244 := Tryd.func48.trans (congrArg some (by kernel_rfl))
 f245 := Tryd.func49.trans (congrArg some (by kernel_rfl))
 f246 := Tryd.func60.trans (congrArg some (by kernel_rfl))
 f247 := Tryd.func61.trans (congrArg some (by kernel_rfl))
 f279 := Tryd.func62.trans (congrArg some (by kernel_rfl))
 f280 := Tryd.func63.trans (congrArg some (by kernel_rfl))
 f281 := Tryd.func64.trans (congrArg some (by kernel_rfl))
 f282 := Tryd.func65.trans (congrArg some (by kernel_rfl))
 f283 := Tryd.func75.trans (congrArg some (by kernel_rfl))
 f284 := Tryd.func76.trans (congrArg some (by kernel_rfl))
 f285 := Tryd.func77.trans (congrArg some (by kernel_rfl))
 f286 := Tryd.func78.trans (congrArg some (by kernel_rfl))
 f287 := Tryd.func79.trans (congrArg some (by kernel_rfl))
 f316 := Tryd.func80.trans (congrArg some (by kernel_rfl))
 f317 := Tryd.func83.trans (congrArg some (by kernel_rfl))
 f318 := Tryd.func85.trans (congrArg some (by kernel_rfl))
 f319 := Tryd.func86.trans (congrArg some (by kernel_rfl))
 f320 := Tryd.func87.trans (congrArg some (by kernel_rfl))
 f321 := Tryd.func88.trans (congrArg some (by kernel_rfl))
 f322 := Tryd.func89.trans (congrArg some (by kernel_rfl))
 f337 := Tryd.func90.trans (congrArg some (by kernel_rfl))
 f338 := Tryd.func91.trans (congrArg some (by kernel_rfl))
 t0 := Tryd.underlying0
 a0 := Tryd.isAgg0
 z0 := Tryd.sizeOf0
 v0 := Tryd.zeroValue0
 t2 := Tryd.underlying2
 a2 := Tryd.isAgg2
 z2 := Tryd.sizeOf2
 v2 := Tryd.zeroValue2
 t3 := Tryd.underlying3
 a3 := Tryd.isAgg3
 z3 := Tryd.sizeOf3
 v3 := Tryd.zeroValue3
 t4 := Tryd.underlying4
 a4 := Tryd.isAgg4
 z4 := Tryd.sizeOf4
 v4 := Tryd.zeroValue4
 t5 := Tryd.underlying5
 a5 := Tryd.isAgg5
 z5 := Tryd.sizeOf5
 v5 := Tryd.zeroValue5
 t9 := Tryd.underlying9
 a9 := Tryd.isAgg9
 z9 := Tryd.sizeOf9
 v9 := Tryd.zeroValue9
 t20 := Tryd.underlying20
 a20 := Tryd.isAgg20
 z20 := Tryd.sizeOf20
 v20 := Tryd.zeroValue20
 t21 := Tryd.underlying21
 a21 := Tryd.isAgg21
 z21 := Tryd.sizeOf21
 v21 := Tryd.zeroValue21
 t37 := Tryd.underlying89
 a37 := Tryd.isAgg89
 z37 := Tryd.sizeOf89
 v37 := Tryd.zeroValue89
 t46 := Tryd.underlying105
 a46 := Tryd.isAgg105
 z46 := Tryd.sizeOf105
 v46 := Tryd.zeroValue105
 t51 := Tryd.underlying125
 a51 := Tryd.isAgg125
 z51 := Tryd.sizeOf125
 v51 := Tryd.zeroValue125
 t53 := Tryd.underlying30
 a53 := Tryd.isAgg30
 z53 := Tryd.sizeOf30
 v53 := Tryd.zeroValue30
 t75 := Tryd.underlying73
 a75 := Tryd.isAgg73
 z75 := Tryd.sizeOf73
 v75 := Tryd.zeroValue73
 t76 := Tryd.underlying74
 a76 := Tryd.isAgg74
 z76 := Tryd.sizeOf74
 v76 := Tryd.zeroValue74
 t85 := Tryd.underlying98
 a85 := Tryd.isAgg98
 z85 := Tryd.sizeOf98
 v85 := Tryd.zeroValue98
 t127 := Tryd.underlying130
 a127 := Tryd.isAgg130
 z127 := Tryd.sizeOf130
 v127 := Tryd.zeroValue130
 t143 := Tryd.underlying131
 a143 := Tryd.isAgg131
 z143 := Tryd.sizeOf131
 v143 := Tryd.zeroValue131
 t145 := Tryd.underlying133
 a145 := Tryd.isAgg133
 z145 := Tryd.sizeOf133
 v145 := Tryd.zeroValue133
 t167 := Tryd.underlying97
 a167 := Tryd.isAgg97
 z167 := Tryd.sizeOf97
 v167 := Tryd.zeroValue97
 t168 := Tryd.underlying100
 a168 := Tryd.isAgg100
 z168 := Tryd.sizeOf100
 v168 := Tryd.zeroValue100
 t171 := Tryd.underlying109
 a171 := Tryd.isAgg109
 z171 := Tryd.sizeOf109
 v171 := Tryd.zeroValue109
 t173 := Tryd.underlying112
 a173 := Tryd.isAgg112
 z173 := Tryd.sizeOf112
 v173 := Tryd.zeroValue112
 t175 := Tryd.underlying114
 a175 := Tryd.isAgg114
 z175 := Tryd.sizeOf114
 v175 := Tryd.zeroValue114
 t210 := Tryd.underlying118
 a210 := Tryd.isAgg118
 z210 := Tryd.sizeOf118
 v210 := Tryd.zeroValue118
 t212 := Tryd.underlying124
 a212 := Tryd.isAgg124
 z212 := Tryd.sizeOf124
 v212 := Tryd.zeroValue124
 t213 := Tryd.underlying126
 a213 := Tryd.isAgg126
 z213 := Tryd.sizeOf126
 t232 := Tryd.underlying137
 a232 := Tryd.isAgg137
 z232 := Tryd.sizeOf137
 v232 := Tryd.zeroValue137
 t233 := Tryd.underlying138
 a233 := Tryd.isAgg138
 z233 := Tryd.sizeOf138
 v233 := Tryd.zeroValue138
 g15 := by kernel_rfl
 g16 := by kernel_rfl
 g17 := by kernel_rfl
 g18 := by kernel_rfl
 g19 := by kernel_rfl
 t80 := Tryd.underlying139
 a80 := Tryd.isAgg139
 z80 := Tryd.sizeOf139
 v80 := Tryd.zeroValue139
 i0 := by kernel_rfl
 i2 := by kernel_rfl
 i3 := by kernel_rfl
 i4 := by kernel_rfl
 i5 := by kernel_rfl
 i9 := by kernel_rfl
 i20 := by kernel_rfl
 i21 := by kernel_rfl
 i37 := by kernel_rfl
 i46 := by kernel_rfl
 i51 := by kernel_rfl
 i53 := by kernel_rfl
 i75 := by kernel_rfl
 i76 := by kernel_rfl
 i80 := by kernel_rfl
 i85 := by kernel_rfl
 i127 := by kernel_rfl
 i143 := by kernel_rfl
 i145 := by kernel_rfl
 i167 := by kernel_rfl
 i168 := by kernel_rfl
 i171 := by kernel_rfl
 i173 := by kernel_rfl
 i175 := by kernel_rfl
 i210 := by kernel_rfl
 i212 := by kernel_rfl
 i232 := by kernel_rfl
 i233 := by kernel_rfl
 m15 := by kernel_rfl
 m16 := by kernel_rfl
 m17 := by kernel_rfl
 m18 := by kernel_rfl
 m19 := by kernel_rfl
 c0 := by kernel_rfl
 c2 := by kernel_rfl
 c3 := by kernel_rfl
 c4 := by kernel_rfl
 c5 := by kernel_rfl
 c9 := by kernel_rfl
 c20 := by kernel_rfl
 c21 := by kernel_rfl
 c37 := by kernel_rfl
 c46 := by kernel_rfl
 c51 := by kernel_rfl
 c53 := by kernel_rfl
 c75 := by kernel_rfl
 c76 := by kernel_rfl
 c80 := by kernel_rfl
 c85 := by kernel_rfl
 c127 := by kernel_rfl
 c143 := by kernel_rfl
 c145 := by kernel_rfl
 c167 := by kernel_rfl
 c168 := by kernel_rfl
 c171 := by kernel_rfl
 c173 := by kernel_rfl
 c175 := by kernel_rfl
 c210 := by kernel_rfl
 c212 := by kernel_rfl
 c213 := by kernel_rfl
 c232 := by kernel_rfl
 c233 := by kernel_rfl
noncomputable def e_zbd : Entry := yhG 100
theorem X_zbd.ok : SoundE Tryd.prog gl 32 e_zbd := ylq (t1 := 131) (v1 := .rref (.str [105, 110, 118, 97, 108, 105, 100, 32, 115, 121, 110, 116, 97, 120])) (t2 := 131) (v2 := .rref (.str [118, 97, 108, 117, 101, 32, 111, 117, 116, 32, 111, 102, 32, 114, 97, 110, 103, 101])) lays_strconv_Atoi (by kernel_rfl) (by kernel_rfl) (by kernel_rfl) (by kernel_rfl) ⟨_, Tryd.func32, by kernel_rfl, by kernel_rfl⟩
noncomputable def e_zak : Entry := ⟨[none], false, fun args H K => match args, H with
 | [.str a0], [] => zak a0 (fun y0 y1 y2 => K (EV.tuple [EV.bool y0, EV.int IntKind.i64 y1, EV.int IntKind.i64 y2]) [])
 | _, _ => False⟩
noncomputable def l_zak : List (Nat × Entry) := [(7, e_zaj), (32, e_zbd)]
noncomputable def E_zak : Env := ⟨look tys, look l_zak, look [], gl, yaR [], false⟩
theorem X_zak.eq (a0 : List UInt8) (K : EV → yah → Prop) : yci E_zak Tryd.f9 false [.str a0] [] K = zak a0 (fun y0 y1 y2 => K (EV.tuple [EV.bool y0, EV.int IntKind.i64 y1, EV.int IntKind.i64 y2]) []) := by
 rw [zak.is]; exact (yar _ _ _ _ _ _).symm.trans (by kernel_rfl)
theorem X_zak.ok : SoundE Tryd.prog gl 9 e_zak := by
 refine ydp (E := E_zak) (fn := Tryd.f9) rfl tys_ok rfl (show ycF _ l_zak from ⟨X_zaj.ok, X_zbd.ok, trivial⟩) mixed (by kernel_rfl) (by kernel_rfl) (by kernel_rfl) 0 (by kernel_rfl) false trivial ?_
 intro args H
 by_cases hx : ∃ (a0 : List UInt8), args = [.str a0] ∧ H = []
 ·obtain ⟨a0, rfl, rfl⟩ := hx
  right; intro K
  exact iff_of_eq (X_zak.eq a0 K).symm
 ·left; intro K h
  simp only [e_zak] at h
  split at h
  ·exact hx ⟨_, rfl, rfl⟩
  ·exact h
noncomputable def e_zaf : Entry := ⟨[none], false, fun args H K => match args, H with
 | [.str a0], [] => zaf a0 (fun y0 y1 y2 => K (EV.tuple [EV.bool y0, EV.int IntKind.i64 y1, EV.int IntKind.i64 y2]) [])
 | _, _ => False⟩
noncomputable def l_zaf : List (Nat × Entry) := [(8, e_zae)]
noncomputable def E_zaf : Env := ⟨look tys, look l_zaf, look [(2, zaf.l2.entry)], gl, yaR [], false⟩
theorem zaf.l2X.stepEq (R : List EV → yah → Prop) (K : Ex → List EV → yah → Prop) (x0 : List UInt8) (x1 : Int) : ybl (yau E_zaf (ych Tryd.f10 0) { (LV.mk 0 [(0, 0)] 28 0 false) with nx := live (.loop (ych Tryd.f10 0)) (LV.mk 0 [(0, 0)] 28 0 false) }) (live (.loop (ych Tryd.f10 0)) (LV.mk 0 [(0, 0)] 28 0 false)) (LV.mk 0 [(0, 0)] 28 0 false) 0 32 R [EV.str x0, EV.int IntKind.i64 x1] [] K = zaf.l2.step (fun x0 x1 => R [EV.str x0, EV.int IntKind.i64 x1] []) (fun y0 y1 y2 => K .ret [EV.bool y0, EV.int IntKind.i64 y1, EV.int IntKind.i64 y2] []) (K (.exit 0) [] []) x0 x1 := (yke _ _ _ _ _ _ _ _ _ _ _).symm.trans (by kernel_rfl)
theorem zaf.l2X.eq (K : Ex → List EV → yah → Prop) : ∀ (n : Nat) (x0 : List UInt8) (x1 : Int), yki E_zaf (ych Tryd.f10 0) (LV.mk 0 [(0, 0)] 28 0 false) 0 32 K n [EV.str x0, EV.int IntKind.i64 x1] [] = zaf.l2 (fun y0 y1 y2 => K .ret [EV.bool y0, EV.int IntKind.i64 y1, EV.int IntKind.i64 y2] []) (K (.exit 0) [] []) n x0 x1
 | 0, _, _ => rfl
 | n + 1, x0, x1 => by
  have ih : (fun (x0 : List UInt8) (x1 : Int) => yki E_zaf (ych Tryd.f10 0) (LV.mk 0 [(0, 0)] 28 0 false) 0 32 K n [EV.str x0, EV.int IntKind.i64 x1] []) = zaf.l2 (fun y0 y1 y2 => K .ret [EV.bool y0, EV.int IntKind.i64 y1, EV.int IntKind.i64 y2] []) (K (.exit 0) [] []) n := by funext x0 x1; exact zaf.l2X.eq K n x0 x1
  show ybl _ _ _ _ _ (yki E_zaf (ych Tryd.f10 0) (LV.mk 0 [(0, 0)] 28 0 false) 0 32 K n) [EV.str x0, EV.int IntKind.i64 x1] [] K = zaf.l2.step (zaf.l2 (fun y0 y1 y2 => K .ret [EV.bool y0, EV.int IntKind.i64 y1, EV.int IntKind.i64 y2] []) (K (.exit 0) [] []) n) (fun y0 y1 y2 => K .ret [EV.bool y0, EV.int IntKind.i64 y1, EV.int IntKind.i64 y2] []) (K (.exit 0) [] []) x0 x1
  rw [← ih]
  exact zaf.l2X.stepEq _ K x0 x1
theorem zaf.l2X.ok : LoopEq E_zaf (ych Tryd.f10 0) := by
 intro L hL vs H
 have h1 : E_zaf.lp (yan (ych Tryd.f10 0)) = some zaf.l2.entry := by kernel_rfl
 have h2 : L = zaf.l2.entry := Option.some.inj (hL.symm.trans h1)
 subst h2
 by_cases hx : ∃ (x0 : List UInt8) (x1 : Int), vs = [EV.str x0, EV.int IntKind.i64 x1] ∧ H = []
 ·obtain ⟨x0, x1, rfl, rfl⟩ := hx
  right; intro K
  exact exists_congr fun n => iff_of_eq (zaf.l2X.eq K n x0 x1).symm
 ·left; intro K h
  simp only [zaf.l2.entry] at h
  split at h
  ·exact hx ⟨_, _, rfl, rfl⟩
  ·exact h
theorem X_zaf.eq (a0 : List UInt8) (K : EV → yah → Prop) : yci E_zaf Tryd.f10 false [.str a0] [] K = zaf a0 (fun y0 y1 y2 => K (EV.tuple [EV.bool y0, EV.int IntKind.i64 y1, EV.int IntKind.i64 y2]) []) := by
 rw [zaf.is]; exact (yar _ _ _ _ _ _).symm.trans (by kernel_rfl)
theorem X_zaf.ok : SoundE Tryd.prog gl 10 e_zaf := by
 refine ydp (E := E_zaf) (fn := Tryd.f10) rfl tys_ok rfl (show ycF _ l_zaf from ⟨X_zae.ok, trivial⟩) mixed (by kernel_rfl) (by kernel_rfl) (by kernel_rfl) 1 (by kernel_rfl) false ⟨zaf.l2X.ok, trivial⟩ ?_
 intro args H
 by_cases hx : ∃ (a0 : List UInt8), args = [.str a0] ∧ H = []
 ·obtain ⟨a0, rfl, rfl⟩ := hx
  right; intro K
  exact iff_of_eq (X_zaf.eq a0 K).symm
 ·left; intro K h
  simp only [e_zaf] at h
  split at h
  ·exact hx ⟨_, rfl, rfl⟩
  ·exact h
noncomputable def e_regs_Regs_none_0 : Entry := yj7 [none] true (.cons (.ptr 0) .nil) (.cons (.cons .bool (.cons (.arr .u64 32) (.cons (.cons (.cons (.int .u64) (.cons (.int .u64) .nil)) (.cons (.cons (.int .u64) (.cons (.int .u64) .nil)) (.cons (.cons (.int .u64) (.cons (.int .u64) .nil)) (.cons (.cons (.int .u64) (.cons (.int .u64) .nil)) (.cons (.cons (.int .u64) (.cons (.int .u64) .nil)) (.cons (.cons (.int .u64) (.cons (.int .u64) .nil)) (.cons (.cons (.int .u64) (.cons (.int .u64) .nil)) (.cons (.cons (.int .u64) (.cons (.int .u64) .nil)) (.cons (.cons (.int .u64) (.cons (.int .u64) .nil)) (.cons (.cons (.int .u64) (.cons (.int .u64) .nil)) (.cons (.cons (.int .u64) (.cons (.int .u64) .nil)) (.cons (.cons (.int .u64) (.cons (.int .u64) .nil)) (.cons (.cons (.int .u64) (.cons (.int .u64) .nil)) (.cons (.cons (.int .u64) (.cons (.int .u64) .nil)) (.cons (.cons (.int .u64) (.cons (.int .u64) .nil)) (.cons (.cons (.int .u64) (.cons (.int .u64) .nil)) (.cons (.cons (.int .u64) (.cons (.int .u64) .nil)) (.cons (.cons (.int .u64) (.cons (.int .u64) .nil)) (.cons (.cons (.int .u64) (.cons (.int .u64) .nil)) (.cons (.cons (.int .u64) (.cons (.int .u64) .nil)) (.cons (.cons (.int .u64) (.cons (.int .u64) .nil)) (.cons (.cons (.int .u64) (.cons (.int .u64) .nil)) (.cons (.cons (.int .u64) (.cons (.int .u64) .nil)) (.cons (.cons (.int .u64) (.cons (.int .u64) .nil)) (.cons (.cons (.int .u64) (.cons (.int .u64) .nil)) (.cons (.cons (.int .u64) (.cons (.int .u64) .nil)) (.cons (.cons (.int .u64) (.cons (.int .u64) .nil)) (.cons (.cons (.int .u64) (.cons (.int .u64) .nil)) (.cons (.cons (.int .u64) (.cons (.int .u64) .nil)) (.cons (.cons (.int .u64) (.cons (.int .u64) .nil)) (.cons (.cons (.int .u64) (.cons (.int .u64) .nil)) (.cons (.cons (.int .u64) (.cons (.int .u64) .nil)) .nil)))))))))))))))))))))))))))))))) .nil))) .nil) fun t u K => zax u.1.1 u.1.2.1 u.1.2.2.1.1.1 u.1.2.2.1.1.2.1 u.1.2.2.1.2.1.1 u.1.2.2.1.2.1.2.1 u.1.2.2.1.2.2.1.1 u.1.2.2.1.2.2.1.2.1 u.1.2.2.1.2.2.2.1.1 u.1.2.2.1.2.2.2.1.2.1 u.1.2.2.1.2.2.2.2.1.1 u.1.2.2.1.2.2.2.2.1.2.1 u.1.2.2.1.2.2.2.2.2.1.1 u.1.2.2.1.2.2.2.2.2.1.2.1 u.1.2.2.1.2.2.2.2.2.2.1.1 u.1.2.2.1.2.2.2.2.2.2.1.2.1 u.1.2.2.1.2.2.2.2.2.2.2.1.1 u.1.2.2.1.2.2.2.2.2.2.2.1.2.1 u.1.2.2.1.2.2.2.2.2.2.2.2.1.1 u.1.2.2.1.2.2.2.2.2.2.2.2.1.2.1 u.1.2.2.1.2.2.2.2.2.2.2.2.2.1.1 u.1.2.2.1.2.2.2.2.2.2.2.2.2.1.2.1 u.1.2.2.1.2.2.2.2.2.2.2.2.2.2.1.1 u.1.2.2.1.2.2.2.2.2.2.2.2.2.2.1.2.1 u.1.2.2.1.2.2.2.2.2.2.2.2.2.2.2.1.1 u.1.2.2.1.2.2.2.2.2.2.2.2.2.2.2.1.2.1 u.1.2.2.1.2.2.2.2.2.2.2.2.2.2.2.2.1.1 u.1.2.2.1.2.2.2.2.2.2.2.2.2.2.2.2.1.2.1 u.1.2.2.1.2.2.2.2.2.2.2.2.2.2.2.2.2.1.1 u.1.2.2.1.2.2.2.2.2.2.2.2.2.2.2.2.2.1.2.1 u.1.2.2.1.2.2.2.2.2.2.2.2.2.2.2.2.2.2.1.1 u.1.2.2.1.2.2.2.2.2.2.2.2.2.2.2.2.2.2.1.2.1 u.1.2.2.1.2.2.2.2.2.2.2.2.2.2.2.2.2.2.2.1.1 u.1.2.2.1.2.2.2.2.2.2.2.2.2.2.2.2.2.2.2.1.2.1 u.1.2.2.1.2.2.2.2.2.2.2.2.2.2.2.2.2.2.2.2.1.1 u.1.2.2.1.2.2.2.2.2.2.2.2.2.2.2.2.2.2.2.2.1.2.1 u.1.2.2.1.2.2.2.2.2.2.2.2.2.2.2.2.2.2.2.2.2.1.1 u.1.2.2.1.2.2.2.2.2.2.2.2.2.2.2.2.2.2.2.2.2.1.2.1 u.1.2.2.1.2.2.2.2.2.2.2.2.2.2.2.2.2.2.2.2.2.2.1.1 u.1.2.2.1.2.2.2.2.2.2.2.2.2.2.2.2.2.2.2.2.2.2.1.2.1 u.1.2.2.1.2.2.2.2.2.2.2.2.2.2.2.2.2.2.2.2.2.2.2.1.1 u.1.2.2.1.2.2.2.2.2.2.2.2.2.2.2.2.2.2.2.2.2.2.2.1.2.1 u.1.2.2.1.2.2.2.2.2.2.2.2.2.2.2.2.2.2.2.2.2.2.2.2.1.1 u.1.2.2.1.2.2.2.2.2.2.2.2.2.2.2.2.2.2.2.2.2.2.2.2.1.2.1 u.1.2.2.1.2.2.2.2.2.2.2.2.2.2.2.2.2.2.2.2.2.2.2.2.2.1.1 u.1.2.2.1.2.2.2.2.2.2.2.2.2.2.2.2.2.2.2.2.2.2.2.2.2.1.2.1 u.1.2.2.1.2.2.2.2.2.2.2.2.2.2.2.2.2.2.2.2.2.2.2.2.2.2.1.1 u.1.2.2.1.2.2.2.2.2.2.2.2.2.2.2.2.2.2.2.2.2.2.2.2.2.2.1.2.1 u.1.2.2.1.2.2.2.2.2.2.2.2.2.2.2.2.2.2.2.2.2.2.2.2.2.2.2.1.1 u.1.2.2.1.2.2.2.2.2.2.2.2.2.2.2.2.2.2.2.2.2.2.2.2.2.2.2.1.2.1 u.1.2.2.1.2.2.2.2.2.2.2.2.2.2.2.2.2.2.2.2.2.2.2.2.2.2.2.2.1.1 u.1.2.2.1.2.2.2.2.2.2.2.2.2.2.2.2.2.2.2.2.2.2.2.2.2.2.2.2.1.2.1 u.1.2.2.1.2.2.2.2.2.2.2.2.2.2.2.2.2.2.2.2.2.2.2.2.2.2.2.2.2.1.1 u.1.2.2.1.2.2.2.2.2.2.2.2.2.2.2.2.2.2.2.2.2.2.2.2.2.2.2.2.2.1.2.1 u.1.2.2.1.2.2.2.2.2.2.2.2.2.2.2.2.2.2.2.2.2.2.2.2.2.2.2.2.2.2.1.1 u.1.2.2.1.2.2.2.2.2.2.2.2.2.2.2.2.2.2.2.2.2.2.2.2.2.2.2.2.2.2.1.2.1 u.1.2.2.1.2.2.2.2.2.2.2.2.2.2.2.2.2.2.2.2.2.2.2.2.2.2.2.2.2.2.2.1.1 u.1.2.2.1.2.2.2.2.2.2.2.2.2.2.2.2.2.2.2.2.2.2.2.2.2.2.2.2.2.2.2.1.2.1 u.1.2.2.1.2.2.2.2.2.2.2.2.2.2.2.2.2.2.2.2.2.2.2.2.2.2.2.2.2.2.2.2.1.1 u.1.2.2.1.2.2.2.2.2.2.2.2.2.2.2.2.2.2.2.2.2.2.2.2.2.2.2.2.2.2.2.2.1.2.1 u.1.2.2.1.2.2.2.2.2.2.2.2.2.2.2.2.2.2.2.2.2.2.2.2.2.2.2.2.2.2.2.2.2.1.1 u.1.2.2.1.2.2.2.2.2.2.2.2.2.2.2.2.2.2.2.2.2.2.2.2.2.2.2.2.2.2.2.2.2.1.2.1 u.1.2.2.1.2.2.2.2.2.2.2.2.2.2.2.2.2.2.2.2.2.2.2.2.2.2.2.2.2.2.2.2.2.2.1.1 u.1.2.2.1.2.2.2.2.2.2.2.2.2.2.2.2.2.2.2.2.2.2.2.2.2.2.2.2.2.2.2.2.2.2.1.2.1 u.1.2.2.1.2.2.2.2.2.2.2.2.2.2.2.2.2.2.2.2.2.2.2.2.2.2.2.2.2.2.2.2.2.2.2.1.1 u.1.2.2.1.2.2.2.2.2.2.2.2.2.2.2.2.2.2.2.2.2.2.2.2.2.2.2.2.2.2.2.2.2.2.2.1.2.1 (fun y0 y1 y2 y3 y4 y5 y6 y7 y8 y9 y10 y11 y12 y13 y14 y15 y16 y17 y18 y19 y20 y21 y22 y23 y24 y25 y26 y27 y28 y29 y30 y31 y32 y33 y34 y35 y36 y37 y38 y39 y40 y41 y42 y43 y44 y45 y46 y47 y48 y49 y50 y51 y52 y53 y54 y55 y56 y57 y58 y59 y60 y61 y62 y63 y64 y65 y66 => K (EV.bool y0) [some (EV.agg [EV.bool y1, EV.arr IntKind.u64 32 y2, EV.agg [EV.agg [EV.int IntKind.u64 y3, EV.int IntKind.u64 y4], EV.agg [EV.int IntKind.u64 y5, EV.int IntKind.u64 y6], EV.agg [EV.int IntKind.u64 y7, EV.int IntKind.u64 y8], EV.agg [EV.int IntKind.u64 y9, EV.int IntKind.u64 y10], EV.agg [EV.int IntKind.u64 y11, EV.int IntKind.u64 y12], EV.agg [EV.int IntKind.u64 y13, EV.int IntKind.u64 y14], EV.agg [EV.int IntKind.u64 y15, EV.int IntKind.u64 y16], EV.agg [EV.int IntKind.u64 y17, EV.int IntKind.u64 y18], EV.agg [EV.int IntKind.u64 y19, EV.int IntKind.u64 y20], EV.agg [EV.int IntKind.u64 y21, EV.int IntKind.u64 y22], EV.agg [EV.int IntKind.u64 y23, EV.int IntKind.u64 y24], EV.agg [EV.int IntKind.u64 y25, EV.int IntKind.u64 y26], EV.agg [EV.int IntKind.u64 y27, EV.int IntKind.u64 y28], EV.agg [EV.int IntKind.u64 y29, EV.int IntKind.u64 y30], EV.agg [EV.int IntKind.u64 y31, EV.int IntKind.u64 y32], EV.agg [EV.int IntKind.u64 y33, EV.int IntKind.u64 y34], EV.agg [EV.int IntKind.u64 y35, EV.int IntKind.u64 y36], EV.agg [EV.int IntKind.u64 y37, EV.int IntKind.u64 y38], EV.agg [EV.int IntKind.u64 y39, EV.int IntKind.u64 y40], EV.agg [EV.int IntKind.u64 y41, EV.int IntKind.u64 y42], EV.agg [EV.int IntKind.u64 y43, EV.int IntKind.u64 y44], EV.agg [EV.int IntKind.u64 y45, EV.int IntKind.u64 y46], EV.agg [EV.int IntKind.u64 y47, EV.int IntKind.u64 y48], EV.agg [EV.int IntKind.u64 y49, EV.int IntKind.u64 y50], EV.agg [EV.int IntKind.u64 y51, EV.int IntKind.u64 y52], EV.agg [EV.int IntKind.u64 y53, EV.int IntKind.u64 y54], EV.agg [EV.int IntKind.u64 y55, EV.int IntKind.u64 y56], EV.agg [EV.int IntKind.u64 y57, EV.int IntKind.u64 y58], EV.agg [EV.int IntKind.u64 y59, EV.int IntKind.u64 y60], EV.agg [EV.int IntKind.u64 y61, EV.int IntKind.u64 y62], EV.agg [EV.int IntKind.u64 y63, EV.int IntKind.u64 y64], EV.agg [EV.int IntKind.u64 y65, EV.int IntKind.u64 y66]]])])
noncomputable def e_zay : Entry := ⟨[none], true, fun args H K => match args, H with
 | [.nilPtr], [] => zay  (fun y0 => K (EV.bool y0) [])
 | _, _ => False⟩
noncomputable def e_zax : Entry := Entry.pick (fun args H => match args, H with | [.ptr 0 []], _ => true | _, _ => false) e_regs_Regs_none_0 (e_zay)
noncomputable def E_regs_Regs_none_0 : Env := ⟨look tys, look [], look [], gl, yaR [], false⟩
theorem X_regs_Regs_none_0.eq (a0_0 : Bool) (a0_1 : Nat → Int) (a0_2_0_0 : Int) (a0_2_0_1 : Int) (a0_2_1_0 : Int) (a0_2_1_1 : Int) (a0_2_2_0 : Int) (a0_2_2_1 : Int) (a0_2_3_0 : Int) (a0_2_3_1 : Int) (a0_2_4_0 : Int) (a0_2_4_1 : Int) (a0_2_5_0 : Int) (a0_2_5_1 : Int) (a0_2_6_0 : Int) (a0_2_6_1 : Int) (a0_2_7_0 : Int) (a0_2_7_1 : Int) (a0_2_8_0 : Int) (a0_2_8_1 : Int) (a0_2_9_0 : Int) (a0_2_9_1 : Int) (a0_2_10_0 : Int) (a0_2_10_1 : Int) (a0_2_11_0 : Int) (a0_2_11_1 : Int) (a0_2_12_0 : Int) (a0_2_12_1 : Int) (a0_2_13_0 : Int) (a0_2_13_1 : Int) (a0_2_14_0 : Int) (a0_2_14_1 : Int) (a0_2_15_0 : Int) (a0_2_15_1 : Int) (a0_2_16_0 : Int) (a0_2_16_1 : Int) (a0_2_17_0 : Int) (a0_2_17_1 : Int) (a0_2_18_0 : Int) (a0_2_18_1 : Int) (a0_2_19_0 : Int) (a0_2_19_1 : Int) (a0_2_20_0 : Int) (a0_2_20_1 : Int) (a0_2_21_0 : Int) (a0_2_21_1 : Int) (a0_2_22_0 : Int) (a0_2_22_1 : Int) (a0_2_23_0 : Int) (a0_2_23_1 : Int) (a0_2_24_0 : Int) (a0_2_24_1 : Int) (a0_2_25_0 : Int) (a0_2_25_1 : Int) (a0_2_26_0 : Int) (a0_2_26_1 : Int) (a0_2_27_0 : Int) (a0_2_27_1 : Int) (a0_2_28_0 : Int) (a0_2_28_1 : Int) (a0_2_29_0 : Int) (a0_2_29_1 : Int) (a0_2_30_0 : Int) (a0_2_30_1 : Int) (a0_2_31_0 : Int) (a0_2_31_1 : Int) (K : EV → yah → Prop) : yci E_regs_Regs_none_0 Tryd.f33 false [.ptr 0 []] [some (.agg [.bool a0_0, .arr .u64 32 a0_1, .agg [.agg [.int .u64 a0_2_0_0, .int .u64 a0_2_0_1], .agg [.int .u64 a0_2_1_0, .int .u64 a0_2_1_1], .agg [.int .u64 a0_2_2_0, .int .u64 a0_2_2_1], .agg [.int .u64 a0_2_3_0, .int .u64 a0_2_3_1], .agg [.int .u64 a0_2_4_0, .int .u64 a0_2_4_1], .agg [.int .u64 a0_2_5_0, .int .u64 a0_2_5_1], .agg [.int .u64 a0_2_6_0, .int .u64 a0_2_6_1], .agg [.int .u64 a0_2_7_0, .int .u64 a0_2_7_1], .agg [.int .u64 a0_2_8_0, .int .u64 a0_2_8_1], .agg [.int .u64 a0_2_9_0, .int .u64 a0_2_9_1], .agg [.int .u64 a0_2_10_0, .int .u64 a0_2_10_1], .agg [.int .u64 a0_2_11_0, .int .u64 a0_2_11_1], .agg [.int .u64 a0_2_12_0, .int .u64 a0_2_12_1], .agg [.int .u64 a0_2_13_0, .int .u64 a0_2_13_1], .agg [.int .u64 a0_2_14_0, .int .u64 a0_2_14_1], .agg [.int .u64 a0_2_15_0, .int .u64 a0_2_15_1], .agg [.int .u64 a0_2_16_0, .int .u64 a0_2_16_1], .agg [.int .u64 a0_2_17_0, .int .u64 a0_2_17_1], .agg [.int .u64 a0_2_18_0, .int .u64 a0_2_18_1], .agg [.int .u64 a0_2_19_0, .int .u64 a0_2_19_1], .agg [.int .u64 a0_2_20_0, .int .u64 a0_2_20_1], .agg [.int .u64 a0_2_21_0, .int .u64 a0_2_21_1], .agg [.int .u64 a0_2_22_0, .int .u64 a0_2_22_1], .agg [.int .u64 a0_2_23_0, .int .u64 a0_2_23_1], .agg [.int .u64 a0_2_24_0, .int .u64 a0_2_24_1], .agg [.int .u64 a0_2_25_0, .int .u64 a0_2_25_1], .agg [.int .u64 a0_2_26_0, .int .u64 a0_2_26_1], .agg [.int .u64 a0_2_27_0, .int .u64 a0_2_27_1], .agg [.int .u64 a0_2_28_0, .int .u64 a0_2_28_1], .agg [.int .u64 a0_2_29_0, .int .u64 a0_2_29_1], .agg [.int .u64 a0_2_30_0, .int .u64 a0_2_30_1], .agg [.int .u64 a0_2_31_0, .int .u64 a0_2_31_1]]])] K = zax a0_0 a0_1 a0_2_0_0 a0_2_0_1 a0_2_1_0 a0_2_1_1 a0_2_2_0 a0_2_2_1 a0_2_3_0 a0_2_3_1 a0_2_4_0 a0_2_4_1 a0_2_5_0 a0_2_5_1 a0_2_6_0 a0_2_6_1 a0_2_7_0 a0_2_7_1 a0_2_8_0 a0_2_8_1 a0_2_9_0 a0_2_9_1 a0_2_10_0 a0_2_10_1 a0_2_11_0 a0_2_11_1 a0_2_12_0 a0_2_12_1 a0_2_13_0 a0_2_13_1 a0_2_14_0 a0_2_14_1 a0_2_15_0 a0_2_15_1 a0_2_16_0 a0_2_16_1 a0_2_17_0 a0_2_17_1 a0_2_18_0 a0_2_18_1 a0_2_19_0 a0_2_19_1 a0_2_20_0 a0_2_20_1 a0_2_21_0 a0_2_21_1 a0_2_22_0 a0_2_22_1 a0_2_23_0 a0_2_23_1 a0_2_24_0 a0_2_24_1 a0_2_25_0 a0_2_25_1 a0_2_26_0 a0_2_26_1 a0_2_27_0 a0_2_27_1 a0_2_28_0 a0_2_28_1 a0_2_29_0 a0_2_29_1 a0_2_30_0 a0_2_30_1 a0_2_31_0 a0_2_31_1 (fun y0 y1 y2 y3 y4 y5 y6 y7 y8 y9 y10 y11 y12 y13 y14 y15 y16 y17 y18 y19 y20 y21 y22 y23 y24 y25 y26 y27 y28 y29 y30 y31 y32 y33 y34 y35 y36 y37 y38 y39 y40 y41 y42 y43 y44 y45 y46 y47 y48 y49 y50 y51 y52 y53 y54 y55 y56 y57 y58 y59 y60 y61 y62 y63 y64 y65 y66 => K (EV.bool y0) [some (EV.agg [EV.bool y1, EV.arr IntKind.u64 32 y2, EV.agg [EV.agg [EV.int IntKind.u64 y3, EV.int IntKind.u64 y4], EV.agg [EV.int IntKind.u64 y5, EV.int IntKind.u64 y6], EV.agg [EV.int IntKind.u64 y7, EV.int IntKind.u64 y8], EV.agg [EV.int IntKind.u64 y9, EV.int IntKind.u64 y10], EV.agg [EV.int IntKind.u64 y11, EV.int IntKind.u64 y12], EV.agg [EV.int IntKind.u64 y13, EV.int IntKind.u64 y14], EV.agg [EV.int IntKind.u64 y15, EV.int IntKind.u64 y16], EV.agg [EV.int IntKind.u64 y17, EV.int IntKind.u64 y18], EV.agg [EV.int IntKind.u64 y19, EV.int IntKind.u64 y20], EV.agg [EV.int IntKind.u64 y21, EV.int IntKind.u64 y22], EV.agg [EV.int IntKind.u64 y23, EV.int IntKind.u64 y24], EV.agg [EV.int IntKind.u64 y25, EV.int IntKind.u64 y26], EV.agg [EV.int IntKind.u64 y27, EV.int IntKind.u64 y28], EV.agg [EV.int IntKind.u64 y29, EV.int IntKind.u64 y30], EV.agg [EV.int IntKind.u64 y31, EV.int IntKind.u64 y32], EV.agg [EV.int IntKind.u64 y33, EV.int IntKind.u64 y34], EV.agg [EV.int IntKind.u64 y35, EV.int IntKind.u64 y36], EV.agg [EV.int IntKind.u64 y37, EV.int IntKind.u64 y38], EV.agg [EV.int IntKind.u64 y39, EV.int IntKind.u64 y40], EV.agg [EV.int IntKind.u64 y41, EV.int IntKind.u64 y42], EV.agg [EV.int IntKind.u64 y43, EV.int IntKind.u64 y44], EV.agg [EV.int IntKind.u64 y45, EV.int IntKind.u64 y46], EV.agg [EV.int IntKind.u64 y47, EV.int IntKind.u64 y48], EV.agg [EV.int IntKind.u64 y49, EV.int IntKind.u64 y50], EV.agg [EV.int IntKind.u64 y51, EV.int IntKind.u64 y52], EV.agg [EV.int IntKind.u64 y53, EV.int IntKind.u64 y54], EV.agg [EV.int IntKind.u64 y55, EV.int IntKind.u64 y56], EV.agg [EV.int IntKind.u64 y57, EV.int IntKind.u64 y58], EV.agg [EV.int IntKind.u64 y59, EV.int IntKind.u64 y60], EV.agg [EV.int IntKind.u64 y61, EV.int IntKind.u64 y62], EV.agg [EV.int IntKind.u64 y63, EV.int IntKind.u64 y64], EV.agg [EV.int IntKind.u64 y65, EV.int IntKind.u64 y66]]])]) := by
 rw [zax.is]; exact (yar _ _ _ _ _ _).symm.trans (by kernel_rfl)
theorem X_regs_Regs_none_0.ok : SoundE Tryd.prog gl 33 e_regs_Regs_none_0 := by
 refine ydp (E := E_regs_Regs_none_0) (fn := Tryd.f33) rfl tys_ok rfl (show ycF _ [] from trivial) mixed (by kernel_rfl) (by kernel_rfl) (by kernel_rfl) 0 (by kernel_rfl) false trivial ?_
 exact yk5 rfl fun t u K => X_regs_Regs_none_0.eq u.1.1 u.1.2.1 u.1.2.2.1.1.1 u.1.2.2.1.1.2.1 u.1.2.2.1.2.1.1 u.1.2.2.1.2.1.2.1 u.1.2.2.1.2.2.1.1 u.1.2.2.1.2.2.1.2.1 u.1.2.2.1.2.2.2.1.1 u.1.2.2.1.2.2.2.1.2.1 u.1.2.2.1.2.2.2.2.1.1 u.1.2.2.1.2.2.2.2.1.2.1 u.1.2.2.1.2.2.2.2.2.1.1 u.1.2.2.1.2.2.2.2.2.1.2.1 u.1.2.2.1.2.2.2.2.2.2.1.1 u.1.2.2.1.2.2.2.2.2.2.1.2.1 u.1.2.2.1.2.2.2.2.2.2.2.1.1 u.1.2.2.1.2.2.2.2.2.2.2.1.2.1 u.1.2.2.1.2.2.2.2.2.2.2.2.1.1 u.1.2.2.1.2.2.2.2.2.2.2.2.1.2.1 u.1.2.2.1.2.2.2.2.2.2.2.2.2.1.1 u.1.2.2.1.2.2.2.2.2.2.2.2.2.1.2.1 u.1.2.2.1.2.2.2.2.2.2.2.2.2.2.1.1 u.1.2.2.1.2.2.2.2.2.2.2.2.2.2.1.2.1 u.1.2.2.1.2.2.2.2.2.2.2.2.2.2.2.1.1 u.1.2.2.1.2.2.2.2.2.2.2.2.2.2.2.1.2.1 u.1.2.2.1.2.2.2.2.2.2.2.2.2.2.2.2.1.1 u.1.2.2.1.2.2.2.2.2.2.2.2.2.2.2.2.1.2.1 u.1.2.2.1.2.2.2.2.2.2.2.2.2.2.2.2.2.1.1 u.1.2.2.1.2.2.2.2.2.2.2.2.2.2.2.2.2.1.2.1 u.1.2.2.1.2.2.2.2.2.2.2.2.2.2.2.2.2.2.1.1 u.1.2.2.1.2.2.2.2.2.2.2.2.2.2.2.2.2.2.1.2.1 u.1.2.2.1.2.2.2.2.2.2.2.2.2.2.2.2.2.2.2.1.1 u.1.2.2.1.2.2.2.2.2.2.2.2.2.2.2.2.2.2.2.1.2.1 u.1.2.2.1.2.2.2.2.2.2.2.2.2.2.2.2.2.2.2.2.1.1 u.1.2.2.1.2.2.2.2.2.2.2.2.2.2.2.2.2.2.2.2.1.2.1 u.1.2.2.1.2.2.2.2.2.2.2.2.2.2.2.2.2.2.2.2.2.1.1 u.1.2.2.1.2.2.2.2.2.2.2.2.2.2.2.2.2.2.2.2.2.1.2.1 u.1.2.2.1.2.2.2.2.2.2.2.2.2.2.2.2.2.2.2.2.2.2.1.1 u.1.2.2.1.2.2.2.2.2.2.2.2.2.2.2.2.2.2.2.2.2.2.1.2.1 u.1.2.2.1.2.2.2.2.2.2.2.2.2.2.2.2.2.2.2.2.2.2.2.1.1 u.1.2.2.1.2.2.2.2.2.2.2.2.2.2.2.2.2.2.2.2.2.2.2.1.2.1 u.1.2.2.1.2.2.2.2.2.2.2.2.2.2.2.2.2.2.2.2.2.2.2.2.1.1 u.1.2.2.1.2.2.2.2.2.2.2.2.2.2.2.2.2.2.2.2.2.2.2.2.1.2.1 u.1.2.2.1.2.2.2.2.2.2.2.2.2.2.2.2.2.2.2.2.2.2.2.2.2.1.1 u.1.2.2.1.2.2.2.2.2.2.2.2.2.2.2.2.2.2.2.2.2.2.2.2.2.1.2.1 u.1.2.2.1.2.2.2.2.2.2.2.2.2.2.2.2.2.2.2.2.2.2.2.2.2.2.1.1 u.1.2.2.1.2.2.2.2.2.2.2.2.2.2.2.2.2.2.2.2.2.2.2.2.2.2.1.2.1 u.1.2.2.1.2.2.2.2.2.2.2.2.2.2.2.2.2.2.2.2.2.2.2.2.2.2.2.1.1 u.1.2.2.1.2.2.2.2.2.2.2.2.2.2.2.2.2.2.2.2.2.2.2.2.2.2.2.1.2.1 u.1.2.2.1.2.2.2.2.2.2.2.2.2.2.2.2.2.2.2.2.2.2.2.2.2.2.2.2.1.1 u.1.2.2.1.2.2.2.2.2.2.2.2.2.2.2.2.2.2.2.2.2.2.2.2.2.2.2.2.1.2.1 u.1.2.2.1.2.2.2.2.2.2.2.2.2.2.2.2.2.2.2.2.2.2.2.2.2.2.2.2.2.1.1 u.1.2.2.1.2.2.2.2.2.2.2.2.2.2.2.2.2.2.2.2.2.2.2.2.2.2.2.2.2.1.2.1 u.1.2.2.1.2.2.2.2.2.2.2.2.2.2.2.2.2.2.2.2.2.2.2.2.2.2.2.2.2.2.1.1 u.1.2.2.1.2.2.2.2.2.2.2.2.2.2.2.2.2.2.2.2.2.2.2.2.2.2.2.2.2.2.1.2.1 u.1.2.2.1.2.2.2.2.2.2.2.2.2.2.2.2.2.2.2.2.2.2.2.2.2.2.2.2.2.2.2.1.1 u.1.2.2.1.2.2.2.2.2.2.2.2.2.2.2.2.2.2.2.2.2.2.2.2.2.2.2.2.2.2.2.1.2.1 u.1.2.2.1.2.2.2.2.2.2.2.2.2.2.2.2.2.2.2.2.2.2.2.2.2.2.2.2.2.2.2.2.1.1 u.1.2.2.1.2.2.2.2.2.2.2.2.2.2.2.2.2.2.2.2.2.2.2.2.2.2.2.2.2.2.2.2.1.2.1 u.1.2.2.1.2.2.2.2.2.2.2.2.2.2.2.2.2.2.2.2.2.2.2.2.2.2.2.2.2.2.2.2.2.1.1 u.1.2.2.1.2.2.2.2.2.2.2.2.2.2.2.2.2.2.2.2.2.2.2.2.2.2.2.2.2.2.2.2.2.1.2.1 u.1.2.2.1.2.2.2.2.2.2.2.2.2.2.2.2.2.2.2.2.2.2.2.2.2.2.2.2.2.2.2.2.2.2.1.1 u.1.2.2.1.2.2.2.2.2.2.2.2.2.2.2.2.2.2.2.2.2.2.2.2.2.2.2.2.2.2.2.2.2.2.1.2.1 u.1.2.2.1.2.2.2.2.2.2.2.2.2.2.2.2.2.2.2.2.2.2.2.2.2.2.2.2.2.2.2.2.2.2.2.1.1 u.1.2.2.1.2.2.2.2.2.2.2.2.2.2.2.2.2.2.2.2.2.2.2.2.2.2.2.2.2.2.2.2.2.2.2.1.2.1 K
noncomputable def E_zay : Env := ⟨look tys, look [], look [], gl, yaR [], false⟩
theorem X_zay.eq (K : EV → yah → Prop) : yci E_zay Tryd.f33 false [.nilPtr] [] K = zay  (fun y0 => K (EV.bool y0) []) := by
 rw [zay.is]; exact (yar _ _ _ _ _ _).symm.trans (by kernel_rfl)
theorem X_zay.ok : SoundE Tryd.prog gl 33 e_zay := by
 refine ydp (E := E_zay) (fn := Tryd.f33) rfl tys_ok rfl (show ycF _ [] from trivial) mixed (by kernel_rfl) (by kernel_rfl) (by kernel_rfl) 0 (by kernel_rfl) false trivial ?_
 intro args H
 by_cases hx : args = [.nilPtr] ∧ H = []
 ·obtain ⟨rfl, rfl⟩ := hx
  right; intro K
  exact iff_of_eq (X_zay.eq  K).symm
 ·left; intro K h
  simp only [e_zay] at h
  split at h
  ·exact hx ⟨rfl, rfl⟩
  ·exact h
theorem X_zax.ok : SoundE Tryd.prog gl 33 e_zax := SoundE.pick X_regs_Regs_none_0.ok (X_zay.ok)
noncomputable def e_zaz : Entry := yj7 [none, none] true (.cons (.ptr 0) (.cons (.int .i64) .nil)) (.cons (.cons .bool (.cons (.arr .u64 32) (.cons (.cons (.cons (.int .u64) (.cons (.int .u64) .nil)) (.cons (.cons (.int .u64) (.cons (.int .u64) .nil)) (.cons (.cons (.int .u64) (.cons (.int .u64) .nil)) (.cons (.cons (.int .u64) (.cons (.int .u64) .nil)) (.cons (.cons (.int .u64) (.cons (.int .u64) .nil)) (.cons (.cons (.int .u64) (.cons (.int .u64) .nil)) (.cons (.cons (.int .u64) (.cons (.int .u64) .nil)) (.cons (.cons (.int .u64) (.cons (.int .u64) .nil)) (.cons (.cons (.int .u64) (.cons (.int .u64) .nil)) (.cons (.cons (.int .u64) (.cons (.int .u64) .nil)) (.cons (.cons (.int .u64) (.cons (.int .u64) .nil)) (.cons (.cons (.int .u64) (.cons (.int .u64) .nil)) (.cons (.cons (.int .u64) (.cons (.int .u64) .nil)) (.cons (.cons (.int .u64) (.cons (.int .u64) .nil)) (.cons (.cons (.int .u64) (.cons (.int .u64) .nil)) (.cons (.cons (.int .u64) (.cons (.int .u64) .nil)) (.cons (.cons (.int .u64) (.cons (.int .u64) .nil)) (.cons (.cons (.int .u64) (.cons (.int .u64) .nil)) (.cons (.cons (.int .u64) (.cons (.int .u64) .nil)) (.cons (.cons (.int .u64) (.cons (.int .u64) .nil)) (.cons (.cons (.int .u64) (.cons (.int .u64) .nil)) (.cons (.cons (.int .u64) (.cons (.int .u64) .nil)) (.cons (.cons (.int .u64) (.cons (.int .u64) .nil)) (.cons (.cons (.int .u64) (.cons (.int .u64) .nil)) (.cons (.cons (.int .u64) (.cons (.int .u64) .nil)) (.cons (.cons (.int .u64) (.cons (.int .u64) .nil)) (.cons (.cons (.int .u64) (.cons (.int .u64) .nil)) (.cons (.cons (.int .u64) (.cons (.int .u64) .nil)) (.cons (.cons (.int .u64) (.cons (.int .u64) .nil)) (.cons (.cons (.int .u64) (.cons (.int .u64) .nil)) (.cons (.cons (.int .u64) (.cons (.int .u64) .nil)) (.cons (.cons (.int .u64) (.cons (.int .u64) .nil)) .nil)))))))))))))))))))))))))))))))) .nil))) .nil) fun t u K => zaz u.1.1 u.1.2.1 u.1.2.2.1.1.1 u.1.2.2.1.1.2.1 u.1.2.2.1.2.1.1 u.1.2.2.1.2.1.2.1 u.1.2.2.1.2.2.1.1 u.1.2.2.1.2.2.1.2.1 u.1.2.2.1.2.2.2.1.1 u.1.2.2.1.2.2.2.1.2.1 u.1.2.2.1.2.2.2.2.1.1 u.1.2.2.1.2.2.2.2.1.2.1 u.1.2.2.1.2.2.2.2.2.1.1 u.1.2.2.1.2.2.2.2.2.1.2.1 u.1.2.2.1.2.2.2.2.2.2.1.1 u.1.2.2.1.2.2.2.2.2.2.1.2.1 u.1.2.2.1.2.2.2.2.2.2.2.1.1 u.1.2.2.1.2.2.2.2.2.2.2.1.2.1 u.1.2.2.1.2.2.2.2.2.2.2.2.1.1 u.1.2.2.1.2.2.2.2.2.2.2.2.1.2.1 u.1.2.2.1.2.2.2.2.2.2.2.2.2.1.1 u.1.2.2.1.2.2.2.2.2.2.2.2.2.1.2.1 u.1.2.2.1.2.2.2.2.2.2.2.2.2.2.1.1 u.1.2.2.1.2.2.2.2.2.2.2.2.2.2.1.2.1 u.1.2.2.1.2.2.2.2.2.2.2.2.2.2.2.1.1 u.1.2.2.1.2.2.2.2.2.2.2.2.2.2.2.1.2.1 u.1.2.2.1.2.2.2.2.2.2.2.2.2.2.2.2.1.1 u.1.2.2.1.2.2.2.2.2.2.2.2.2.2.2.2.1.2.1 u.1.2.2.1.2.2.2.2.2.2.2.2.2.2.2.2.2.1.1 u.1.2.2.1.2.2.2.2.2.2.2.2.2.2.2.2.2.1.2.1 u.1.2.2.1.2.2.2.2.2.2.2.2.2.2.2.2.2.2.1.1 u.1.2.2.1.2.2.2.2.2.2.2.2.2.2.2.2.2.2.1.2.1 u.1.2.2.1.2.2.2.2.2.2.2.2.2.2.2.2.2.2.2.1.1 u.1.2.2.1.2.2.2.2.2.2.2.2.2.2.2.2.2.2.2.1.2.1 u.1.2.2.1.2.2.2.2.2.2.2.2.2.2.2.2.2.2.2.2.1.1 u.1.2.2.1.2.2.2.2.2.2.2.2.2.2.2.2.2.2.2.2.1.2.1 u.1.2.2.1.2.2.2.2.2.2.2.2.2.2.2.2.2.2.2.2.2.1.1 u.1.2.2.1.2.2.2.2.2.2.2.2.2.2.2.2.2.2.2.2.2.1.2.1 u.1.2.2.1.2.2.2.2.2.2.2.2.2.2.2.2.2.2.2.2.2.2.1.1 u.1.2.2.1.2.2.2.2.2.2.2.2.2.2.2.2.2.2.2.2.2.2.1.2.1 u.1.2.2.1.2.2.2.2.2.2.2.2.2.2.2.2.2.2.2.2.2.2.2.1.1 u.1.2.2.1.2.2.2.2.2.2.2.2.2.2.2.2.2.2.2.2.2.2.2.1.2.1 u.1.2.2.1.2.2.2.2.2.2.2.2.2.2.2.2.2.2.2.2.2.2.2.2.1.1 u.1.2.2.1.2.2.2.2.2.2.2.2.2.2.2.2.2.2.2.2.2.2.2.2.1.2.1 u.1.2.2.1.2.2.2.2.2.2.2.2.2.2.2.2.2.2.2.2.2.2.2.2.2.1.1 u.1.2.2.1.2.2.2.2.2.2.2.2.2.2.2.2.2.2.2.2.2.2.2.2.2.1.2.1 u.1.2.2.1.2.2.2.2.2.2.2.2.2.2.2.2.2.2.2.2.2.2.2.2.2.2.1.1 u.1.2.2.1.2.2.2.2.2.2.2.2.2.2.2.2.2.2.2.2.2.2.2.2.2.2.1.2.1 u.1.2.2.1.2.2.2.2.2.2.2.2.2.2.2.2.2.2.2.2.2.2.2.2.2.2.2.1.1 u.1.2.2.1.2.2.2.2.2.2.2.2.2.2.2.2.2.2.2.2.2.2.2.2.2.2.2.1.2.1 u.1.2.2.1.2.2.2.2.2.2.2.2.2.2.2.2.2.2.2.2.2.2.2.2.2.2.2.2.1.1 u.1.2.2.1.2.2.2.2.2.2.2.2.2.2.2.2.2.2.2.2.2.2.2.2.2.2.2.2.1.2.1 u.1.2.2.1.2.2.2.2.2.2.2.2.2.2.2.2.2.2.2.2.2.2.2.2.2.2.2.2.2.1.1 u.1.2.2.1.2.2.2.2.2.2.2.2.2.2.2.2.2.2.2.2.2.2.2.2.2.2.2.2.2.1.2.1 u.1.2.2.1.2.2.2.2.2.2.2.2.2.2.2.2.2.2.2.2.2.2.2.2.2.2.2.2.2.2.1.1 u.1.2.2.1.2.2.2.2.2.2.2.2.2.2.2.2.2.2.2.2.2.2.2.2.2.2.2.2.2.2.1.2.1 u.1.2.2.1.2.2.2.2.2.2.2.2.2.2.2.2.2.2.2.2.2.2.2.2.2.2.2.2.2.2.2.1.1 u.1.2.2.1.2.2.2.2.2.2.2.2.2.2.2.2.2.2.2.2.2.2.2.2.2.2.2.2.2.2.2.1.2.1 u.1.2.2.1.2.2.2.2.2.2.2.2.2.2.2.2.2.2.2.2.2.2.2.2.2.2.2.2.2.2.2.2.1.1 u.1.2.2.1.2.2.2.2.2.2.2.2.2.2.2.2.2.2.2.2.2.2.2.2.2.2.2.2.2.2.2.2.1.2.1 u.1.2.2.1.2.2.2.2.2.2.2.2.2.2.2.2.2.2.2.2.2.2.2.2.2.2.2.2.2.2.2.2.2.1.1 u.1.2.2.1.2.2.2.2.2.2.2.2.2.2.2.2.2.2.2.2.2.2.2.2.2.2.2.2.2.2.2.2.2.1.2.1 u.1.2.2.1.2.2.2.2.2.2.2.2.2.2.2.2.2.2.2.2.2.2.2.2.2.2.2.2.2.2.2.2.2.2.1.1 u.1.2.2.1.2.2.2.2.2.2.2.2.2.2.2.2.2.2.2.2.2.2.2.2.2.2.2.2.2.2.2.2.2.2.1.2.1 u.1.2.2.1.2.2.2.2.2.2.2.2.2.2.2.2.2.2.2.2.2.2.2.2.2.2.2.2.2.2.2.2.2.2.2.1.1 u.1.2.2.1.2.2.2.2.2.2.2.2.2.2.2.2.2.2.2.2.2.2.2.2.2.2.2.2.2.2.2.2.2.2.2.1.2.1 t.2.1 (fun y0 y1 y2 y3 y4 y5 y6 y7 y8 y9 y10 y11 y12 y13 y14 y15 y16 y17 y18 y19 y20 y21 y22 y23 y24 y25 y26 y27 y28 y29 y30 y31 y32 y33 y34 y35 y36 y37 y38 y39 y40 y41 y42 y43 y44 y45 y46 y47 y48 y49 y50 y51 y52 y53 y54 y55 y56 y57 y58 y59 y60 y61 y62 y63 y64 y65 => K (EV.nilPtr) [some (EV.agg [EV.bool y0, EV.arr IntKind.u64 32 y1, EV.agg [EV.agg [EV.int IntKind.u64 y2, EV.int IntKind.u64 y3], EV.agg [EV.int IntKind.u64 y4, EV.int IntKind.u64 y5], EV.agg [EV.int IntKind.u64 y6, EV.int IntKind.u64 y7], EV.agg [EV.int IntKind.u64 y8, EV.int IntKind.u64 y9], EV.agg [EV.int IntKind.u64 y10, EV.int IntKind.u64 y11], EV.agg [EV.int IntKind.u64 y12, EV.int IntKind.u64 y13], EV.agg [EV.int IntKind.u64 y14, EV.int IntKind.u64 y15], EV.agg [EV.int IntKind.u64 y16, EV.int IntKind.u64 y17], EV.agg [EV.int IntKind.u64 y18, EV.int IntKind.u64 y19], EV.agg [EV.int IntKind.u64 y20, EV.int IntKind.u64 y21], EV.agg [EV.int IntKind.u64 y22, EV.int IntKind.u64 y23], EV.agg [EV.int IntKind.u64 y24, EV.int IntKind.u64 y25], EV.agg [EV.int IntKind.u64 y26, EV.int IntKind.u64 y27], EV.agg [EV.int IntKind.u64 y28, EV.int IntKind.u64 y29], EV.agg [EV.int IntKind.u64 y30, EV.int IntKind.u64 y31], EV.agg [EV.int IntKind.u64 y32, EV.int IntKind.u64 y33], EV.agg [EV.int IntKind.u64 y34, EV.int IntKind.u64 y35], EV.agg [EV.int IntKind.u64 y36, EV.int IntKind.u64 y37], EV.agg [EV.int IntKind.u64 y38, EV.int IntKind.u64 y39], EV.agg [EV.int IntKind.u64 y40, EV.int IntKind.u64 y41], EV.agg [EV.int IntKind.u64 y42, EV.int IntKind.u64 y43], EV.agg [EV.int IntKind.u64 y44, EV.int IntKind.u64 y45], EV.agg [EV.int IntKind.u64 y46, EV.int IntKind.u64 y47], EV.agg [EV.int IntKind.u64 y48, EV.int IntKind.u64 y49], EV.agg [EV.int IntKind.u64 y50, EV.int IntKind.u64 y51], EV.agg [EV.int IntKind.u64 y52, EV.int IntKind.u64 y53], EV.agg [EV.int IntKind.u64 y54, EV.int IntKind.u64 y55], EV.agg [EV.int IntKind.u64 y56, EV.int IntKind.u64 y57], EV.agg [EV.int IntKind.u64 y58, EV.int IntKind.u64 y59], EV.agg [EV.int IntKind.u64 y60, EV.int IntKind.u64 y61], EV.agg [EV.int IntKind.u64 y62, EV.int IntKind.u64 y63], EV.agg [EV.int IntKind.u64 y64, EV.int IntKind.u64 y65]]])]) (fun y0 y1 y2 y3 y4 y5 y6 y7 y8 y9 y10 y11 y12 y13 y14 y15 y16 y17 y18 y19 y20 y21 y22 y23 y24 y25 y26 y27 y28 y29 y30 y31 y32 y33 y34 y35 y36 y37 y38 y39 y40 y41 y42 y43 y44 y45 y46 y47 y48 y49 y50 y51 y52 y53 y54 y55 y56 y57 y58 y59 y60 y61 y62 y63 y64 y65 y66 => K (EV.ptr 0 [1, y0]) [some (EV.agg [EV.bool y1, EV.arr IntKind.u64 32 y2, EV.agg [EV.agg [EV.int IntKind.u64 y3, EV.int IntKind.u64 y4], EV.agg [EV.int IntKind.u64 y5, EV.int IntKind.u64 y6], EV.agg [EV.int IntKind.u64 y7, EV.int IntKind.u64 y8], EV.agg [EV.int IntKind.u64 y9, EV.int IntKind.u64 y10], EV.agg [EV.int IntKind.u64 y11, EV.int IntKind.u64 y12], EV.agg [EV.int IntKind.u64 y13, EV.int IntKind.u64 y14], EV.agg [EV.int IntKind.u64 y15, EV.int IntKind.u64 y16], EV.agg [EV.int IntKind.u64 y17, EV.int IntKind.u64 y18], EV.agg [EV.int IntKind.u64 y19, EV.int IntKind.u64 y20], EV.agg [EV.int IntKind.u64 y21, EV.int IntKind.u64 y22], EV.agg [EV.int IntKind.u64 y23, EV.int IntKind.u64 y24], EV.agg [EV.int IntKind.u64 y25, EV.int IntKind.u64 y26], EV.agg [EV.int IntKind.u64 y27, EV.int IntKind.u64 y28], EV.agg [EV.int IntKind.u64 y29, EV.int IntKind.u64 y30], EV.agg [EV.int IntKind.u64 y31, EV.int IntKind.u64 y32], EV.agg [EV.int IntKind.u64 y33, EV.int IntKind.u64 y34], EV.agg [EV.int IntKind.u64 y35, EV.int IntKind.u64 y36], EV.agg [EV.int IntKind.u64 y37, EV.int IntKind.u64 y38], EV.agg [EV.int IntKind.u64 y39, EV.int IntKind.u64 y40], EV.agg [EV.int IntKind.u64 y41, EV.int IntKind.u64 y42], EV.agg [EV.int IntKind.u64 y43, EV.int IntKind.u64 y44], EV.agg [EV.int IntKind.u64 y45, EV.int IntKind.u64 y46], EV.agg [EV.int IntKind.u64 y47, EV.int IntKind.u64 y48], EV.agg [EV.int IntKind.u64 y49, EV.int IntKind.u64 y50], EV.agg [EV.int IntKind.u64 y51, EV.int IntKind.u64 y52], EV.agg [EV.int IntKind.u64 y53, EV.int IntKind.u64 y54], EV.agg [EV.int IntKind.u64 y55, EV.int IntKind.u64 y56], EV.agg [EV.int IntKind.u64 y57, EV.int IntKind.u64 y58], EV.agg [EV.int IntKind.u64 y59, EV.int IntKind.u64 y60], EV.agg [EV.int IntKind.u64 y61, EV.int IntKind.u64 y62], EV.agg [EV.int IntKind.u64 y63, EV.int IntKind.u64 y64], EV.agg [EV.int IntKind.u64 y65, EV.int IntKind.u64 y66]]])])
noncomputable def E_zaz : Env := ⟨look tys, look [], look [], gl, yaR [], false⟩
theorem X_zaz.eq (a0_0 : Bool) (a0_1 : Nat → Int) (a0_2_0_0 : Int) (a0_2_0_1 : Int) (a0_2_1_0 : Int) (a0_2_1_1 : Int) (a0_2_2_0 : Int) (a0_2_2_1 : Int) (a0_2_3_0 : Int) (a0_2_3_1 : Int) (a0_2_4_0 : Int) (a0_2_4_1 : Int) (a0_2_5_0 : Int) (a0_2_5_1 : Int) (a0_2_6_0 : Int) (a0_2_6_1 : Int) (a0_2_7_0 : Int) (a0_2_7_1 : Int) (a0_2_8_0 : Int) (a0_2_8_1 : Int) (a0_2_9_0 : Int) (a0_2_9_1 : Int) (a0_2_10_0 : Int) (a0_2_10_1 : Int) (a0_2_11_0 : Int) (a0_2_11_1 : Int) (a0_2_12_0 : Int) (a0_2_12_1 : Int) (a0_2_13_0 : Int) (a0_2_13_1 : Int) (a0_2_14_0 : Int) (a0_2_14_1 : Int) (a0_2_15_0 : Int) (a0_2_15_1 : Int) (a0_2_16_0 : Int) (a0_2_16_1 : Int) (a0_2_17_0 : Int) (a0_2_17_1 : Int) (a0_2_18_0 : Int) (a0_2_18_1 : Int) (a0_2_19_0 : Int) (a0_2_19_1 : Int) (a0_2_20_0 : Int) (a0_2_20_1 : Int) (a0_2_21_0 : Int) (a0_2_21_1 : Int) (a0_2_22_0 : Int) (a0_2_22_1 : Int) (a0_2_23_0 : Int) (a0_2_23_1 : Int) (a0_2_24_0 : Int) (a0_2_24_1 : Int) (a0_2_25_0 : Int) (a0_2_25_1 : Int) (a0_2_26_0 : Int) (a0_2_26_1 : Int) (a0_2_27_0 : Int) (a0_2_27_1 : Int) (a0_2_28_0 : Int) (a0_2_28_1 : Int) (a0_2_29_0 : Int) (a0_2_29_1 : Int) (a0_2_30_0 : Int) (a0_2_30_1 : Int) (a0_2_31_0 : Int) (a0_2_31_1 : Int) (a1 : Int) (K : EV → yah → Prop) : yci E_zaz Tryd.f34 false [.ptr 0 [], .int .i64 a1] [some (.agg [.bool a0_0, .arr .u64 32 a0_1, .agg [.agg [.int .u64 a0_2_0_0, .int .u64 a0_2_0_1], .agg [.int .u64 a0_2_1_0, .int .u64 a0_2_1_1], .agg [.int .u64 a0_2_2_0, .int .u64 a0_2_2_1], .agg [.int .u64 a0_2_3_0, .int .u64 a0_2_3_1], .agg [.int .u64 a0_2_4_0, .int .u64 a0_2_4_1], .agg [.int .u64 a0_2_5_0, .int .u64 a0_2_5_1], .agg [.int .u64 a0_2_6_0, .int .u64 a0_2_6_1], .agg [.int .u64 a0_2_7_0, .int .u64 a0_2_7_1], .agg [.int .u64 a0_2_8_0, .int .u64 a0_2_8_1], .agg [.int .u64 a0_2_9_0, .int .u64 a0_2_9_1], .agg [.int .u64 a0_2_10_0, .int .u64 a0_2_10_1], .agg [.int .u64 a0_2_11_0, .int .u64 a0_2_11_1], .agg [.int .u64 a0_2_12_0, .int .u64 a0_2_12_1], .agg [.int .u64 a0_2_13_0, .int .u64 a0_2_13_1], .agg [.int .u64 a0_2_14_0, .int .u64 a0_2_14_1], .agg [.int .u64 a0_2_15_0, .int .u64 a0_2_15_1], .agg [.int .u64 a0_2_16_0, .int .u64 a0_2_16_1], .agg [.int .u64 a0_2_17_0, .int .u64 a0_2_17_1], .agg [.int .u64 a0_2_18_0, .int .u64 a0_2_18_1], .agg [.int .u64 a0_2_19_0, .int .u64 a0_2_19_1], .agg [.int .u64 a0_2_20_0, .int .u64 a0_2_20_1], .agg [.int .u64 a0_2_21_0, .int .u64 a0_2_21_1], .agg [.int .u64 a0_2_22_0, .int .u64 a0_2_22_1], .agg [.int .u64 a0_2_23_0, .int .u64 a0_2_23_1], .agg [.int .u64 a0_2_24_0, .int .u64 a0_2_24_1], .agg [.int .u64 a0_2_25_0, .int .u64 a0_2_25_1], .agg [.int .u64 a0_2_26_0, .int .u64 a0_2_26_1], .agg [.int .u64 a0_2_27_0, .int .u64 a0_2_27_1], .agg [.int .u64 a0_2_28_0, .int .u64 a0_2_28_1], .agg [.int .u64 a0_2_29_0, .int .u64 a0_2_29_1], .agg [.int .u64 a0_2_30_0, .int .u64 a0_2_30_1], .agg [.int .u64 a0_2_31_0, .int .u64 a0_2_31_1]]])] K = zaz a0_0 a0_1 a0_2_0_0 a0_2_0_1 a0_2_1_0 a0_2_1_1 a0_2_2_0 a0_2_2_1 a0_2_3_0 a0_2_3_1 a0_2_4_0 a0_2_4_1 a0_2_5_0 a0_2_5_1 a0_2_6_0 a0_2_6_1 a0_2_7_0 a0_2_7_1 a0_2_8_0 a0_2_8_1 a0_2_9_0 a0_2_9_1 a0_2_10_0 a0_2_10_1 a0_2_11_0 a0_2_11_1 a0_2_12_0 a0_2_12_1 a0_2_13_0 a0_2_13_1 a0_2_14_0 a0_2_14_1 a0_2_15_0 a0_2_15_1 a0_2_16_0 a0_2_16_1 a0_2_17_0 a0_2_17_1 a0_2_18_0 a0_2_18_1 a0_2_19_0 a0_2_19_1 a0_2_20_0 a0_2_20_1 a0_2_21_0 a0_2_21_1 a0_2_22_0 a0_2_22_1 a0_2_23_0 a0_2_23_1 a0_2_24_0 a0_2_24_1 a0_2_25_0 a0_2_25_1 a0_2_26_0 a0_2_26_1 a0_2_27_0 a0_2_27_1 a0_2_28_0 a0_2_28_1 a0_2_29_0 a0_2_29_1 a0_2_30_0 a0_2_30_1 a0_2_31_0 a0_2_31_1 a1 (fun y0 y1 y2 y3 y4 y5 y6 y7 y8 y9 y10 y11 y12 y13 y14 y15 y16 y17 y18 y19 y20 y21 y22 y23 y24 y25 y26 y27 y28 y29 y30 y31 y32 y33 y34 y35 y36 y37 y38 y39 y40 y41 y42 y43 y44 y45 y46 y47 y48 y49 y50 y51 y52 y53 y54 y55 y56 y57 y58 y59 y60 y61 y62 y63 y64 y65 => K (EV.nilPtr) [some (EV.agg [EV.bool y0, EV.arr IntKind.u64 32 y1, EV.agg [EV.agg [EV.int IntKind.u64 y2, EV.int IntKind.u64 y3], EV.agg [EV.int IntKind.u64 y4, EV.int IntKind.u64 y5], EV.agg [EV.int IntKind.u64 y6, EV.int IntKind.u64 y7], EV.agg [EV.int IntKind.u64 y8, EV.int IntKind.u64 y9], EV.agg [EV.int IntKind.u64 y10, EV.int IntKind.u64 y11], EV.agg [EV.int IntKind.u64 y12, EV.int IntKind.u64 y13], EV.agg [EV.int IntKind.u64 y14, EV.int IntKind.u64 y15], EV.agg [EV.int IntKind.u64 y16, EV.int IntKind.u64 y17], EV.agg [EV.int IntKind.u64 y18, EV.int IntKind.u64 y19], EV.agg [EV.int IntKind.u64 y20, EV.int IntKind.u64 y21], EV.agg [EV.int IntKind.u64 y22, EV.int IntKind.u64 y23], EV.agg [EV.int IntKind.u64 y24, EV.int IntKind.u64 y25], EV.agg [EV.int IntKind.u64 y26, EV.int IntKind.u64 y27], EV.agg [EV.int IntKind.u64 y28, EV.int IntKind.u64 y29], EV.agg [EV.int IntKind.u64 y30, EV.int IntKind.u64 y31], EV.agg [EV.int IntKind.u64 y32, EV.int IntKind.u64 y33], EV.agg [EV.int IntKind.u64 y34, EV.int IntKind.u64 y35], EV.agg [EV.int IntKind.u64 y36, EV.int IntKind.u64 y37], EV.agg [EV.int IntKind.u64 y38, EV.int IntKind.u64 y39], EV.agg [EV.int IntKind.u64 y40, EV.int IntKind.u64 y41], EV.agg [EV.int IntKind.u64 y42, EV.int IntKind.u64 y43], EV.agg [EV.int IntKind.u64 y44, EV.int IntKind.u64 y45], EV.agg [EV.int IntKind.u64 y46, EV.int IntKind.u64 y47], EV.agg [EV.int IntKind.u64 y48, EV.int IntKind.u64 y49], EV.agg [EV.int IntKind.u64 y50, EV.int IntKind.u64 y51], EV.agg [EV.int IntKind.u64 y52, EV.int IntKind.u64 y53], EV.agg [EV.int IntKind.u64 y54, EV.int IntKind.u64 y55], EV.agg [EV.int IntKind.u64 y56, EV.int IntKind.u64 y57], EV.agg [EV.int IntKind.u64 y58, EV.int IntKind.u64 y59], EV.agg [EV.int IntKind.u64 y60, EV.int IntKind.u64 y61], EV.agg [EV.int IntKind.u64 y62, EV.int IntKind.u64 y63], EV.agg [EV.int IntKind.u64 y64, EV.int IntKind.u64 y65]]])]) (fun y0 y1 y2 y3 y4 y5 y6 y7 y8 y9 y10 y11 y12 y13 y14 y15 y16 y17 y18 y19 y20 y21 y22 y23 y24 y25 y26 y27 y28 y29 y30 y31 y32 y33 y34 y35 y36 y37 y38 y39 y40 y41 y42 y43 y44 y45 y46 y47 y48 y49 y50 y51 y52 y53 y54 y55 y56 y57 y58 y59 y60 y61 y62 y63 y64 y65 y66 => K (EV.ptr 0 [1, y0]) [some (EV.agg [EV.bool y1, EV.arr IntKind.u64 32 y2, EV.agg [EV.agg [EV.int IntKind.u64 y3, EV.int IntKind.u64 y4], EV.agg [EV.int IntKind.u64 y5, EV.int IntKind.u64 y6], EV.agg [EV.int IntKind.u64 y7, EV.int IntKind.u64 y8], EV.agg [EV.int IntKind.u64 y9, EV.int IntKind.u64 y10], EV.agg [EV.int IntKind.u64 y11, EV.int IntKind.u64 y12], EV.agg [EV.int IntKind.u64 y13, EV.int IntKind.u64 y14], EV.agg [EV.int IntKind.u64 y15, EV.int IntKind.u64 y16], EV.agg [EV.int IntKind.u64 y17, EV.int IntKind.u64 y18], EV.agg [EV.int IntKind.u64 y19, EV.int IntKind.u64 y20], EV.agg [EV.int IntKind.u64 y21, EV.int IntKind.u64 y22], EV.agg [EV.int IntKind.u64 y23, EV.int IntKind.u64 y24], EV.agg [EV.int IntKind.u64 y25, EV.int IntKind.u64 y26], EV.agg [EV.int IntKind.u64 y27, EV.int IntKind.u64 y28], EV.agg [EV.int IntKind.u64 y29, EV.int IntKind.u64 y30], EV.agg [EV.int IntKind.u64 y31, EV.int IntKind.u64 y32], EV.agg [EV.int IntKind.u64 y33, EV.int IntKind.u64 y34], EV.agg [EV.int IntKind.u64 y35, EV.int IntKind.u64 y36], EV.agg [EV.int IntKind.u64 y37, EV.int IntKind.u64 y38], EV.agg [EV.int IntKind.u64 y39, EV.int IntKind.u64 y40], EV.agg [EV.int IntKind.u64 y41, EV.int IntKind.u64 y42], EV.agg [EV.int IntKind.u64 y43, EV.int IntKind.u64 y44], EV.agg [EV.int IntKind.u64 y45, EV.int IntKind.u64 y46], EV.agg [EV.int IntKind.u64 y47, EV.int IntKind.u64 y48], EV.agg [EV.int IntKind.u64 y49, EV.int IntKind.u64 y50], EV.agg [EV.int IntKind.u64 y51, EV.int IntKind.u64 y52], EV.agg [EV.int IntKind.u64 y53, EV.int IntKind.u64 y54], EV.agg [EV.int IntKind.u64 y55, EV.int IntKind.u64 y56], EV.agg [EV.int IntKind.u64 y57, EV.int IntKind.u64 y58], EV.agg [EV.int IntKind.u64 y59, EV.int IntKind.u64 y60], EV.agg [EV.int IntKind.u64 y61, EV.int IntKind.u64 y62], EV.agg [EV.int IntKind.u64 y63, EV.int IntKind.u64 y64], EV.agg [EV.int IntKind.u64 y65, EV.int IntKind.u64 y66]]])]) := by
 rw [zaz.is]; exact (yar _ _ _ _ _ _).symm.trans (by kernel_rfl)
theorem X_zaz.ok : SoundE Tryd.prog gl 34 e_zaz := by
 refine ydp (E := E_zaz) (fn := Tryd.f34) rfl tys_ok rfl (show ycF _ [] from trivial) mixed (by kernel_rfl) (by kernel_rfl) (by kernel_rfl) 0 (by kernel_rfl) false trivial ?_
 exact yk5 rfl fun t u K => X_zaz.eq u.1.1 u.1.2.1 u.1.2.2.1.1.1 u.1.2.2.1.1.2.1 u.1.2.2.1.2.1.1 u.1.2.2.1.2.1.2.1 u.1.2.2.1.2.2.1.1 u.1.2.2.1.2.2.1.2.1 u.1.2.2.1.2.2.2.1.1 u.1.2.2.1.2.2.2.1.2.1 u.1.2.2.1.2.2.2.2.1.1 u.1.2.2.1.2.2.2.2.1.2.1 u.1.2.2.1.2.2.2.2.2.1.1 u.1.2.2.1.2.2.2.2.2.1.2.1 u.1.2.2.1.2.2.2.2.2.2.1.1 u.1.2.2.1.2.2.2.2.2.2.1.2.1 u.1.2.2.1.2.2.2.2.2.2.2.1.1 u.1.2.2.1.2.2.2.2.2.2.2.1.2.1 u.1.2.2.1.2.2.2.2.2.2.2.2.1.1 u.1.2.2.1.2.2.2.2.2.2.2.2.1.2.1 u.1.2.2.1.2.2.2.2.2.2.2.2.2.1.1 u.1.2.2.1.2.2.2.2.2.2.2.2.2.1.2.1 u.1.2.2.1.2.2.2.2.2.2.2.2.2.2.1.1 u.1.2.2.1.2.2.2.2.2.2.2.2.2.2.1.2.1 u.1.2.2.1.2.2.2.2.2.2.2.2.2.2.2.1.1 u.1.2.2.1.2.2.2.2.2.2.2.2.2.2.2.1.2.1 u.1.2.2.1.2.2.2.2.2.2.2.2.2.2.2.2.1.1 u.1.2.2.1.2.2.2.2.2.2.2.2.2.2.2.2.1.2.1 u.1.2.2.1.2.2.2.2.2.2.2.2.2.2.2.2.2.1.1 u.1.2.2.1.2.2.2.2.2.2.2.2.2.2.2.2.2.1.2.1 u.1.2.2.1.2.2.2.2.2.2.2.2.2.2.2.2.2.2.1.1 u.1.2.2.1.2.2.2.2.2.2.2.2.2.2.2.2.2.2.1.2.1 u.1.2.2.1.2.2.2.2.2.2.2.2.2.2.2.2.2.2.2.1.1 u.1.2.2.1.2.2.2.2.2.2.2.2.2.2.2.2.2.2.2.1.2.1 u.1.2.2.1.2.2.2.2.2.2.2.2.2.2.2.2.2.2.2.2.1.1 u.1.2.2.1.2.2.2.2.2.2.2.2.2.2.2.2.2.2.2.2.1.2.1 u.1.2.2.1.2.2.2.2.2.2.2.2.2.2.2.2.2.2.2.2.2.1.1 u.1.2.2.1.2.2.2.2.2.2.2.2.2.2.2.2.2.2.2.2.2.1.2.1 u.1.2.2.1.2.2.2.2.2.2.2.2.2.2.2.2.2.2.2.2.2.2.1.1 u.1.2.2.1.2.2.2.2.2.2.2.2.2.2.2.2.2.2.2.2.2.2.1.2.1 u.1.2.2.1.2.2.2.2.2.2.2.2.2.2.2.2.2.2.2.2.2.2.2.1.1 u.1.2.2.1.2.2.2.2.2.2.2.2.2.2.2.2.2.2.2.2.2.2.2.1.2.1 u.1.2.2.1.2.2.2.2.2.2.2.2.2.2.2.2.2.2.2.2.2.2.2.2.1.1 u.1.2.2.1.2.2.2.2.2.2.2.2.2.2.2.2.2.2.2.2.2.2.2.2.1.2.1 u.1.2.2.1.2.2.2.2.2.2.2.2.2.2.2.2.2.2.2.2.2.2.2.2.2.1.1 u.1.2.2.1.2.2.2.2.2.2.2.2.2.2.2.2.2.2.2.2.2.2.2.2.2.1.2.1 u.1.2.2.1.2.2.2.2.2.2.2.2.2.2.2.2.2.2.2.2.2.2.2.2.2.2.1.1 u.1.2.2.1.2.2.2.2.2.2.2.2.2.2.2.2.2.2.2.2.2.2.2.2.2.2.1.2.1 u.1.2.2.1.2.2.2.2.2.2.2.2.2.2.2.2.2.2.2.2.2.2.2.2.2.2.2.1.1 u.1.2.2.1.2.2.2.2.2.2.2.2.2.2.2.2.2.2.2.2.2.2.2.2.2.2.2.1.2.1 u.1.2.2.1.2.2.2.2.2.2.2.2.2.2.2.2.2.2.2.2.2.2.2.2.2.2.2.2.1.1 u.1.2.2.1.2.2.2.2.2.2.2.2.2.2.2.2.2.2.2.2.2.2.2.2.2.2.2.2.1.2.1 u.1.2.2.1.2.2.2.2.2.2.2.2.2.2.2.2.2.2.2.2.2.2.2.2.2.2.2.2.2.1.1 u.1.2.2.1.2.2.2.2.2.2.2.2.2.2.2.2.2.2.2.2.2.2.2.2.2.2.2.2.2.1.2.1 u.1.2.2.1.2.2.2.2.2.2.2.2.2.2.2.2.2.2.2.2.2.2.2.2.2.2.2.2.2.2.1.1 u.1.2.2.1.2.2.2.2.2.2.2.2.2.2.2.2.2.2.2.2.2.2.2.2.2.2.2.2.2.2.1.2.1 u.1.2.2.1.2.2.2.2.2.2.2.2.2.2.2.2.2.2.2.2.2.2.2.2.2.2.2.2.2.2.2.1.1 u.1.2.2.1.2.2.2.2.2.2.2.2.2.2.2.2.2.2.2.2.2.2.2.2.2.2.2.2.2.2.2.1.2.1 u.1.2.2.1.2.2.2.2.2.2.2.2.2.2.2.2.2.2.2.2.2.2.2.2.2.2.2.2.2.2.2.2.1.1 u.1.2.2.1.2.2.2.2.2.2.2.2.2.2.2.2.2.2.2.2.2.2.2.2.2.2.2.2.2.2.2.2.1.2.1 u.1.2.2.1.2.2.2.2.2.2.2.2.2.2.2.2.2.2.2.2.2.2.2.2.2.2.2.2.2.2.2.2.2.1.1 u.1.2.2.1.2.2.2.2.2.2.2.2.2.2.2.2.2.2.2.2.2.2.2.2.2.2.2.2.2.2.2.2.2.1.2.1 u.1.2.2.1.2.2.2.2.2.2.2.2.2.2.2.2.2.2.2.2.2.2.2.2.2.2.2.2.2.2.2.2.2.2.1.1 u.1.2.2.1.2.2.2.2.2.2.2.2.2.2.2.2.2.2.2.2.2.2.2.2.2.2.2.2.2.2.2.2.2.2.1.2.1 u.1.2.2.1.2.2.2.2.2.2.2.2.2.2.2.2.2.2.2.2.2.2.2.2.2.2.2.2.2.2.2.2.2.2.2.1.1 u.1.2.2.1.2.2.2.2.2.2.2.2.2.2.2.2.2.2.2.2.2.2.2.2.2.2.2.2.2.2.2.2.2.2.2.1.2.1 t.2.1 K
noncomputable def e_regs_Regs_X_0 : Entry := yj7 [none, none] true (.cons (.ptr 0) (.cons (.int .i64) .nil)) (.cons (.cons .bool (.cons (.arr .u64 32) (.cons (.cons (.cons (.int .u64) (.cons (.int .u64) .nil)) (.cons (.cons (.int .u64) (.cons (.int .u64) .nil)) (.cons (.cons (.int .u64) (.cons (.int .u64) .nil)) (.cons (.cons (.int .u64) (.cons (.int .u64) .nil)) (.cons (.cons (.int .u64) (.cons (.int .u64) .nil)) (.cons (.cons (.int .u64) (.cons (.int .u64) .nil)) (.cons (.cons (.int .u64) (.cons (.int .u64) .nil)) (.cons (.cons (.int .u64) (.cons (.int .u64) .nil)) (.cons (.cons (.int .u64) (.cons (.int .u64) .nil)) (.cons (.cons (.int .u64) (.cons (.int .u64) .nil)) (.cons (.cons (.int .u64) (.cons (.int .u64) .nil)) (.cons (.cons (.int .u64) (.cons (.int .u64) .nil)) (.cons (.cons (.int .u64) (.cons (.int .u64) .nil)) (.cons (.cons (.int .u64) (.cons (.int .u64) .nil)) (.cons (.cons (.int .u64) (.cons (.int .u64) .nil)) (.cons (.cons (.int .u64) (.cons (.int .u64) .nil)) (.cons (.cons (.int .u64) (.cons (.int .u64) .nil)) (.cons (.cons (.int .u64) (.cons (.int .u64) .nil)) (.cons (.cons (.int .u64) (.cons (.int .u64) .nil)) (.cons (.cons (.int .u64) (.cons (.int .u64) .nil)) (.cons (.cons (.int .u64) (.cons (.int .u64) .nil)) (.cons (.cons (.int .u64) (.cons (.int .u64) .nil)) (.cons (.cons (.int .u64) (.cons (.int .u64) .nil)) (.cons (.cons (.int .u64) (.cons (.int .u64) .nil)) (.cons (.cons (.int .u64) (.cons (.int .u64) .nil)) (.cons (.cons (.int .u64) (.cons (.int .u64) .nil)) (.cons (.cons (.int .u64) (.cons (.int .u64) .nil)) (.cons (.cons (.int .u64) (.cons (.int .u64) .nil)) (.cons (.cons (.int .u64) (.cons (.int .u64) .nil)) (.cons (.cons (.int .u64) (.cons (.int .u64) .nil)) (.cons (.cons (.int .u64) (.cons (.int .u64) .nil)) (.cons (.cons (.int .u64) (.cons (.int .u64) .nil)) .nil)))))))))))))))))))))))))))))))) .nil))) .nil) fun t u K => zau u.1.1 u.1.2.1 u.1.2.2.1.1.1 u.1.2.2.1.1.2.1 u.1.2.2.1.2.1.1 u.1.2.2.1.2.1.2.1 u.1.2.2.1.2.2.1.1 u.1.2.2.1.2.2.1.2.1 u.1.2.2.1.2.2.2.1.1 u.1.2.2.1.2.2.2.1.2.1 u.1.2.2.1.2.2.2.2.1.1 u.1.2.2.1.2.2.2.2.1.2.1 u.1.2.2.1.2.2.2.2.2.1.1 u.1.2.2.1.2.2.2.2.2.1.2.1 u.1.2.2.1.2.2.2.2.2.2.1.1 u.1.2.2.1.2.2.2.2.2.2.1.2.1 u.1.2.2.1.2.2.2.2.2.2.2.1.1 u.1.2.2.1.2.2.2.2.2.2.2.1.2.1 u.1.2.2.1.2.2.2.2.2.2.2.2.1.1 u.1.2.2.1.2.2.2.2.2.2.2.2.1.2.1 u.1.2.2.1.2.2.2.2.2.2.2.2.2.1.1 u.1.2.2.1.2.2.2.2.2.2.2.2.2.1.2.1 u.1.2.2.1.2.2.2.2.2.2.2.2.2.2.1.1 u.1.2.2.1.2.2.2.2.2.2.2.2.2.2.1.2.1 u.1.2.2.1.2.2.2.2.2.2.2.2.2.2.2.1.1 u.1.2.2.1.2.2.2.2.2.2.2.2.2.2.2.1.2.1 u.1.2.2.1.2.2.2.2.2.2.2.2.2.2.2.2.1.1 u.1.2.2.1.2.2.2.2.2.2.2.2.2.2.2.2.1.2.1 u.1.2.2.1.2.2.2.2.2.2.2.2.2.2.2.2.2.1.1 u.1.2.2.1.2.2.2.2.2.2.2.2.2.2.2.2.2.1.2.1 u.1.2.2.1.2.2.2.2.2.2.2.2.2.2.2.2.2.2.1.1 u.1.2.2.1.2.2.2.2.2.2.2.2.2.2.2.2.2.2.1.2.1 u.1.2.2.1.2.2.2.2.2.2.2.2.2.2.2.2.2.2.2.1.1 u.1.2.2.1.2.2.2.2.2.2.2.2.2.2.2.2.2.2.2.1.2.1 u.1.2.2.1.2.2.2.2.2.2.2.2.2.2.2.2.2.2.2.2.1.1 u.1.2.2.1.2.2.2.2.2.2.2.2.2.2.2.2.2.2.2.2.1.2.1 u.1.2.2.1.2.2.2.2.2.2.2.2.2.2.2.2.2.2.2.2.2.1.1 u.1.2.2.1.2.2.2.2.2.2.2.2.2.2.2.2.2.2.2.2.2.1.2.1 u.1.2.2.1.2.2.2.2.2.2.2.2.2.2.2.2.2.2.2.2.2.2.1.1 u.1.2.2.1.2.2.2.2.2.2.2.2.2.2.2.2.2.2.2.2.2.2.1.2.1 u.1.2.2.1.2.2.2.2.2.2.2.2.2.2.2.2.2.2.2.2.2.2.2.1.1 u.1.2.2.1.2.2.2.2.2.2.2.2.2.2.2.2.2.2.2.2.2.2.2.1.2.1 u.1.2.2.1.2.2.2.2.2.2.2.2.2.2.2.2.2.2.2.2.2.2.2.2.1.1 u.1.2.2.1.2.2.2.2.2.2.2.2.2.2.2.2.2.2.2.2.2.2.2.2.1.2.1 u.1.2.2.1.2.2.2.2.2.2.2.2.2.2.2.2.2.2.2.2.2.2.2.2.2.1.1 u.1.2.2.1.2.2.2.2.2.2.2.2.2.2.2.2.2.2.2.2.2.2.2.2.2.1.2.1 u.1.2.2.1.2.2.2.2.2.2.2.2.2.2.2.2.2.2.2.2.2.2.2.2.2.2.1.1 u.1.2.2.1.2.2.2.2.2.2.2.2.2.2.2.2.2.2.2.2.2.2.2.2.2.2.1.2.1 u.1.2.2.1.2.2.2.2.2.2.2.2.2.2.2.2.2.2.2.2.2.2.2.2.2.2.2.1.1 u.1.2.2.1.2.2.2.2.2.2.2.2.2.2.2.2.2.2.2.2.2.2.2.2.2.2.2.1.2.1 u.1.2.2.1.2.2.2.2.2.2.2.2.2.2.2.2.2.2.2.2.2.2.2.2.2.2.2.2.1.1 u.1.2.2.1.2.2.2.2.2.2.2.2.2.2.2.2.2.2.2.2.2.2.2.2.2.2.2.2.1.2.1 u.1.2.2.1.2.2.2.2.2.2.2.2.2.2.2.2.2.2.2.2.2.2.2.2.2.2.2.2.2.1.1 u.1.2.2.1.2.2.2.2.2.2.2.2.2.2.2.2.2.2.2.2.2.2.2.2.2.2.2.2.2.1.2.1 u.1.2.2.1.2.2.2.2.2.2.2.2.2.2.2.2.2.2.2.2.2.2.2.2.2.2.2.2.2.2.1.1 u.1.2.2.1.2.2.2.2.2.2.2.2.2.2.2.2.2.2.2.2.2.2.2.2.2.2.2.2.2.2.1.2.1 u.1.2.2.1.2.2.2.2.2.2.2.2.2.2.2.2.2.2.2.2.2.2.2.2.2.2.2.2.2.2.2.1.1 u.1.2.2.1.2.2.2.2.2.2.2.2.2.2.2.2.2.2.2.2.2.2.2.2.2.2.2.2.2.2.2.1.2.1 u.1.2.2.1.2.2.2.2.2.2.2.2.2.2.2.2.2.2.2.2.2.2.2.2.2.2.2.2.2.2.2.2.1.1 u.1.2.2.1.2.2.2.2.2.2.2.2.2.2.2.2.2.2.2.2.2.2.2.2.2.2.2.2.2.2.2.2.1.2.1 u.1.2.2.1.2.2.2.2.2.2.2.2.2.2.2.2.2.2.2.2.2.2.2.2.2.2.2.2.2.2.2.2.2.1.1 u.1.2.2.1.2.2.2.2.2.2.2.2.2.2.2.2.2.2.2.2.2.2.2.2.2.2.2.2.2.2.2.2.2.1.2.1 u.1.2.2.1.2.2.2.2.2.2.2.2.2.2.2.2.2.2.2.2.2.2.2.2.2.2.2.2.2.2.2.2.2.2.1.1 u.1.2.2.1.2.2.2.2.2.2.2.2.2.2.2.2.2.2.2.2.2.2.2.2.2.2.2.2.2.2.2.2.2.2.1.2.1 u.1.2.2.1.2.2.2.2.2.2.2.2.2.2.2.2.2.2.2.2.2.2.2.2.2.2.2.2.2.2.2.2.2.2.2.1.1 u.1.2.2.1.2.2.2.2.2.2.2.2.2.2.2.2.2.2.2.2.2.2.2.2.2.2.2.2.2.2.2.2.2.2.2.1.2.1 t.2.1 (fun y0 y1 y2 y3 y4 y5 y6 y7 y8 y9 y10 y11 y12 y13 y14 y15 y16 y17 y18 y19 y20 y21 y22 y23 y24 y25 y26 y27 y28 y29 y30 y31 y32 y33 y34 y35 y36 y37 y38 y39 y40 y41 y42 y43 y44 y45 y46 y47 y48 y49 y50 y51 y52 y53 y54 y55 y56 y57 y58 y59 y60 y61 y62 y63 y64 y65 y66 y67 => K (EV.tuple [EV.int IntKind.u64 y0, EV.int IntKind.i64 y1]) [some (EV.agg [EV.bool y2, EV.arr IntKind.u64 32 y3, EV.agg [EV.agg [EV.int IntKind.u64 y4, EV.int IntKind.u64 y5], EV.agg [EV.int IntKind.u64 y6, EV.int IntKind.u64 y7], EV.agg [EV.int IntKind.u64 y8, EV.int IntKind.u64 y9], EV.agg [EV.int IntKind.u64 y10, EV.int IntKind.u64 y11], EV.agg [EV.int IntKind.u64 y12, EV.int IntKind.u64 y13], EV.agg [EV.int IntKind.u64 y14, EV.int IntKind.u64 y15], EV.agg [EV.int IntKind.u64 y16, EV.int IntKind.u64 y17], EV.agg [EV.int IntKind.u64 y18, EV.int IntKind.u64 y19], EV.agg [EV.int IntKind.u64 y20, EV.int IntKind.u64 y21], EV.agg [EV.int IntKind.u64 y22, EV.int IntKind.u64 y23], EV.agg [EV.int IntKind.u64 y24, EV.int IntKind.u64 y25], EV.agg [EV.int IntKind.u64 y26, EV.int IntKind.u64 y27], EV.agg [EV.int IntKind.u64 y28, EV.int IntKind.u64 y29], EV.agg [EV.int IntKind.u64 y30, EV.int IntKind.u64 y31], EV.agg [EV.int IntKind.u64 y32, EV.int IntKind.u64 y33], EV.agg [EV.int IntKind.u64 y34, EV.int IntKind.u64 y35], EV.agg [EV.int IntKind.u64 y36, EV.int IntKind.u64 y37], EV.agg [EV.int IntKind.u64 y38, EV.int IntKind.u64 y39], EV.agg [EV.int IntKind.u64 y40, EV.int IntKind.u64 y41], EV.agg [EV.int IntKind.u64 y42, EV.int IntKind.u64 y43], EV.agg [EV.int IntKind.u64 y44, EV.int IntKind.u64 y45], EV.agg [EV.int IntKind.u64 y46, EV.int IntKind.u64 y47], EV.agg [EV.int IntKind.u64 y48, EV.int IntKind.u64 y49], EV.agg [EV.int IntKind.u64 y50, EV.int IntKind.u64 y51], EV.agg [EV.int IntKind.u64 y52, EV.int IntKind.u64 y53], EV.agg [EV.int IntKind.u64 y54, EV.int IntKind.u64 y55], EV.agg [EV.int IntKind.u64 y56, EV.int IntKind.u64 y57], EV.agg [EV.int IntKind.u64 y58, EV.int IntKind.u64 y59], EV.agg [EV.int IntKind.u64 y60, EV.int IntKind.u64 y61], EV.agg [EV.int IntKind.u64 y62, EV.int IntKind.u64 y63], EV.agg [EV.int IntKind.u64 y64, EV.int IntKind.u64 y65], EV.agg [EV.int IntKind.u64 y66, EV.int IntKind.u64 y67]]])])
noncomputable def e_zav : Entry := ⟨[none, none], true, fun args H K => match args, H with
 | [.nilPtr, .int .i64 a1], [] => zav a1 (fun y0 y1 => K (EV.tuple [EV.int IntKind.u64 y0, EV.int IntKind.i64 y1]) [])
 | _, _ => False⟩
noncomputable def e_zau : Entry := Entry.pick (fun args H => match args, H with | [.ptr 0 [], .int .i64 a1], _ => true | _, _ => false) e_regs_Regs_X_0 (e_zav)
noncomputable def l_regs_Regs_X_0 : List (Nat × Entry) := [(33, e_zax), (34, e_zaz)]
noncomputable def E_regs_Regs_X_0 : Env := ⟨look tys, look l_regs_Regs_X_0, look [], gl, yaR [], false⟩
theorem X_regs_Regs_X_0.eq (a0_0 : Bool) (a0_1 : Nat → Int) (a0_2_0_0 : Int) (a0_2_0_1 : Int) (a0_2_1_0 : Int) (a0_2_1_1 : Int) (a0_2_2_0 : Int) (a0_2_2_1 : Int) (a0_2_3_0 : Int) (a0_2_3_1 : Int) (a0_2_4_0 : Int) (a0_2_4_1 : Int) (a0_2_5_0 : Int) (a0_2_5_1 : Int) (a0_2_6_0 : Int) (a0_2_6_1 : Int) (a0_2_7_0 : Int) (a0_2_7_1 : Int) (a0_2_8_0 : Int) (a0_2_8_1 : Int) (a0_2_9_0 : Int) (a0_2_9_1 : Int) (a0_2_10_0 : Int) (a0_2_10_1 : Int) (a0_2_11_0 : Int) (a0_2_11_1 : Int) (a0_2_12_0 : Int) (a0_2_12_1 : Int) (a0_2_13_0 : Int) (a0_2_13_1 : Int) (a0_2_14_0 : Int) (a0_2_14_1 : Int) (a0_2_15_0 : Int) (a0_2_15_1 : Int) (a0_2_16_0 : Int) (a0_2_16_1 : Int) (a0_2_17_0 : Int) (a0_2_17_1 : Int) (a0_2_18_0 : Int) (a0_2_18_1 : Int) (a0_2_19_0 : Int) (a0_2_19_1 : Int) (a0_2_20_0 : Int) (a0_2_20_1 : Int) (a0_2_21_0 : Int) (a0_2_21_1 : Int) (a0_2_22_0 : Int) (a0_2_22_1 : Int) (a0_2_23_0 : Int) (a0_2_23_1 : Int) (a0_2_24_0 : Int) (a0_2_24_1 : Int) (a0_2_25_0 : Int) (a0_2_25_1 : Int) (a0_2_26_0 : Int) (a0_2_26_1 : Int) (a0_2_27_0 : Int) (a0_2_27_1 : Int) (a0_2_28_0 : Int) (a0_2_28_1 : Int) (a0_2_29_0 : Int) (a0_2_29_1 : Int) (a0_2_30_0 : Int) (a0_2_30_1 : Int) (a0_2_31_0 : Int) (a0_2_31_1 : Int) (a1 : Int) (K : EV → yah → Prop) : yci E_regs_Regs_X_0 Tryd.f12 false [.ptr 0 [], .int .i64 a1] [some (.agg [.bool a0_0, .arr .u64 32 a0_1, .agg [.agg [.int .u64 a0_2_0_0, .int .u64 a0_2_0_1], .agg [.int .u64 a0_2_1_0, .int .u64 a0_2_1_1], .agg [.int .u64 a0_2_2_0, .int .u64 a0_2_2_1], .agg [.int .u64 a0_2_3_0, .int .u64 a0_2_3_1], .agg [.int .u64 a0_2_4_0, .int .u64 a0_2_4_1], .agg [.int .u64 a0_2_5_0, .int .u64 a0_2_5_1], .agg [.int .u64 a0_2_6_0, .int .u64 a0_2_6_1], .agg [.int .u64 a0_2_7_0, .int .u64 a0_2_7_1], .agg [.int .u64 a0_2_8_0, .int .u64 a0_2_8_1], .agg [.int .u64 a0_2_9_0, .int .u64 a0_2_9_1], .agg [.int .u64 a0_2_10_0, .int .u64 a0_2_10_1], .agg [.int .u64 a0_2_11_0, .int .u64 a0_2_11_1], .agg [.int .u64 a0_2_12_0, .int .u64 a0_2_12_1], .agg [.int .u64 a0_2_13_0, .int .u64 a0_2_13_1], .agg [.int .u64 a0_2_14_0, .int .u64 a0_2_14_1], .agg [.int .u64 a0_2_15_0, .int .u64 a0_2_15_1], .agg [.int .u64 a0_2_16_0, .int .u64 a0_2_16_1], .agg [.int .u64 a0_2_17_0, .int .u64 a0_2_17_1], .agg [.int .u64 a0_2_18_0, .int .u64 a0_2_18_1], .agg [.int .u64 a0_2_19_0, .int .u64 a0_2_19_1], .agg [.int .u64 a0_2_20_0, .int .u64 a0_2_20_1], .agg [.int .u64 a0_2_21_0, .int .u64 a0_2_21_1], .agg [.int .u64 a0_2_22_0, .int .u64 a0_2_22_1], .agg [.int .u64 a0_2_23_0, .int .u64 a0_2_23_1], .agg [.int .u64 a0_2_24_0, .int .u64 a0_2_24_1], .agg [.int .u64 a0_2_25_0, .int .u64 a0_2_25_1], .agg [.int .u64 a0_2_26_0, .int .u64 a0_2_26_1], .agg [.int .u64 a0_2_27_0, .int .u64 a0_2_27_1], .agg [.int .u64 a0_2_28_0, .int .u64 a0_2_28_1], .agg [.int .u64 a0_2_29_0, .int .u64 a0_2_29_1], .agg [.int .u64 a0_2_30_0, .int .u64 a0_2_30_1], .agg [.int .u64 a0_2_31_0, .int .u64 a0_2_31_1]]])] K = zau a0_0 a0_1 a0_2_0_0 a0_2_0_1 a0_2_1_0 a0_2_1_1 a0_2_2_0 a0_2_2_1 a0_2_3_0 a0_2_3_1 a0_2_4_0 a0_2_4_1 a0_2_5_0 a0_2_5_1 a0_2_6_0 a0_2_6_1 a0_2_7_0 a0_2_7_1 a0_2_8_0 a0_2_8_1 a0_2_9_0 a0_2_9_1 a0_2_10_0 a0_2_10_1 a0_2_11_0 a0_2_11_1 a0_2_12_0 a0_2_12_1 a0_2_13_0 a0_2_13_1 a0_2_14_0 a0_2_14_1 a0_2_15_0 a0_2_15_1 a0_2_16_0 a0_2_16_1 a0_2_17_0 a0_2_17_1 a0_2_18_0 a0_2_18_1 a0_2_19_0 a0_2_19_1 a0_2_20_0 a0_2_20_1 a0_2_21_0 a0_2_21_1 a0_2_22_0 a0_2_22_1 a0_2_23_0 a0_2_23_1 a0_2_24_0 a0_2_24_1 a0_2_25_0 a0_2_25_1 a0_2_26_0 a0_2_26_1 a0_2_27_0 a0_2_27_1 a0_2_28_0 a0_2_28_1 a0_2_29_0 a0_2_29_1 a0_2_30_0 a0_2_30_1 a0_2_31_0 a0_2_31_1 a1 (fun y0 y1 y2 y3 y4 y5 y6 y7 y8 y9 y10 y11 y12 y13 y14 y15 y16 y17 y18 y19 y20 y21 y22 y23 y24 y25 y26 y27 y28 y29 y30 y31 y32 y33 y34 y35 y36 y37 y38 y39 y40 y41 y42 y43 y44 y45 y46 y47 y48 y49 y50 y51 y52 y53 y54 y55 y56 y57 y58 y59 y60 y61 y62 y63 y64 y65 y66 y67 => K (EV.tuple [EV.int IntKind.u64 y0, EV.int IntKind.i64 y1]) [some (EV.agg [EV.bool y2, EV.arr IntKind.u64 32 y3, EV.agg [EV.agg [EV.int IntKind.u64 y4, EV.int IntKind.u64 y5], EV.agg [EV.int IntKind.u64 y6, EV.int IntKind.u64 y7], EV.agg [EV.int IntKind.u64 y8, EV.int IntKind.u64 y9], EV.agg [EV.int IntKind.u64 y10, EV.int IntKind.u64 y11], EV.agg [EV.int IntKind.u64 y12, EV.int IntKind.u64 y13], EV.agg [EV.int IntKind.u64 y14, EV.int IntKind.u64 y15], EV.agg [EV.int IntKind.u64 y16, EV.int IntKind.u64 y17], EV.agg [EV.int IntKind.u64 y18, EV.int IntKind.u64 y19], EV.agg [EV.int IntKind.u64 y20, EV.int IntKind.u64 y21], EV.agg [EV.int IntKind.u64 y22, EV.int IntKind.u64 y23], EV.agg [EV.int IntKind.u64 y24, EV.int IntKind.u64 y25], EV.agg [EV.int IntKind.u64 y26, EV.int IntKind.u64 y27], EV.agg [EV.int IntKind.u64 y28, EV.int IntKind.u64 y29], EV.agg [EV.int IntKind.u64 y30, EV.int IntKind.u64 y31], EV.agg [EV.int IntKind.u64 y32, EV.int IntKind.u64 y33], EV.agg [EV.int IntKind.u64 y34, EV.int IntKind.u64 y35], EV.agg [EV.int IntKind.u64 y36, EV.int IntKind.u64 y37], EV.agg [EV.int IntKind.u64 y38, EV.int IntKind.u64 y39], EV.agg [EV.int IntKind.u64 y40, EV.int IntKind.u64 y41], EV.agg [EV.int IntKind.u64 y42, EV.int IntKind.u64 y43], EV.agg [EV.int IntKind.u64 y44, EV.int IntKind.u64 y45], EV.agg [EV.int IntKind.u64 y46, EV.int IntKind.u64 y47], EV.agg [EV.int IntKind.u64 y48, EV.int IntKind.u64 y49], EV.agg [EV.int IntKind.u64 y50, EV.int IntKind.u64 y51], EV.agg [EV.int IntKind.u64 y52, EV.int IntKind.u64 y53], EV.agg [EV.int IntKind.u64 y54, EV.int IntKind.u64 y55], EV.agg [EV.int IntKind.u64 y56, EV.int IntKind.u64 y57], EV.agg [EV.int IntKind.u64 y58, EV.int IntKind.u64 y59], EV.agg [EV.int IntKind.u64 y60, EV.int IntKind.u64 y61], EV.agg [EV.int IntKind.u64 y62, EV.int IntKind.u64 y63], EV.agg [EV.int IntKind.u64 y64, EV.int IntKind.u64 y65], EV.agg [EV.int IntKind.u64 y66, EV.int IntKind.u64 y67]]])]) := by
 rw [zau.is]; exact (yar _ _ _ _ _ _).symm.trans (by kernel_rfl)
theorem X_regs_Regs_X_0.ok : SoundE Tryd.prog gl 12 e_regs_Regs_X_0 := by
 refine ydp (E := E_regs_Regs_X_0) (fn := Tryd.f12) rfl tys_ok rfl (show ycF _ l_regs_Regs_X_0 from ⟨X_zax.ok, X_zaz.ok, trivial⟩) mixed (by kernel_rfl) (by kernel_rfl) (by kernel_rfl) 0 (by kernel_rfl) false trivial ?_
 exact yk5 rfl fun t u K => X_regs_Regs_X_0.eq u.1.1 u.1.2.1 u.1.2.2.1.1.1 u.1.2.2.1.1.2.1 u.1.2.2.1.2.1.1 u.1.2.2.1.2.1.2.1 u.1.2.2.1.2.2.1.1 u.1.2.2.1.2.2.1.2.1 u.1.2.2.1.2.2.2.1.1 u.1.2.2.1.2.2.2.1.2.1 u.1.2.2.1.2.2.2.2.1.1 u.1.2.2.1.2.2.2.2.1.2.1 u.1.2.2.1.2.2.2.2.2.1.1 u.1.2.2.1.2.2.2.2.2.1.2.1 u.1.2.2.1.2.2.2.2.2.2.1.1 u.1.2.2.1.2.2.2.2.2.2.1.2.1 u.1.2.2.1.2.2.2.2.2.2.2.1.1 u.1.2.2.1.2.2.2.2.2.2.2.1.2.1 u.1.2.2.1.2.2.2.2.2.2.2.2.1.1 u.1.2.2.1.2.2.2.2.2.2.2.2.1.2.1 u.1.2.2.1.2.2.2.2.2.2.2.2.2.1.1 u.1.2.2.1.2.2.2.2.2.2.2.2.2.1.2.1 u.1.2.2.1.2.2.2.2.2.2.2.2.2.2.1.1 u.1.2.2.1.2.2.2.2.2.2.2.2.2.2.1.2.1 u.1.2.2.1.2.2.2.2.2.2.2.2.2.2.2.1.1 u.1.2.2.1.2.2.2.2.2.2.2.2.2.2.2.1.2.1 u.1.2.2.1.2.2.2.2.2.2.2.2.2.2.2.2.1.1 u.1.2.2.1.2.2.2.2.2.2.2.2.2.2.2.2.1.2.1 u.1.2.2.1.2.2.2.2.2.2.2.2.2.2.2.2.2.1.1 u.1.2.2.1.2.2.2.2.2.2.2.2.2.2.2.2.2.1.2.1 u.1.2.2.1.2.2.2.2.2.2.2.2.2.2.2.2.2.2.1.1 u.1.2.2.1.2.2.2.2.2.2.2.2.2.2.2.2.2.2.1.2.1 u.1.2.2.1.2.2.2.2.2.2.2.2.2.2.2.2.2.2.2.1.1 u.1.2.2.1.2.2.2.2.2.2.2.2.2.2.2.2.2.2.2.1.2.1 u.1.2.2.1.2.2.2.2.2.2.2.2.2.2.2.2.2.2.2.2.1.1 u.1.2.2.1.2.2.2.2.2.2.2.2.2.2.2.2.2.2.2.2.1.2.1 u.1.2.2.1.2.2.2.2.2.2.2.2.2.2.2.2.2.2.2.2.2.1.1 u.1.2.2.1.2.2.2.2.2.2.2.2.2.2.2.2.2.2.2.2.2.1.2.1 u.1.2.2.1.2.2.2.2.2.2.2.2.2.2.2.2.2.2.2.2.2.2.1.1 u.1.2.2.1.2.2.2.2.2.2.2.2.2.2.2.2.2.2.2.2.2.2.1.2.1 u.1.2.2.1.2.2.2.2.2.2.2.2.2.2.2.2.2.2.2.2.2.2.2.1.1 u.1.2.2.1.2.2.2.2.2.2.2.2.2.2.2.2.2.2.2.2.2.2.2.1.2.1 u.1.2.2.1.2.2.2.2.2.2.2.2.2.2.2.2.2.2.2.2.2.2.2.2.1.1 u.1.2.2.1.2.2.2.2.2.2.2.2.2.2.2.2.2.2.2.2.2.2.2.2.1.2.1 u.1.2.2.1.2.2.2.2.2.2.2.2.2.2.2.2.2.2.2.2.2.2.2.2.2.1.1 u.1.2.2.1.2.2.2.2.2.2.2.2.2.2.2.2.2.2.2.2.2.2.2.2.2.1.2.1 u.1.2.2.1.2.2.2.2.2.2.2.2.2.2.2.2.2.2.2.2.2.2.2.2.2.2.1.1 u.1.2.2.1.2.2.2.2.2.2.2.2.2.2.2.2.2.2.2.2.2.2.2.2.2.2.1.2.1 u.1.2.2.1.2.2.2.2.2.2.2.2.2.2.2.2.2.2.2.2.2.2.2.2.2.2.2.1.1 u.1.2.2.1.2.2.2.2.2.2.2.2.2.2.2.2.2.2.2.2.2.2.2.2.2.2.2.1.2.1 u.1.2.2.1.2.2.2.2.2.2.2.2.2.2.2.2.2.2.2.2.2.2.2.2.2.2.2.2.1.1 u.1.2.2.1.2.2.2.2.2.2.2.2.2.2.2.2.2.2.2.2.2.2.2.2.2.2.2.2.1.2.1 u.1.2.2.1.2.2.2.2.2.2.2.2.2.2.2.2.2.2.2.2.2.2.2.2.2.2.2.2.2.1.1 u.1.2.2.1.2.2.2.2.2.2.2.2.2.2.2.2.2.2.2.2.2.2.2.2.2.2.2.2.2.1.2.1 u.1.2.2.1.2.2.2.2.2.2.2.2.2.2.2.2.2.2.2.2.2.2.2.2.2.2.2.2.2.2.1.1 u.1.2.2.1.2.2.2.2.2.2.2.2.2.2.2.2.2.2.2.2.2.2.2.2.2.2.2.2.2.2.1.2.1 u.1.2.2.1.2.2.2.2.2.2.2.2.2.2.2.2.2.2.2.2.2.2.2.2.2.2.2.2.2.2.2.1.1 u.1.2.2.1.2.2.2.2.2.2.2.2.2.2.2.2.2.2.2.2.2.2.2.2.2.2.2.2.2.2.2.1.2.1 u.1.2.2.1.2.2.2.2.2.2.2.2.2.2.2.2.2.2.2.2.2.2.2.2.2.2.2.2.2.2.2.2.1.1 u.1.2.2.1.2.2.2.2.2.2.2.2.2.2.2.2.2.2.2.2.2.2.2.2.2.2.2.2.2.2.2.2.1.2.1 u.1.2.2.1.2.2.2.2.2.2.2.2.2.2.2.2.2.2.2.2.2.2.2.2.2.2.2.2.2.2.2.2.2.1.1 u.1.2.2.1.2.2.2.2.2.2.2.2.2.2.2.2.2.2.2.2.2.2.2.2.2.2.2.2.2.2.2.2.2.1.2.1 u.1.2.2.1.2.2.2.2.2.2.2.2.2.2.2.2.2.2.2.2.2.2.2.2.2.2.2.2.2.2.2.2.2.2.1.1 u.1.2.2.1.2.2.2.2.2.2.2.2.2.2.2.2.2.2.2.2.2.2.2.2.2.2.2.2.2.2.2.2.2.2.1.2.1 u.1.2.2.1.2.2.2.2.2.2.2.2.2.2.2.2.2.2.2.2.2.2.2.2.2.2.2.2.2.2.2.2.2.2.2.1.1 u.1.2.2.1.2.2.2.2.2.2.2.2.2.2.2.2.2.2.2.2.2.2.2.2.2.2.2.2.2.2.2.2.2.2.2.1.2.1 t.2.1 K
noncomputable def l_zav : List (Nat × Entry) := [(33, e_zax), (34, e_zaz)]
noncomputable def E_zav : Env := ⟨look tys, look l_zav, look [], gl, yaR [], false⟩
theorem X_zav.eq (a1 : Int) (K : EV → yah → Prop) : yci E_zav Tryd.f12 false [.nilPtr, .int .i64 a1] [] K = zav a1 (fun y0 y1 => K (EV.tuple [EV.int IntKind.u64 y0, EV.int IntKind.i64 y1]) []) := by
 rw [zav.is]; exact (yar _ _ _ _ _ _).symm.trans (by kernel_rfl)
theorem X_zav.ok : SoundE Tryd.prog gl 12 e_zav := by
 refine ydp (E := E_zav) (fn := Tryd.f12) rfl tys_ok rfl (show ycF _ l_zav from ⟨X_zax.ok, X_zaz.ok, trivial⟩) mixed (by kernel_rfl) (by kernel_rfl) (by kernel_rfl) 0 (by kernel_rfl) false trivial ?_
 intro args H
 by_cases hx : ∃ (a1 : Int), args = [.nilPtr, .int .i64 a1] ∧ H = []
 ·obtain ⟨a1, rfl, rfl⟩ := hx
  right; intro K
  exact iff_of_eq (X_zav.eq a1 K).symm
 ·left; intro K h
  simp only [e_zav] at h
  split at h
  ·exact hx ⟨_, rfl, rfl⟩
  ·exact h
theorem X_zau.ok : SoundE Tryd.prog gl 12 e_zau := SoundE.pick X_regs_Regs_X_0.ok (X_zav.ok)
end Go.Ev.S
