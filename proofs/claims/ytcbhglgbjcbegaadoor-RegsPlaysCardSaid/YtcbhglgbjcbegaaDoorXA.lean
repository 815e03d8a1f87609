/- The functions of the seat: that the evaluator has them as they are. -/
import Derived.Test.YtcbhglgbjcbegaaDoorProg
import Derived.Test.YtcbhglgbjcbegaaDoorEvD
import Derived.Test.YtcbhglgbjcbegaaDoorDA
import Derived.Test.YtcbhglgbjcbegaaDoorLA
import Derived.KernelRfl
set_option maxRecDepth 100000
set_option linter.unusedVariables false
set_option linter.unusedSimpArgs false
namespace Go.Ev.S
open Go Go.Proofs Go.Ev
def tys : List (Nat × TI) := [
  (1, ⟨.func, 1, 8, .nilFunc⟩),
  (2, ⟨.int .i64, 1, 8, .int .i64 0⟩),
  (3, ⟨.int .i64, 1, 8, .int .i64 0⟩),
  (4, ⟨.bool, 1, 1, .bool false⟩),
  (5, ⟨.int .u8, 1, 1, .int .u8 0⟩),
  (6, ⟨.int .u8, 1, 1, .int .u8 0⟩),
  (7, ⟨.struct [(0, 2), (1, 3), (2, 4), (3, 6)], 4, 24, .agg [.int .i64 0, .int .i64 0, .bool false, .int .u8 0]⟩),
  (8, ⟨.struct [(0, 2), (1, 3), (2, 4), (3, 6)], 4, 24, .agg [.int .i64 0, .int .i64 0, .bool false, .int .u8 0]⟩),
  (9, ⟨.str, 1, 16, .str []⟩),
  (10, ⟨.str, 1, 16, .str []⟩),
  (11, ⟨.str, 1, 16, .str []⟩),
  (12, ⟨.int .u64, 1, 8, .int .u64 0⟩),
  (15, ⟨.ptr, 1, 8, .nilPtr⟩),
  (16, ⟨.ptr, 1, 8, .nilPtr⟩),
  (17, ⟨.ptr, 1, 8, .nilPtr⟩),
  (20, ⟨.iface, 1, 16, .nilIface⟩),
  (21, ⟨.int .i32, 1, 4, .int .i32 0⟩),
  (22, ⟨.int .i64, 1, 8, .int .i64 0⟩),
  (24, ⟨.func, 1, 8, .nilFunc⟩),
  (26, ⟨.func, 1, 8, .nilFunc⟩),
  (27, ⟨.func, 1, 8, .nilFunc⟩),
  (28, ⟨.func, 1, 8, .nilFunc⟩),
  (29, ⟨.int .u8, 1, 1, .int .u8 0⟩),
  (30, ⟨.int .u64, 1, 8, .int .u64 0⟩),
  (31, ⟨.struct [(0, 30), (1, 30)], 2, 16, .agg [.int .u64 0, .int .u64 0]⟩),
  (32, ⟨.struct [(0, 30), (1, 30)], 2, 16, .agg [.int .u64 0, .int .u64 0]⟩),
  (33, ⟨.struct [(0, 4), (1, 3), (2, 30), (3, 32)], 5, 40, .agg [.bool false, .int .i64 0, .int .u64 0, .agg [.int .u64 0, .int .u64 0]]⟩),
  (34, ⟨.struct [(0, 4), (1, 3), (2, 30), (3, 32)], 5, 40, .agg [.bool false, .int .i64 0, .int .u64 0, .agg [.int .u64 0, .int .u64 0]]⟩),
  (35, ⟨.ptr, 1, 8, .nilPtr⟩),
  (36, ⟨.array 32 30, 32, 256, .arr .u64 32 (fun _ => 0)⟩),
  (37, ⟨.array 32 32, 64, 512, .arrT 32 (.agg [.int .u64, .int .u64]) z2⟩),
  (38, ⟨.struct [(0, 4), (1, 36), (33, 37)], 97, 776, .agg [.bool false, .arr .u64 32 (fun _ => 0), .arrT 32 (.agg [.int .u64, .int .u64]) z2]⟩),
  (39, ⟨.struct [(0, 4), (1, 36), (33, 37)], 97, 776, .agg [.bool false, .arr .u64 32 (fun _ => 0), .arrT 32 (.agg [.int .u64, .int .u64]) z2]⟩),
  (40, ⟨.array 2 35, 2, 16, .agg [.nilPtr, .nilPtr]⟩),
  (42, ⟨.func, 1, 8, .nilFunc⟩),
  (44, ⟨.func, 1, 8, .nilFunc⟩),
  (45, ⟨.func, 1, 8, .nilFunc⟩),
  (46, ⟨.slice 34, 1, 24, .nilSlice⟩),
  (48, ⟨.func, 1, 8, .nilFunc⟩),
  (49, ⟨.func, 1, 8, .nilFunc⟩),
  (50, ⟨.func, 1, 8, .nilFunc⟩),
  (51, ⟨.func, 1, 8, .nilFunc⟩),
  (52, ⟨.func, 1, 8, .nilFunc⟩),
  (53, ⟨.func, 1, 8, .nilFunc⟩),
  (54, ⟨.struct [(0, 36), (32, 37)], 96, 768, .agg [.arr .u64 32 (fun _ => 0), .arrT 32 (.agg [.int .u64, .int .u64]) z2]⟩),
  (55, ⟨.struct [(0, 36), (32, 37)], 96, 768, .agg [.arr .u64 32 (fun _ => 0), .arrT 32 (.agg [.int .u64, .int .u64]) z2]⟩),
  (56, ⟨.func, 1, 8, .nilFunc⟩),
  (57, ⟨.func, 1, 8, .nilFunc⟩),
  (58, ⟨.func, 1, 8, .nilFunc⟩),
  (59, ⟨.slice 64, 1, 24, .nilSlice⟩),
  (60, ⟨.func, 1, 8, .nilFunc⟩),
  (61, ⟨.func, 1, 8, .nilFunc⟩),
  (62, ⟨.array 2 55, 192, 1536, .agg [.agg [.arr .u64 32 (fun _ => 0), .arrT 32 (.agg [.int .u64, .int .u64]) z2], .agg [.arr .u64 32 (fun _ => 0), .arrT 32 (.agg [.int .u64, .int .u64]) z2]]⟩),
  (63, ⟨.struct [(0, 3), (1, 3), (2, 3), (3, 30), (4, 32), (6, 29), (7, 46)], 8, 80, .agg [.int .i64 0, .int .i64 0, .int .i64 0, .int .u64 0, .agg [.int .u64 0, .int .u64 0], .int .u8 0, .nilSlice]⟩),
  (64, ⟨.struct [(0, 3), (1, 3), (2, 3), (3, 30), (4, 32), (6, 29), (7, 46)], 8, 80, .agg [.int .i64 0, .int .i64 0, .int .i64 0, .int .u64 0, .agg [.int .u64 0, .int .u64 0], .int .u8 0, .nilSlice]⟩),
  (66, ⟨.func, 1, 8, .nilFunc⟩),
  (67, ⟨.func, 1, 8, .nilFunc⟩),
  (68, ⟨.func, 1, 8, .nilFunc⟩),
  (69, ⟨.func, 1, 8, .nilFunc⟩),
  (70, ⟨.func, 1, 8, .nilFunc⟩),
  (71, ⟨.func, 1, 8, .nilFunc⟩),
  (72, ⟨.iface, 1, 16, .nilIface⟩),
  (73, ⟨.iface, 1, 16, .nilIface⟩),
  (75, ⟨.func, 1, 8, .nilFunc⟩),
  (76, ⟨.ptr, 1, 8, .nilPtr⟩),
  (77, ⟨.func, 1, 8, .nilFunc⟩),
  (78, ⟨.ptr, 1, 8, .nilPtr⟩),
  (79, ⟨.func, 1, 8, .nilFunc⟩),
  (80, ⟨.func, 1, 8, .nilFunc⟩),
  (82, ⟨.func, 1, 8, .nilFunc⟩),
  (83, ⟨.func, 1, 8, .nilFunc⟩),
  (84, ⟨.func, 1, 8, .nilFunc⟩),
  (85, ⟨.func, 1, 8, .nilFunc⟩),
  (86, ⟨.func, 1, 8, .nilFunc⟩),
  (87, ⟨.func, 1, 8, .nilFunc⟩),
  (88, ⟨.func, 1, 8, .nilFunc⟩),
  (89, ⟨.slice 5, 1, 24, .nilSlice⟩),
  (90, ⟨.func, 1, 8, .nilFunc⟩),
  (91, ⟨.func, 1, 8, .nilFunc⟩),
  (92, ⟨.func, 1, 8, .nilFunc⟩),
  (93, ⟨.func, 1, 8, .nilFunc⟩),
  (94, ⟨.func, 1, 8, .nilFunc⟩),
  (95, ⟨.func, 1, 8, .nilFunc⟩),
  (96, ⟨.func, 1, 8, .nilFunc⟩),
  (97, ⟨.int .i64, 1, 8, .int .i64 0⟩),
  (99, ⟨.func, 1, 8, .nilFunc⟩),
  (100, ⟨.ptr, 1, 8, .nilPtr⟩),
  (101, ⟨.func, 1, 8, .nilFunc⟩),
  (102, ⟨.func, 1, 8, .nilFunc⟩),
  (103, ⟨.func, 1, 8, .nilFunc⟩),
  (104, ⟨.func, 1, 8, .nilFunc⟩),
  (105, ⟨.int .u64, 1, 8, .int .u64 0⟩),
  (106, ⟨.array 4 32, 8, 64, .agg [.agg [.int .u64 0, .int .u64 0], .agg [.int .u64 0, .int .u64 0], .agg [.int .u64 0, .int .u64 0], .agg [.int .u64 0, .int .u64 0]]⟩),
  (107, ⟨.func, 1, 8, .nilFunc⟩),
  (108, ⟨.func, 1, 8, .nilFunc⟩),
  (109, ⟨.array 24 5, 24, 24, .arr .u8 24 (fun _ => 0)⟩),
  (110, ⟨.func, 1, 8, .nilFunc⟩),
  (111, ⟨.func, 1, 8, .nilFunc⟩),
  (113, ⟨.func, 1, 8, .nilFunc⟩),
  (115, ⟨.func, 1, 8, .nilFunc⟩),
  (116, ⟨.func, 1, 8, .nilFunc⟩),
  (119, ⟨.func, 1, 8, .nilFunc⟩),
  (121, ⟨.func, 1, 8, .nilFunc⟩),
  (122, ⟨.func, 1, 8, .nilFunc⟩),
  (123, ⟨.func, 1, 8, .nilFunc⟩),
  (124, ⟨.array 20 30, 20, 160, .arr .u64 20 (fun _ => 0)⟩),
  (125, ⟨.int .u32, 1, 4, .int .u32 0⟩),
  (126, ⟨.array 65 5, 65, 65, .arr .u8 65 (fun _ => 0)⟩),
  (127, ⟨.func, 1, 8, .nilFunc⟩),
  (128, ⟨.func, 1, 8, .nilFunc⟩),
  (129, ⟨.func, 1, 8, .nilFunc⟩),
  (130, ⟨.ptr, 1, 8, .nilPtr⟩),
  (131, ⟨.ptr, 1, 8, .nilPtr⟩),
  (132, ⟨.struct [(0, 9)], 1, 16, .agg [.str []]⟩),
  (133, ⟨.struct [(0, 9)], 1, 16, .agg [.str []]⟩),
  (134, ⟨.struct [(0, 3), (1, 3), (2, 3), (3, 9)], 4, 40, .agg [.int .i64 0, .int .i64 0, .int .i64 0, .str []]⟩),
  (135, ⟨.array 4 134, 16, 160, .agg [.agg [.int .i64 0, .int .i64 0, .int .i64 0, .str []], .agg [.int .i64 0, .int .i64 0, .int .i64 0, .str []], .agg [.int .i64 0, .int .i64 0, .int .i64 0, .str []], .agg [.int .i64 0, .int .i64 0, .int .i64 0, .str []]]⟩),
  (136, ⟨.func, 1, 8, .nilFunc⟩),
  (137, ⟨.array 32 5, 32, 32, .arr .u8 32 (fun _ => 0)⟩),
  (138, ⟨.array 64 5, 64, 64, .arr .u8 64 (fun _ => 0)⟩),
  (139, ⟨.func, 1, 8, .nilFunc⟩),
  (142, ⟨.array 0 16, 0, 0, .agg []⟩),
  (145, ⟨.func, 1, 8, .nilFunc⟩),
  (146, ⟨.int .u8, 1, 1, .int .u8 0⟩),
  (147, ⟨.int .u8, 1, 1, .int .u8 0⟩),
  (148, ⟨.func, 1, 8, .nilFunc⟩),
  (149, ⟨.int .i32, 1, 4, .int .i32 0⟩),
  (150, ⟨.int .i32, 1, 4, .int .i32 0⟩)]
theorem tys_ok : AllL (OkTI Tryd.prog) tys :=
  ⟨.of (by kernel_rfl) (by kernel_rfl), .of (by kernel_rfl) (by kernel_rfl), .of (by kernel_rfl) (by kernel_rfl), .of (by kernel_rfl) (by kernel_rfl), .of (by kernel_rfl) (by kernel_rfl), .of (by kernel_rfl) (by kernel_rfl), .of (by kernel_rfl) (by kernel_rfl), .of (by kernel_rfl) (by kernel_rfl), .of (by kernel_rfl) (by kernel_rfl), .of (by kernel_rfl) (by kernel_rfl), .of (by kernel_rfl) (by kernel_rfl), .of (by kernel_rfl) (by kernel_rfl), .of (by kernel_rfl) (by kernel_rfl), .of (by kernel_rfl) (by kernel_rfl), .of (by kernel_rfl) (by kernel_rfl), .of (by kernel_rfl) (by kernel_rfl), .of (by kernel_rfl) (by kernel_rfl), .of (by kernel_rfl) (by kernel_rfl), .of (by kernel_rfl) (by kernel_rfl), .of (by kernel_rfl) (by kernel_rfl), .of (by kernel_rfl) (by kernel_rfl), .of (by kernel_rfl) (by kernel_rfl), .of (by kernel_rfl) (by kernel_rfl), .of (by kernel_rfl) (by kernel_rfl), .of (by kernel_rfl) (by kernel_rfl), .of (by kernel_rfl) (by kernel_rfl), .of (by kernel_rfl) (by kernel_rfl), .of (by kernel_rfl) (by kernel_rfl), .of (by kernel_rfl) (by kernel_rfl), .of (by kernel_rfl) (by kernel_rfl), .of (by kernel_rfl) (by kernel_rfl), .of (by kernel_rfl) (by kernel_rfl), .of (by kernel_rfl) (by kernel_rfl), .of (by kernel_rfl) (by kernel_rfl), .of (by kernel_rfl) (by kernel_rfl), .of (by kernel_rfl) (by kernel_rfl), .of (by kernel_rfl) (by kernel_rfl), .of (by kernel_rfl) (by kernel_rfl), .of (by kernel_rfl) (by kernel_rfl), .of (by kernel_rfl) (by kernel_rfl), .of (by kernel_rfl) (by kernel_rfl), .of (by kernel_rfl) (by kernel_rfl), .of (by kernel_rfl) (by kernel_rfl), .of (by kernel_rfl) (by kernel_rfl), .of (by kernel_rfl) (by kernel_rfl), .of (by kernel_rfl) (by kernel_rfl), .of (by kernel_rfl) (by kernel_rfl), .of (by kernel_rfl) (by kernel_rfl), .of (by kernel_rfl) (by kernel_rfl), .of (by kernel_rfl) (by kernel_rfl), .of (by kernel_rfl) (by kernel_rfl), .of (by kernel_rfl) (by kernel_rfl), .of (by kernel_rfl) (by kernel_rfl), .of (by kernel_rfl) (by kernel_rfl), .of (by kernel_rfl) (by kernel_rfl), .of (by kernel_rfl) (by kernel_rfl), .of (by kernel_rfl) (by kernel_rfl), .of (by kernel_rfl) (by kernel_rfl), .of (by kernel_rfl) (by kernel_rfl), .of (by kernel_rfl) (by kernel_rfl), .of (by kernel_rfl) (by kernel_rfl), .of (by kernel_rfl) (by kernel_rfl), .of (by kernel_rfl) (by kernel_rfl), .of (by kernel_rfl) (by kernel_rfl), .of (by kernel_rfl) (by kernel_rfl), .of (by kernel_rfl) (by kernel_rfl), .of (by kernel_rfl) (by kernel_rfl), .of (by kernel_rfl) (by kernel_rfl), .of (by kernel_rfl) (by kernel_rfl), .of (by kernel_rfl) (by kernel_rfl), .of (by kernel_rfl) (by kernel_rfl), .of (by kernel_rfl) (by kernel_rfl), .of (by kernel_rfl) (by kernel_rfl), .of (by kernel_rfl) (by kernel_rfl), .of (by kernel_rfl) (by kernel_rfl), .of (by kernel_rfl) (by kernel_rfl), .of (by kernel_rfl) (by kernel_rfl), .of (by kernel_rfl) (by kernel_rfl), .of (by kernel_rfl) (by kernel_rfl), .of (by kernel_rfl) (by kernel_rfl), .of (by kernel_rfl) (by kernel_rfl), .of (by kernel_rfl) (by kernel_rfl), .of (by kernel_rfl) (by kernel_rfl), .of (by kernel_rfl) (by kernel_rfl), .of (by kernel_rfl) (by kernel_rfl), .of (by kernel_rfl) (by kernel_rfl), .of (by kernel_rfl) (by kernel_rfl), .of (by kernel_rfl) (by kernel_rfl), .of (by kernel_rfl) (by kernel_rfl), .of (by kernel_rfl) (by kernel_rfl), .of (by kernel_rfl) (by kernel_rfl), .of (by kernel_rfl) (by kernel_rfl), .of (by kernel_rfl) (by kernel_rfl), .of (by kernel_rfl) (by kernel_rfl), .of (by kernel_rfl) (by kernel_rfl), .of (by kernel_rfl) (by kernel_rfl), .of (by kernel_rfl) (by kernel_rfl), .of (by kernel_rfl) (by kernel_rfl), .of (by kernel_rfl) (by kernel_rfl), .of (by kernel_rfl) (by kernel_rfl), .of (by kernel_rfl) (by kernel_rfl), .of (by kernel_rfl) (by kernel_rfl), .of (by kernel_rfl) (by kernel_rfl), .of (by kernel_rfl) (by kernel_rfl), .of (by kernel_rfl) (by kernel_rfl), .of (by kernel_rfl) (by kernel_rfl), .of (by kernel_rfl) (by kernel_rfl), .of (by kernel_rfl) (by kernel_rfl), .of (by kernel_rfl) (by kernel_rfl), .of (by kernel_rfl) (by kernel_rfl), .of (by kernel_rfl) (by kernel_rfl), .of (by kernel_rfl) (by kernel_rfl), .of (by kernel_rfl) (by kernel_rfl), .of (by kernel_rfl) (by kernel_rfl), .of (by kernel_rfl) (by kernel_rfl), .of (by kernel_rfl) (by kernel_rfl), .of (by kernel_rfl) (by kernel_rfl), .of (by kernel_rfl) (by kernel_rfl), .of (by kernel_rfl) (by kernel_rfl), .of (by kernel_rfl) (by kernel_rfl), .of (by kernel_rfl) (by kernel_rfl), .of (by kernel_rfl) (by kernel_rfl), .of (by kernel_rfl) (by kernel_rfl), .of (by kernel_rfl) (by kernel_rfl), .of (by kernel_rfl) (by kernel_rfl), .of (by kernel_rfl) (by kernel_rfl), .of (by kernel_rfl) (by kernel_rfl), .of (by kernel_rfl) (by kernel_rfl), trivial⟩
theorem mixed : Tryd.prog.follows .mixedOrders = true := by kernel_rfl
noncomputable def gl : Nat → Option EV := look [(4, .arr .u8 64 tab_deBruijn64tab), (0, .iface 131 (.rref (.str [105, 110, 118, 97, 108, 105, 100, 32, 115, 121, 110, 116, 97, 120]))), (1, .iface 131 (.rref (.str [118, 97, 108, 117, 101, 32, 111, 117, 116, 32, 111, 102, 32, 114, 97, 110, 103, 101]))), (2, .arr .u64 20 tab_pow10)]
open Go.Shelf in
def lays_strconv_Itoa_ren : Go.Shelf.Ren := ⟨fun | 171 => 29 | 243 => 47 | 246 => 60 | 283 => 75 | 284 => 76 | 285 => 77 | 286 => 78 | 129 => 84 | 317 => 83 | 318 => 85 | 319 => 86 | 320 => 87 | 337 => 90 | 338 => 91 | n => n, fun | 3 => 3 | 9 => 9 | 2 => 2 | 4 => 4 | 171 => 109 | 0 => 0 | 53 => 30 | 37 => 89 | 5 => 5 | 173 => 112 | 212 => 124 | 51 => 125 | 20 => 20 | 213 => 126 | 46 => 105 | 232 => 137 | 233 => 138 | n => n, fun | 17 => 2 | 18 => 3 | 19 => 4 | n => n⟩
open Go.Shelf in
theorem lays_strconv_Itoa : Go.Proofs.LaysM.n171 Tryd.prog lays_strconv_Itoa_ren where
  mixed := by kernel_rfl
  f129 := Tryd.func84.trans (congrArg some (by kernel_rfl))
  f171 := Tryd.func29.trans (congrArg some (by kernel_rfl))
  f243 := Tryd.func47.trans (congrArg some (by kernel_rfl))
  f246 := Tryd.func60.trans (congrArg some (by kernel_rfl))
  f283 := Tryd.func75.trans (congrArg some (by kernel_rfl))
  f284 := Tryd.func76.trans (congrArg some (by kernel_rfl))
  f285 := Tryd.func77.trans (congrArg some (by kernel_rfl))
  f286 := Tryd.func78.trans (congrArg some (by kernel_rfl))
  f317 := Tryd.func83.trans (congrArg some (by kernel_rfl))
  f318 := Tryd.func85.trans (congrArg some (by kernel_rfl))
  f319 := Tryd.func86.trans (congrArg some (by kernel_rfl))
  f320 := Tryd.func87.trans (congrArg some (by kernel_rfl))
  f337 := Tryd.func90.trans (congrArg some (by kernel_rfl))
  f338 := Tryd.func91.trans (congrArg some (by kernel_rfl))
  t0 := Tryd.underlying0
  a0 := Tryd.isAgg0
  z0 := Tryd.sizeOf0
  v0 := Tryd.zeroValue0
  t2 := Tryd.underlying2
  a2 := Tryd.isAgg2
  z2 := Tryd.sizeOf2
  v2 := Tryd.zeroValue2
  t3 := Tryd.underlying3
  a3 := Tryd.isAgg3
  z3 := Tryd.sizeOf3
  v3 := Tryd.zeroValue3
  t4 := Tryd.underlying4
  a4 := Tryd.isAgg4
  z4 := Tryd.sizeOf4
  v4 := Tryd.zeroValue4
  t5 := Tryd.underlying5
  a5 := Tryd.isAgg5
  z5 := Tryd.sizeOf5
  v5 := Tryd.zeroValue5
  t9 := Tryd.underlying9
  a9 := Tryd.isAgg9
  z9 := Tryd.sizeOf9
  v9 := Tryd.zeroValue9
  t20 := Tryd.underlying20
  a20 := Tryd.isAgg20
  z20 := Tryd.sizeOf20
  v20 := Tryd.zeroValue20
  t37 := Tryd.underlying89
  a37 := Tryd.isAgg89
  z37 := Tryd.sizeOf89
  v37 := Tryd.zeroValue89
  t46 := Tryd.underlying105
  a46 := Tryd.isAgg105
  z46 := Tryd.sizeOf105
  v46 := Tryd.zeroValue105
  t51 := Tryd.underlying125
  a51 := Tryd.isAgg125
  z51 := Tryd.sizeOf125
  v51 := Tryd.zeroValue125
  t53 := Tryd.underlying30
  a53 := Tryd.isAgg30
  z53 := Tryd.sizeOf30
  v53 := Tryd.zeroValue30
  t171 := Tryd.underlying109
  a171 := Tryd.isAgg109
  z171 := Tryd.sizeOf109
  v171 := Tryd.zeroValue109
  t173 := Tryd.underlying112
  a173 := Tryd.isAgg112
  z173 := Tryd.sizeOf112
  v173 := Tryd.zeroValue112
  t212 := Tryd.underlying124
  a212 := Tryd.isAgg124
  z212 := Tryd.sizeOf124
  v212 := Tryd.zeroValue124
  t213 := Tryd.underlying126
  a213 := Tryd.isAgg126
  z213 := Tryd.sizeOf126
  t232 := Tryd.underlying137
  a232 := Tryd.isAgg137
  z232 := Tryd.sizeOf137
  v232 := Tryd.zeroValue137
  t233 := Tryd.underlying138
  a233 := Tryd.isAgg138
  z233 := Tryd.sizeOf138
  v233 := Tryd.zeroValue138
  g17 := by kernel_rfl
  g18 := by kernel_rfl
  g19 := by kernel_rfl
  i0 := by kernel_rfl
  i2 := by kernel_rfl
  i3 := by kernel_rfl
  i4 := by kernel_rfl
  i5 := by kernel_rfl
  i9 := by kernel_rfl
  i20 := by kernel_rfl
  i37 := by kernel_rfl
  i46 := by kernel_rfl
  i51 := by kernel_rfl
  i53 := by kernel_rfl
  i171 := by kernel_rfl
  i173 := by kernel_rfl
  i212 := by kernel_rfl
  i232 := by kernel_rfl
  i233 := by kernel_rfl
  m17 := by kernel_rfl
  m18 := by kernel_rfl
  m19 := by kernel_rfl
theorem X_strconv_Itoa.ok : SoundE Tryd.prog gl 29 e_strconv_Itoa := itoa_ok (g := 2) lays_strconv_Itoa (by kernel_rfl) (by kernel_rfl) (by kernel_rfl) ⟨_, Tryd.func29, by kernel_rfl, by kernel_rfl⟩
noncomputable def e_regs_Name : Entry := ⟨[none, none], false, fun args H K => match args, H with
  | [.bool a0, .int .i64 a1], [] => regs_Name a0 a1 (fun y0 y1 => K (EV.tuple [EV.str y0, EV.int IntKind.i64 y1]) [])
  | _, _ => False⟩
noncomputable def l_regs_Name : List (Nat × Entry) := [(29, e_strconv_Itoa)]
noncomputable def E_regs_Name : Env := ⟨look tys, look l_regs_Name, look [], gl, lookL [], false⟩
theorem X_regs_Name.eq (a0 : Bool) (a1 : Int) (K : EV → Heap → Prop) : evFn E_regs_Name Tryd.f7 false [.bool a0, .int .i64 a1] [] K = regs_Name a0 a1 (fun y0 y1 => K (EV.tuple [EV.str y0, EV.int IntKind.i64 y1]) []) := by
  rw [regs_Name.is]; exact (evFnQ_eq _ _ _ _ _ _).symm.trans (by kernel_rfl)
theorem X_regs_Name.ok : SoundE Tryd.prog gl 7 e_regs_Name := by
  refine fnOK (E := E_regs_Name) (fn := Tryd.f7) rfl tys_ok rfl (show AllL _ l_regs_Name from ⟨X_strconv_Itoa.ok, trivial⟩) mixed (by kernel_rfl) (by kernel_rfl) (by kernel_rfl) 0 (by kernel_rfl) false trivial ?_
  intro args H
  by_cases hx : ∃ (a0 : Bool) (a1 : Int), args = [.bool a0, .int .i64 a1] ∧ H = []
  · obtain ⟨a0, a1, rfl, rfl⟩ := hx
    right; intro K
    exact iff_of_eq (X_regs_Name.eq a0 a1 K).symm
  · left; intro K h
    simp only [e_regs_Name] at h
    split at h
    · exact hx ⟨_, _, rfl, rfl⟩
    · exact h
open Go.Shelf in
def lays_strconv_Atoi_ren : Go.Shelf.Ren := ⟨fun | 172 => 32 | 244 => 48 | 245 => 49 | 247 => 61 | 279 => 62 | 280 => 63 | 281 => 64 | 282 => 65 | 287 => 79 | 316 => 80 | 171 => 29 | 205 => 81 | 321 => 88 | 322 => 89 | 243 => 47 | 246 => 60 | 283 => 75 | 284 => 76 | 285 => 77 | 286 => 78 | 129 => 84 | 317 => 83 | 318 => 85 | 319 => 86 | 320 => 87 | 337 => 90 | 338 => 91 | n => n, fun | 9 => 9 | 3 => 3 | 75 => 73 | 76 => 74 | 4 => 4 | 5 => 5 | 167 => 97 | 37 => 89 | 0 => 0 | 85 => 98 | 2 => 2 | 168 => 100 | 53 => 30 | 175 => 114 | 46 => 105 | 210 => 118 | 127 => 130 | 145 => 133 | 143 => 131 | 21 => 21 | 171 => 109 | 173 => 112 | 212 => 124 | 51 => 125 | 20 => 20 | 213 => 126 | 232 => 137 | 233 => 138 | 80 => 139 | n => n, fun | 15 => 0 | 16 => 1 | 17 => 2 | 18 => 3 | 19 => 4 | n => n⟩
open Go.Shelf in
theorem lays_strconv_Atoi : Go.Proofs.LaysC.n172 Tryd.prog lays_strconv_Atoi_ren where
  mixed := by kernel_rfl
  f129 := Tryd.func84.trans (congrArg some (by kernel_rfl))
  f171 := Tryd.func29.trans (congrArg some (by kernel_rfl))
  f172 := Tryd.func32.trans (congrArg some (by kernel_rfl))
  f205 := Tryd.func81.trans (congrArg some (by kernel_rfl))
  f243 := Tryd.func47.trans (congrArg some (by kernel_rfl))
  f244 := Tryd.func48.trans (congrArg some (by kernel_rfl))
  f245 := Tryd.func49.trans (congrArg some (by kernel_rfl))
  f246 := Tryd.func60.trans (congrArg some (by kernel_rfl))
  f247 := Tryd.func61.trans (congrArg some (by kernel_rfl))
  f279 := Tryd.func62.trans (congrArg some (by kernel_rfl))
  f280 := Tryd.func63.trans (congrArg some (by kernel_rfl))
  f281 := Tryd.func64.trans (congrArg some (by kernel_rfl))
  f282 := Tryd.func65.trans (congrArg some (by kernel_rfl))
  f283 := Tryd.func75.trans (congrArg some (by kernel_rfl))
  f284 := Tryd.func76.trans (congrArg some (by kernel_rfl))
  f285 := Tryd.func77.trans (congrArg some (by kernel_rfl))
  f286 := Tryd.func78.trans (congrArg some (by kernel_rfl))
  f287 := Tryd.func79.trans (congrArg some (by kernel_rfl))
  f316 := Tryd.func80.trans (congrArg some (by kernel_rfl))
  f317 := Tryd.func83.trans (congrArg some (by kernel_rfl))
  f318 := Tryd.func85.trans (congrArg some (by kernel_rfl))
  f319 := Tryd.func86.trans (congrArg some (by kernel_rfl))
  f320 := Tryd.func87.trans (congrArg some (by kernel_rfl))
  f321 := Tryd.func88.trans (congrArg some (by kernel_rfl))
  f322 := Tryd.func89.trans (congrArg some (by kernel_rfl))
  f337 := Tryd.func90.trans (congrArg some (by kernel_rfl))
  f338 := Tryd.func91.trans (congrArg some (by kernel_rfl))
  t0 := Tryd.underlying0
  a0 := Tryd.isAgg0
  z0 := Tryd.sizeOf0
  v0 := Tryd.zeroValue0
  t2 := Tryd.underlying2
  a2 := Tryd.isAgg2
  z2 := Tryd.sizeOf2
  v2 := Tryd.zeroValue2
  t3 := Tryd.underlying3
  a3 := Tryd.isAgg3
  z3 := Tryd.sizeOf3
  v3 := Tryd.zeroValue3
  t4 := Tryd.underlying4
  a4 := Tryd.isAgg4
  z4 := Tryd.sizeOf4
  v4 := Tryd.zeroValue4
  t5 := Tryd.underlying5
  a5 := Tryd.isAgg5
  z5 := Tryd.sizeOf5
  v5 := Tryd.zeroValue5
  t9 := Tryd.underlying9
  a9 := Tryd.isAgg9
  z9 := Tryd.sizeOf9
  v9 := Tryd.zeroValue9
  t20 := Tryd.underlying20
  a20 := Tryd.isAgg20
  z20 := Tryd.sizeOf20
  v20 := Tryd.zeroValue20
  t21 := Tryd.underlying21
  a21 := Tryd.isAgg21
  z21 := Tryd.sizeOf21
  v21 := Tryd.zeroValue21
  t37 := Tryd.underlying89
  a37 := Tryd.isAgg89
  z37 := Tryd.sizeOf89
  v37 := Tryd.zeroValue89
  t46 := Tryd.underlying105
  a46 := Tryd.isAgg105
  z46 := Tryd.sizeOf105
  v46 := Tryd.zeroValue105
  t51 := Tryd.underlying125
  a51 := Tryd.isAgg125
  z51 := Tryd.sizeOf125
  v51 := Tryd.zeroValue125
  t53 := Tryd.underlying30
  a53 := Tryd.isAgg30
  z53 := Tryd.sizeOf30
  v53 := Tryd.zeroValue30
  t75 := Tryd.underlying73
  a75 := Tryd.isAgg73
  z75 := Tryd.sizeOf73
  v75 := Tryd.zeroValue73
  t76 := Tryd.underlying74
  a76 := Tryd.isAgg74
  z76 := Tryd.sizeOf74
  v76 := Tryd.zeroValue74
  t85 := Tryd.underlying98
  a85 := Tryd.isAgg98
  z85 := Tryd.sizeOf98
  v85 := Tryd.zeroValue98
  t127 := Tryd.underlying130
  a127 := Tryd.isAgg130
  z127 := Tryd.sizeOf130
  v127 := Tryd.zeroValue130
  t143 := Tryd.underlying131
  a143 := Tryd.isAgg131
  z143 := Tryd.sizeOf131
  v143 := Tryd.zeroValue131
  t145 := Tryd.underlying133
  a145 := Tryd.isAgg133
  z145 := Tryd.sizeOf133
  v145 := Tryd.zeroValue133
  t167 := Tryd.underlying97
  a167 := Tryd.isAgg97
  z167 := Tryd.sizeOf97
  v167 := Tryd.zeroValue97
  t168 := Tryd.underlying100
  a168 := Tryd.isAgg100
  z168 := Tryd.sizeOf100
  v168 := Tryd.zeroValue100
  t171 := Tryd.underlying109
  a171 := Tryd.isAgg109
  z171 := Tryd.sizeOf109
  v171 := Tryd.zeroValue109
  t173 := Tryd.underlying112
  a173 := Tryd.isAgg112
  z173 := Tryd.sizeOf112
  v173 := Tryd.zeroValue112
  t175 := Tryd.underlying114
  a175 := Tryd.isAgg114
  z175 := Tryd.sizeOf114
  v175 := Tryd.zeroValue114
  t210 := Tryd.underlying118
  a210 := Tryd.isAgg118
  z210 := Tryd.sizeOf118
  v210 := Tryd.zeroValue118
  t212 := Tryd.underlying124
  a212 := Tryd.isAgg124
  z212 := Tryd.sizeOf124
  v212 := Tryd.zeroValue124
  t213 := Tryd.underlying126
  a213 := Tryd.isAgg126
  z213 := Tryd.sizeOf126
  t232 := Tryd.underlying137
  a232 := Tryd.isAgg137
  z232 := Tryd.sizeOf137
  v232 := Tryd.zeroValue137
  t233 := Tryd.underlying138
  a233 := Tryd.isAgg138
  z233 := Tryd.sizeOf138
  v233 := Tryd.zeroValue138
  g15 := by kernel_rfl
  g16 := by kernel_rfl
  g17 := by kernel_rfl
  g18 := by kernel_rfl
  g19 := by kernel_rfl
  t80 := Tryd.underlying139
  a80 := Tryd.isAgg139
  z80 := Tryd.sizeOf139
  v80 := Tryd.zeroValue139
  i0 := by kernel_rfl
  i2 := by kernel_rfl
  i3 := by kernel_rfl
  i4 := by kernel_rfl
  i5 := by kernel_rfl
  i9 := by kernel_rfl
  i20 := by kernel_rfl
  i21 := by kernel_rfl
  i37 := by kernel_rfl
  i46 := by kernel_rfl
  i51 := by kernel_rfl
  i53 := by kernel_rfl
  i75 := by kernel_rfl
  i76 := by kernel_rfl
  i80 := by kernel_rfl
  i85 := by kernel_rfl
  i127 := by kernel_rfl
  i143 := by kernel_rfl
  i145 := by kernel_rfl
  i167 := by kernel_rfl
  i168 := by kernel_rfl
  i171 := by kernel_rfl
  i173 := by kernel_rfl
  i175 := by kernel_rfl
  i210 := by kernel_rfl
  i212 := by kernel_rfl
  i232 := by kernel_rfl
  i233 := by kernel_rfl
  m15 := by kernel_rfl
  m16 := by kernel_rfl
  m17 := by kernel_rfl
  m18 := by kernel_rfl
  m19 := by kernel_rfl
  c0 := by kernel_rfl
  c2 := by kernel_rfl
  c3 := by kernel_rfl
  c4 := by kernel_rfl
  c5 := by kernel_rfl
  c9 := by kernel_rfl
  c20 := by kernel_rfl
  c21 := by kernel_rfl
  c37 := by kernel_rfl
  c46 := by kernel_rfl
  c51 := by kernel_rfl
  c53 := by kernel_rfl
  c75 := by kernel_rfl
  c76 := by kernel_rfl
  c80 := by kernel_rfl
  c85 := by kernel_rfl
  c127 := by kernel_rfl
  c143 := by kernel_rfl
  c145 := by kernel_rfl
  c167 := by kernel_rfl
  c168 := by kernel_rfl
  c171 := by kernel_rfl
  c173 := by kernel_rfl
  c175 := by kernel_rfl
  c210 := by kernel_rfl
  c212 := by kernel_rfl
  c213 := by kernel_rfl
  c232 := by kernel_rfl
  c233 := by kernel_rfl
noncomputable def e_strconv_Atoi : Entry := e_strconv_Atoi' 100
theorem X_strconv_Atoi.ok : SoundE Tryd.prog gl 32 e_strconv_Atoi := atoi_ok (t1 := 131) (v1 := .rref (.str [105, 110, 118, 97, 108, 105, 100, 32, 115, 121, 110, 116, 97, 120])) (t2 := 131) (v2 := .rref (.str [118, 97, 108, 117, 101, 32, 111, 117, 116, 32, 111, 102, 32, 114, 97, 110, 103, 101])) lays_strconv_Atoi (by kernel_rfl) (by kernel_rfl) (by kernel_rfl) (by kernel_rfl) ⟨_, Tryd.func32, by kernel_rfl, by kernel_rfl⟩
noncomputable def e_regs_Named : Entry := ⟨[none], false, fun args H K => match args, H with
  | [.str a0], [] => regs_Named a0 (fun y0 y1 y2 => K (EV.tuple [EV.bool y0, EV.int IntKind.i64 y1, EV.int IntKind.i64 y2]) [])
  | _, _ => False⟩
noncomputable def l_regs_Named : List (Nat × Entry) := [(7, e_regs_Name), (32, e_strconv_Atoi)]
noncomputable def E_regs_Named : Env := ⟨look tys, look l_regs_Named, look [], gl, lookL [], false⟩
theorem X_regs_Named.eq (a0 : List UInt8) (K : EV → Heap → Prop) : evFn E_regs_Named Tryd.f9 false [.str a0] [] K = regs_Named a0 (fun y0 y1 y2 => K (EV.tuple [EV.bool y0, EV.int IntKind.i64 y1, EV.int IntKind.i64 y2]) []) := by
  rw [regs_Named.is]; exact (evFnQ_eq _ _ _ _ _ _).symm.trans (by kernel_rfl)
theorem X_regs_Named.ok : SoundE Tryd.prog gl 9 e_regs_Named := by
  refine fnOK (E := E_regs_Named) (fn := Tryd.f9) rfl tys_ok rfl (show AllL _ l_regs_Named from ⟨X_regs_Name.ok, X_strconv_Atoi.ok, trivial⟩) mixed (by kernel_rfl) (by kernel_rfl) (by kernel_rfl) 0 (by kernel_rfl) false trivial ?_
  intro args H
  by_cases hx : ∃ (a0 : List UInt8), args = [.str a0] ∧ H = []
  · obtain ⟨a0, rfl, rfl⟩ := hx
    right; intro K
    exact iff_of_eq (X_regs_Named.eq a0 K).symm
  · left; intro K h
    simp only [e_regs_Named] at h
    split at h
    · exact hx ⟨_, rfl, rfl⟩
    · exact h
noncomputable def e_regs_Regs_none : Entry := ⟨[none], true, fun args H K => match args, H with
  | [.ptr 0 []], [some (.agg [.bool a0_0, .arr .u64 32 a0_1, .arrT 32 (.agg [.int .u64, .int .u64]) a0_2])] => regs_Regs_none a0_0 a0_1 a0_2 (fun y0 y1 y2 y3 => K (EV.bool y0) [some (EV.agg [EV.bool y1, EV.arr IntKind.u64 32 y2, EV.arrT 32 (Sk.agg [Sk.int IntKind.u64, Sk.int IntKind.u64]) y3])])
  | _, _ => False⟩
noncomputable def E_regs_Regs_none : Env := ⟨look tys, look [], look [], gl, lookL [], false⟩
theorem X_regs_Regs_none.eq (a0_0 : Bool) (a0_1 : Nat → Int) (a0_2 : Nat → Nat → Lf) (K : EV → Heap → Prop) : evFn E_regs_Regs_none Tryd.f33 false [.ptr 0 []] [some (.agg [.bool a0_0, .arr .u64 32 a0_1, .arrT 32 (.agg [.int .u64, .int .u64]) a0_2])] K = regs_Regs_none a0_0 a0_1 a0_2 (fun y0 y1 y2 y3 => K (EV.bool y0) [some (EV.agg [EV.bool y1, EV.arr IntKind.u64 32 y2, EV.arrT 32 (Sk.agg [Sk.int IntKind.u64, Sk.int IntKind.u64]) y3])]) := by
  rw [regs_Regs_none.is]; exact (evFnQ_eq _ _ _ _ _ _).symm.trans (by kernel_rfl)
theorem X_regs_Regs_none.ok : SoundE Tryd.prog gl 33 e_regs_Regs_none := by
  refine fnOK (E := E_regs_Regs_none) (fn := Tryd.f33) rfl tys_ok rfl (show AllL _ [] from trivial) mixed (by kernel_rfl) (by kernel_rfl) (by kernel_rfl) 0 (by kernel_rfl) false trivial ?_
  intro args H
  by_cases hx : ∃ (a0_0 : Bool) (a0_1 : Nat → Int) (a0_2 : Nat → Nat → Lf), args = [.ptr 0 []] ∧ H = [some (.agg [.bool a0_0, .arr .u64 32 a0_1, .arrT 32 (.agg [.int .u64, .int .u64]) a0_2])]
  · obtain ⟨a0_0, a0_1, a0_2, rfl, rfl⟩ := hx
    right; intro K
    exact iff_of_eq (X_regs_Regs_none.eq a0_0 a0_1 a0_2 K).symm
  · left; intro K h
    simp only [e_regs_Regs_none] at h
    split at h
    · exact hx ⟨_, _, _, rfl, rfl⟩
    · exact h
noncomputable def e_regs_Regs_word : Entry := ⟨[none, none], true, fun args H K => match args, H with
  | [.ptr 0 [], .int .i64 a1], [some (.agg [.bool a0_0, .arr .u64 32 a0_1, .arrT 32 (.agg [.int .u64, .int .u64]) a0_2])] => regs_Regs_word a0_0 a0_1 a0_2 a1 (fun y0 y1 y2 => K (EV.nilPtr) [some (EV.agg [EV.bool y0, EV.arr IntKind.u64 32 y1, EV.arrT 32 (Sk.agg [Sk.int IntKind.u64, Sk.int IntKind.u64]) y2])]) (fun y0 y1 y2 y3 => K (EV.ptr 0 [1, y0]) [some (EV.agg [EV.bool y1, EV.arr IntKind.u64 32 y2, EV.arrT 32 (Sk.agg [Sk.int IntKind.u64, Sk.int IntKind.u64]) y3])])
  | _, _ => False⟩
noncomputable def E_regs_Regs_word : Env := ⟨look tys, look [], look [], gl, lookL [], false⟩
theorem X_regs_Regs_word.eq (a0_0 : Bool) (a0_1 : Nat → Int) (a0_2 : Nat → Nat → Lf) (a1 : Int) (K : EV → Heap → Prop) : evFn E_regs_Regs_word Tryd.f34 false [.ptr 0 [], .int .i64 a1] [some (.agg [.bool a0_0, .arr .u64 32 a0_1, .arrT 32 (.agg [.int .u64, .int .u64]) a0_2])] K = regs_Regs_word a0_0 a0_1 a0_2 a1 (fun y0 y1 y2 => K (EV.nilPtr) [some (EV.agg [EV.bool y0, EV.arr IntKind.u64 32 y1, EV.arrT 32 (Sk.agg [Sk.int IntKind.u64, Sk.int IntKind.u64]) y2])]) (fun y0 y1 y2 y3 => K (EV.ptr 0 [1, y0]) [some (EV.agg [EV.bool y1, EV.arr IntKind.u64 32 y2, EV.arrT 32 (Sk.agg [Sk.int IntKind.u64, Sk.int IntKind.u64]) y3])]) := by
  rw [regs_Regs_word.is]; exact (evFnQ_eq _ _ _ _ _ _).symm.trans (by kernel_rfl)
theorem X_regs_Regs_word.ok : SoundE Tryd.prog gl 34 e_regs_Regs_word := by
  refine fnOK (E := E_regs_Regs_word) (fn := Tryd.f34) rfl tys_ok rfl (show AllL _ [] from trivial) mixed (by kernel_rfl) (by kernel_rfl) (by kernel_rfl) 0 (by kernel_rfl) false trivial ?_
  intro args H
  by_cases hx : ∃ (a0_0 : Bool) (a0_1 : Nat → Int) (a0_2 : Nat → Nat → Lf) (a1 : Int), args = [.ptr 0 [], .int .i64 a1] ∧ H = [some (.agg [.bool a0_0, .arr .u64 32 a0_1, .arrT 32 (.agg [.int .u64, .int .u64]) a0_2])]
  · obtain ⟨a0_0, a0_1, a0_2, a1, rfl, rfl⟩ := hx
    right; intro K
    exact iff_of_eq (X_regs_Regs_word.eq a0_0 a0_1 a0_2 a1 K).symm
  · left; intro K h
    simp only [e_regs_Regs_word] at h
    split at h
    · exact hx ⟨_, _, _, _, rfl, rfl⟩
    · exact h
noncomputable def e_regs_Regs_X : Entry := ⟨[none, none], true, fun args H K => match args, H with
  | [.ptr 0 [], .int .i64 a1], [some (.agg [.bool a0_0, .arr .u64 32 a0_1, .arrT 32 (.agg [.int .u64, .int .u64]) a0_2])] => regs_Regs_X a0_0 a0_1 a0_2 a1 (fun y0 y1 y2 y3 y4 => K (EV.tuple [EV.int IntKind.u64 y0, EV.int IntKind.i64 y1]) [some (EV.agg [EV.bool y2, EV.arr IntKind.u64 32 y3, EV.arrT 32 (Sk.agg [Sk.int IntKind.u64, Sk.int IntKind.u64]) y4])])
  | _, _ => False⟩
noncomputable def l_regs_Regs_X : List (Nat × Entry) := [(33, e_regs_Regs_none), (34, e_regs_Regs_word)]
noncomputable def E_regs_Regs_X : Env := ⟨look tys, look l_regs_Regs_X, look [], gl, lookL [], false⟩
theorem X_regs_Regs_X.eq (a0_0 : Bool) (a0_1 : Nat → Int) (a0_2 : Nat → Nat → Lf) (a1 : Int) (K : EV → Heap → Prop) : evFn E_regs_Regs_X Tryd.f12 false [.ptr 0 [], .int .i64 a1] [some (.agg [.bool a0_0, .arr .u64 32 a0_1, .arrT 32 (.agg [.int .u64, .int .u64]) a0_2])] K = regs_Regs_X a0_0 a0_1 a0_2 a1 (fun y0 y1 y2 y3 y4 => K (EV.tuple [EV.int IntKind.u64 y0, EV.int IntKind.i64 y1]) [some (EV.agg [EV.bool y2, EV.arr IntKind.u64 32 y3, EV.arrT 32 (Sk.agg [Sk.int IntKind.u64, Sk.int IntKind.u64]) y4])]) := by
  rw [regs_Regs_X.is]; exact (evFnQ_eq _ _ _ _ _ _).symm.trans (by kernel_rfl)
theorem X_regs_Regs_X.ok : SoundE Tryd.prog gl 12 e_regs_Regs_X := by
  refine fnOK (E := E_regs_Regs_X) (fn := Tryd.f12) rfl tys_ok rfl (show AllL _ l_regs_Regs_X from ⟨X_regs_Regs_none.ok, X_regs_Regs_word.ok, trivial⟩) mixed (by kernel_rfl) (by kernel_rfl) (by kernel_rfl) 0 (by kernel_rfl) false trivial ?_
  intro args H
  by_cases hx : ∃ (a0_0 : Bool) (a0_1 : Nat → Int) (a0_2 : Nat → Nat → Lf) (a1 : Int), args = [.ptr 0 [], .int .i64 a1] ∧ H = [some (.agg [.bool a0_0, .arr .u64 32 a0_1, .arrT 32 (.agg [.int .u64, .int .u64]) a0_2])]
  · obtain ⟨a0_0, a0_1, a0_2, a1, rfl, rfl⟩ := hx
    right; intro K
    exact iff_of_eq (X_regs_Regs_X.eq a0_0 a0_1 a0_2 a1 K).symm
  · left; intro K h
    simp only [e_regs_Regs_X] at h
    split at h
    · exact hx ⟨_, _, _, _, rfl, rfl⟩
    · exact h
noncomputable def e_regs_Regs_bits : Entry := ⟨[none, none], true, fun args H K => match args, H with
  | [.ptr 0 [], .int .i64 a1], [some (.agg [.bool a0_0, .arr .u64 32 a0_1, .arrT 32 (.agg [.int .u64, .int .u64]) a0_2])] => regs_Regs_bits a0_0 a0_1 a0_2 a1 (fun y0 y1 y2 => K (EV.nilPtr) [some (EV.agg [EV.bool y0, EV.arr IntKind.u64 32 y1, EV.arrT 32 (Sk.agg [Sk.int IntKind.u64, Sk.int IntKind.u64]) y2])]) (fun y0 y1 y2 y3 => K (EV.ptr 0 [2, y0]) [some (EV.agg [EV.bool y1, EV.arr IntKind.u64 32 y2, EV.arrT 32 (Sk.agg [Sk.int IntKind.u64, Sk.int IntKind.u64]) y3])])
  | _, _ => False⟩
noncomputable def E_regs_Regs_bits : Env := ⟨look tys, look [], look [], gl, lookL [], false⟩
theorem X_regs_Regs_bits.eq (a0_0 : Bool) (a0_1 : Nat → Int) (a0_2 : Nat → Nat → Lf) (a1 : Int) (K : EV → Heap → Prop) : evFn E_regs_Regs_bits Tryd.f35 false [.ptr 0 [], .int .i64 a1] [some (.agg [.bool a0_0, .arr .u64 32 a0_1, .arrT 32 (.agg [.int .u64, .int .u64]) a0_2])] K = regs_Regs_bits a0_0 a0_1 a0_2 a1 (fun y0 y1 y2 => K (EV.nilPtr) [some (EV.agg [EV.bool y0, EV.arr IntKind.u64 32 y1, EV.arrT 32 (Sk.agg [Sk.int IntKind.u64, Sk.int IntKind.u64]) y2])]) (fun y0 y1 y2 y3 => K (EV.ptr 0 [2, y0]) [some (EV.agg [EV.bool y1, EV.arr IntKind.u64 32 y2, EV.arrT 32 (Sk.agg [Sk.int IntKind.u64, Sk.int IntKind.u64]) y3])]) := by
  rw [regs_Regs_bits.is]; exact (evFnQ_eq _ _ _ _ _ _).symm.trans (by kernel_rfl)
theorem X_regs_Regs_bits.ok : SoundE Tryd.prog gl 35 e_regs_Regs_bits := by
  refine fnOK (E := E_regs_Regs_bits) (fn := Tryd.f35) rfl tys_ok rfl (show AllL _ [] from trivial) mixed (by kernel_rfl) (by kernel_rfl) (by kernel_rfl) 0 (by kernel_rfl) false trivial ?_
  intro args H
  by_cases hx : ∃ (a0_0 : Bool) (a0_1 : Nat → Int) (a0_2 : Nat → Nat → Lf) (a1 : Int), args = [.ptr 0 [], .int .i64 a1] ∧ H = [some (.agg [.bool a0_0, .arr .u64 32 a0_1, .arrT 32 (.agg [.int .u64, .int .u64]) a0_2])]
  · obtain ⟨a0_0, a0_1, a0_2, a1, rfl, rfl⟩ := hx
    right; intro K
    exact iff_of_eq (X_regs_Regs_bits.eq a0_0 a0_1 a0_2 a1 K).symm
  · left; intro K h
    simp only [e_regs_Regs_bits] at h
    split at h
    · exact hx ⟨_, _, _, _, rfl, rfl⟩
    · exact h
noncomputable def e_regs_Regs_F : Entry := ⟨[none, none], true, fun args H K => match args, H with
  | [.ptr 0 [], .int .i64 a1], [some (.agg [.bool a0_0, .arr .u64 32 a0_1, .arrT 32 (.agg [.int .u64, .int .u64]) a0_2])] => regs_Regs_F a0_0 a0_1 a0_2 a1 (fun y0 y1 y2 y3 y4 y5 => K (EV.tuple [EV.agg [EV.int IntKind.u64 y0, EV.int IntKind.u64 y1], EV.int IntKind.i64 y2]) [some (EV.agg [EV.bool y3, EV.arr IntKind.u64 32 y4, EV.arrT 32 (Sk.agg [Sk.int IntKind.u64, Sk.int IntKind.u64]) y5])])
  | _, _ => False⟩
noncomputable def l_regs_Regs_F : List (Nat × Entry) := [(33, e_regs_Regs_none), (35, e_regs_Regs_bits)]
noncomputable def E_regs_Regs_F : Env := ⟨look tys, look l_regs_Regs_F, look [], gl, lookL [], false⟩
theorem X_regs_Regs_F.eq (a0_0 : Bool) (a0_1 : Nat → Int) (a0_2 : Nat → Nat → Lf) (a1 : Int) (K : EV → Heap → Prop) : evFn E_regs_Regs_F Tryd.f13 false [.ptr 0 [], .int .i64 a1] [some (.agg [.bool a0_0, .arr .u64 32 a0_1, .arrT 32 (.agg [.int .u64, .int .u64]) a0_2])] K = regs_Regs_F a0_0 a0_1 a0_2 a1 (fun y0 y1 y2 y3 y4 y5 => K (EV.tuple [EV.agg [EV.int IntKind.u64 y0, EV.int IntKind.u64 y1], EV.int IntKind.i64 y2]) [some (EV.agg [EV.bool y3, EV.arr IntKind.u64 32 y4, EV.arrT 32 (Sk.agg [Sk.int IntKind.u64, Sk.int IntKind.u64]) y5])]) := by
  rw [regs_Regs_F.is]; exact (evFnQ_eq _ _ _ _ _ _).symm.trans (by kernel_rfl)
theorem X_regs_Regs_F.ok : SoundE Tryd.prog gl 13 e_regs_Regs_F := by
  refine fnOK (E := E_regs_Regs_F) (fn := Tryd.f13) rfl tys_ok rfl (show AllL _ l_regs_Regs_F from ⟨X_regs_Regs_none.ok, X_regs_Regs_bits.ok, trivial⟩) mixed (by kernel_rfl) (by kernel_rfl) (by kernel_rfl) 0 (by kernel_rfl) false trivial ?_
  intro args H
  by_cases hx : ∃ (a0_0 : Bool) (a0_1 : Nat → Int) (a0_2 : Nat → Nat → Lf) (a1 : Int), args = [.ptr 0 [], .int .i64 a1] ∧ H = [some (.agg [.bool a0_0, .arr .u64 32 a0_1, .arrT 32 (.agg [.int .u64, .int .u64]) a0_2])]
  · obtain ⟨a0_0, a0_1, a0_2, a1, rfl, rfl⟩ := hx
    right; intro K
    exact iff_of_eq (X_regs_Regs_F.eq a0_0 a0_1 a0_2 a1 K).symm
  · left; intro K h
    simp only [e_regs_Regs_F] at h
    split at h
    · exact hx ⟨_, _, _, _, rfl, rfl⟩
    · exact h
noncomputable def e_regs_New : Entry := ⟨[some (.sk (.sl (.sl .bool)))], true, fun args H K => match args, H with
  | [], [] => regs_New  (fun y0 y1 y2 => K (EV.ptr 0 []) [some (EV.agg [EV.bool y0, EV.arr IntKind.u64 32 y1, EV.arrT 32 (Sk.agg [Sk.int IntKind.u64, Sk.int IntKind.u64]) y2])])
  | _, _ => False⟩
noncomputable def E_regs_New : Env := ⟨look tys, look [], look [], gl, lookL [], false⟩
theorem X_regs_New.eq (K : EV → Heap → Prop) : evFn E_regs_New Tryd.f17 true [] [] K = regs_New  (fun y0 y1 y2 => K (EV.ptr 0 []) [some (EV.agg [EV.bool y0, EV.arr IntKind.u64 32 y1, EV.arrT 32 (Sk.agg [Sk.int IntKind.u64, Sk.int IntKind.u64]) y2])]) := by
  rw [regs_New.is]; exact (evFnQ_eq _ _ _ _ _ _).symm.trans (by kernel_rfl)
theorem X_regs_New.ok : SoundE Tryd.prog gl 17 e_regs_New := by
  refine fnOK (E := E_regs_New) (fn := Tryd.f17) rfl tys_ok rfl (show AllL _ [] from trivial) mixed (by kernel_rfl) (by kernel_rfl) (by kernel_rfl) 0 (by kernel_rfl) true trivial ?_
  intro args H
  by_cases hx : args = [] ∧ H = []
  · obtain ⟨rfl, rfl⟩ := hx
    right; intro K
    exact iff_of_eq (X_regs_New.eq  K).symm
  · left; intro K h
    simp only [e_regs_New] at h
    split at h
    · exact hx ⟨rfl, rfl⟩
    · exact h
noncomputable def e_regs_Regs_SetX : Entry := ⟨[none, none, none, some (.sk (.sl (.sl (.sl (.sl .bool)))))], true, fun args H K => match args, H with
  | [.ptr 0 [], .int .i64 a1, .int .u64 a2], [some (.agg [.bool a0_0, .arr .u64 32 a0_1, .arrT 32 (.agg [.int .u64, .int .u64]) a0_2])] => regs_Regs_SetX a0_0 a0_1 a0_2 a1 a2 (fun y0 y1 y2 y3 => K (EV.int IntKind.i64 y0) [some (EV.agg [EV.bool y1, EV.arr IntKind.u64 32 y2, EV.arrT 32 (Sk.agg [Sk.int IntKind.u64, Sk.int IntKind.u64]) y3])])
  | _, _ => False⟩
noncomputable def l_regs_Regs_SetX : List (Nat × Entry) := [(33, e_regs_Regs_none), (34, e_regs_Regs_word)]
noncomputable def E_regs_Regs_SetX : Env := ⟨look tys, look l_regs_Regs_SetX, look [], gl, lookL [], false⟩
theorem X_regs_Regs_SetX.eq (a0_0 : Bool) (a0_1 : Nat → Int) (a0_2 : Nat → Nat → Lf) (a1 : Int) (a2 : Int) (K : EV → Heap → Prop) : evFn E_regs_Regs_SetX Tryd.f18 false [.ptr 0 [], .int .i64 a1, .int .u64 a2] [some (.agg [.bool a0_0, .arr .u64 32 a0_1, .arrT 32 (.agg [.int .u64, .int .u64]) a0_2])] K = regs_Regs_SetX a0_0 a0_1 a0_2 a1 a2 (fun y0 y1 y2 y3 => K (EV.int IntKind.i64 y0) [some (EV.agg [EV.bool y1, EV.arr IntKind.u64 32 y2, EV.arrT 32 (Sk.agg [Sk.int IntKind.u64, Sk.int IntKind.u64]) y3])]) := by
  rw [regs_Regs_SetX.is]; exact (evFnQ_eq _ _ _ _ _ _).symm.trans (by kernel_rfl)
theorem X_regs_Regs_SetX.ok : SoundE Tryd.prog gl 18 e_regs_Regs_SetX := by
  refine fnOK (E := E_regs_Regs_SetX) (fn := Tryd.f18) rfl tys_ok rfl (show AllL _ l_regs_Regs_SetX from ⟨X_regs_Regs_none.ok, X_regs_Regs_word.ok, trivial⟩) mixed (by kernel_rfl) (by kernel_rfl) (by kernel_rfl) 0 (by kernel_rfl) false trivial ?_
  intro args H
  by_cases hx : ∃ (a0_0 : Bool) (a0_1 : Nat → Int) (a0_2 : Nat → Nat → Lf) (a1 : Int) (a2 : Int), args = [.ptr 0 [], .int .i64 a1, .int .u64 a2] ∧ H = [some (.agg [.bool a0_0, .arr .u64 32 a0_1, .arrT 32 (.agg [.int .u64, .int .u64]) a0_2])]
  · obtain ⟨a0_0, a0_1, a0_2, a1, a2, rfl, rfl⟩ := hx
    right; intro K
    exact iff_of_eq (X_regs_Regs_SetX.eq a0_0 a0_1 a0_2 a1 a2 K).symm
  · left; intro K h
    simp only [e_regs_Regs_SetX] at h
    split at h
    · exact hx ⟨_, _, _, _, _, rfl, rfl⟩
    · exact h
noncomputable def e_regs_Regs_SetF : Entry := ⟨[none, none, none, some (.sk (.sl (.sl (.sl (.sl .bool)))))], true, fun args H K => match args, H with
  | [.ptr 0 [], .int .i64 a1, .agg [.int .u64 a2_0, .int .u64 a2_1]], [some (.agg [.bool a0_0, .arr .u64 32 a0_1, .arrT 32 (.agg [.int .u64, .int .u64]) a0_2])] => regs_Regs_SetF a0_0 a0_1 a0_2 a1 a2_0 a2_1 (fun y0 y1 y2 y3 => K (EV.int IntKind.i64 y0) [some (EV.agg [EV.bool y1, EV.arr IntKind.u64 32 y2, EV.arrT 32 (Sk.agg [Sk.int IntKind.u64, Sk.int IntKind.u64]) y3])])
  | _, _ => False⟩
noncomputable def l_regs_Regs_SetF : List (Nat × Entry) := [(33, e_regs_Regs_none), (35, e_regs_Regs_bits)]
noncomputable def E_regs_Regs_SetF : Env := ⟨look tys, look l_regs_Regs_SetF, look [], gl, lookL [], false⟩
theorem X_regs_Regs_SetF.eq (a0_0 : Bool) (a0_1 : Nat → Int) (a0_2 : Nat → Nat → Lf) (a1 : Int) (a2_0 : Int) (a2_1 : Int) (K : EV → Heap → Prop) : evFn E_regs_Regs_SetF Tryd.f19 false [.ptr 0 [], .int .i64 a1, .agg [.int .u64 a2_0, .int .u64 a2_1]] [some (.agg [.bool a0_0, .arr .u64 32 a0_1, .arrT 32 (.agg [.int .u64, .int .u64]) a0_2])] K = regs_Regs_SetF a0_0 a0_1 a0_2 a1 a2_0 a2_1 (fun y0 y1 y2 y3 => K (EV.int IntKind.i64 y0) [some (EV.agg [EV.bool y1, EV.arr IntKind.u64 32 y2, EV.arrT 32 (Sk.agg [Sk.int IntKind.u64, Sk.int IntKind.u64]) y3])]) := by
  rw [regs_Regs_SetF.is]; exact (evFnQ_eq _ _ _ _ _ _).symm.trans (by kernel_rfl)
theorem X_regs_Regs_SetF.ok : SoundE Tryd.prog gl 19 e_regs_Regs_SetF := by
  refine fnOK (E := E_regs_Regs_SetF) (fn := Tryd.f19) rfl tys_ok rfl (show AllL _ l_regs_Regs_SetF from ⟨X_regs_Regs_none.ok, X_regs_Regs_bits.ok, trivial⟩) mixed (by kernel_rfl) (by kernel_rfl) (by kernel_rfl) 0 (by kernel_rfl) false trivial ?_
  intro args H
  by_cases hx : ∃ (a0_0 : Bool) (a0_1 : Nat → Int) (a0_2 : Nat → Nat → Lf) (a1 : Int) (a2_0 : Int) (a2_1 : Int), args = [.ptr 0 [], .int .i64 a1, .agg [.int .u64 a2_0, .int .u64 a2_1]] ∧ H = [some (.agg [.bool a0_0, .arr .u64 32 a0_1, .arrT 32 (.agg [.int .u64, .int .u64]) a0_2])]
  · obtain ⟨a0_0, a0_1, a0_2, a1, a2_0, a2_1, rfl, rfl⟩ := hx
    right; intro K
    exact iff_of_eq (X_regs_Regs_SetF.eq a0_0 a0_1 a0_2 a1 a2_0 a2_1 K).symm
  · left; intro K h
    simp only [e_regs_Regs_SetF] at h
    split at h
    · exact hx ⟨_, _, _, _, _, _, rfl, rfl⟩
    · exact h
noncomputable def e_shape_numbers : Entry := ⟨[none], false, fun args H K => match args, H with
  | [.int .u8 a0], [] => shape_numbers a0 (fun y0 y1 y2 y3 => K (EV.tuple [EV.int IntKind.i64 y0, EV.int IntKind.i64 y1, EV.int IntKind.i64 y2, EV.str y3]) [])
  | _, _ => False⟩
noncomputable def E_shape_numbers : Env := ⟨look tys, look [], look [], gl, lookL [], false⟩
theorem X_shape_numbers.eq (a0 : Int) (K : EV → Heap → Prop) : evFn E_shape_numbers Tryd.f82 false [.int .u8 a0] [] K = shape_numbers a0 (fun y0 y1 y2 y3 => K (EV.tuple [EV.int IntKind.i64 y0, EV.int IntKind.i64 y1, EV.int IntKind.i64 y2, EV.str y3]) []) := by
  rw [shape_numbers.is]; exact (evFnQ_eq _ _ _ _ _ _).symm.trans (by kernel_rfl)
theorem X_shape_numbers.ok : SoundE Tryd.prog gl 82 e_shape_numbers := by
  refine fnOK (E := E_shape_numbers) (fn := Tryd.f82) rfl tys_ok rfl (show AllL _ [] from trivial) mixed (by kernel_rfl) (by kernel_rfl) (by kernel_rfl) 0 (by kernel_rfl) false trivial ?_
  intro args H
  by_cases hx : ∃ (a0 : Int), args = [.int .u8 a0] ∧ H = []
  · obtain ⟨a0, rfl, rfl⟩ := hx
    right; intro K
    exact iff_of_eq (X_shape_numbers.eq a0 K).symm
  · left; intro K h
    simp only [e_shape_numbers] at h
    split at h
    · exact hx ⟨_, rfl, rfl⟩
    · exact h
noncomputable def e_shape_Width : Entry := ⟨[none], false, fun args H K => match args, H with
  | [.int .u8 a0], [] => shape_Width a0 (fun y0 => K (EV.int IntKind.i64 y0) [])
  | _, _ => False⟩
noncomputable def l_shape_Width : List (Nat × Entry) := [(82, e_shape_numbers)]
noncomputable def E_shape_Width : Env := ⟨look tys, look l_shape_Width, look [], gl, lookL [], false⟩
theorem X_shape_Width.eq (a0 : Int) (K : EV → Heap → Prop) : evFn E_shape_Width Tryd.f70 false [.int .u8 a0] [] K = shape_Width a0 (fun y0 => K (EV.int IntKind.i64 y0) []) := by
  rw [shape_Width.is]; exact (evFnQ_eq _ _ _ _ _ _).symm.trans (by kernel_rfl)
theorem X_shape_Width.ok : SoundE Tryd.prog gl 70 e_shape_Width := by
  refine fnOK (E := E_shape_Width) (fn := Tryd.f70) rfl tys_ok rfl (show AllL _ l_shape_Width from ⟨X_shape_numbers.ok, trivial⟩) mixed (by kernel_rfl) (by kernel_rfl) (by kernel_rfl) 0 (by kernel_rfl) false trivial ?_
  intro args H
  by_cases hx : ∃ (a0 : Int), args = [.int .u8 a0] ∧ H = []
  · obtain ⟨a0, rfl, rfl⟩ := hx
    right; intro K
    exact iff_of_eq (X_shape_Width.eq a0 K).symm
  · left; intro K h
    simp only [e_shape_Width] at h
    split at h
    · exact hx ⟨_, rfl, rfl⟩
    · exact h
noncomputable def e_shape_Fits : Entry := ⟨[none, none], false, fun args H K => match args, H with
  | [.int .u8 a0, .agg [.int .u64 a1_0, .int .u64 a1_1]], [] => shape_Fits a0 a1_0 a1_1 (fun y0 => K (EV.bool y0) [])
  | _, _ => False⟩
noncomputable def l_shape_Fits : List (Nat × Entry) := [(70, e_shape_Width)]
noncomputable def E_shape_Fits : Env := ⟨look tys, look l_shape_Fits, look [], gl, lookL [], false⟩
theorem X_shape_Fits.eq (a0 : Int) (a1_0 : Int) (a1_1 : Int) (K : EV → Heap → Prop) : evFn E_shape_Fits Tryd.f53 false [.int .u8 a0, .agg [.int .u64 a1_0, .int .u64 a1_1]] [] K = shape_Fits a0 a1_0 a1_1 (fun y0 => K (EV.bool y0) []) := by
  rw [shape_Fits.is]; exact (evFnQ_eq _ _ _ _ _ _).symm.trans (by kernel_rfl)
theorem X_shape_Fits.ok : SoundE Tryd.prog gl 53 e_shape_Fits := by
  refine fnOK (E := E_shape_Fits) (fn := Tryd.f53) rfl tys_ok rfl (show AllL _ l_shape_Fits from ⟨X_shape_Width.ok, trivial⟩) mixed (by kernel_rfl) (by kernel_rfl) (by kernel_rfl) 0 (by kernel_rfl) false trivial ?_
  intro args H
  by_cases hx : ∃ (a0 : Int) (a1_0 : Int) (a1_1 : Int), args = [.int .u8 a0, .agg [.int .u64 a1_0, .int .u64 a1_1]] ∧ H = []
  · obtain ⟨a0, a1_0, a1_1, rfl, rfl⟩ := hx
    right; intro K
    exact iff_of_eq (X_shape_Fits.eq a0 a1_0 a1_1 K).symm
  · left; intro K h
    simp only [e_shape_Fits] at h
    split at h
    · exact hx ⟨_, _, _, rfl, rfl⟩
    · exact h
noncomputable def e_box_above : Entry := ⟨[none], false, fun args H K => match args, H with
  | [.int .u8 a0], [] => box_above a0 (fun y0 y1 => K (EV.agg [EV.int IntKind.u64 y0, EV.int IntKind.u64 y1]) [])
  | _, _ => False⟩
noncomputable def E_box_above : Env := ⟨look tys, look [], look [], gl, lookL [], false⟩
theorem X_box_above.eq (a0 : Int) (K : EV → Heap → Prop) : evFn E_box_above Tryd.f54 false [.int .u8 a0] [] K = box_above a0 (fun y0 y1 => K (EV.agg [EV.int IntKind.u64 y0, EV.int IntKind.u64 y1]) []) := by
  rw [box_above.is]; exact (evFnQ_eq _ _ _ _ _ _).symm.trans (by kernel_rfl)
theorem X_box_above.ok : SoundE Tryd.prog gl 54 e_box_above := by
  refine fnOK (E := E_box_above) (fn := Tryd.f54) rfl tys_ok rfl (show AllL _ [] from trivial) mixed (by kernel_rfl) (by kernel_rfl) (by kernel_rfl) 0 (by kernel_rfl) false trivial ?_
  intro args H
  by_cases hx : ∃ (a0 : Int), args = [.int .u8 a0] ∧ H = []
  · obtain ⟨a0, rfl, rfl⟩ := hx
    right; intro K
    exact iff_of_eq (X_box_above.eq a0 K).symm
  · left; intro K h
    simp only [e_box_above] at h
    split at h
    · exact hx ⟨_, rfl, rfl⟩
    · exact h
noncomputable def e_box_Box : Entry := ⟨[none, none], false, fun args H K => match args, H with
  | [.int .u8 a0, .agg [.int .u64 a1_0, .int .u64 a1_1]], [] => box_Box a0 a1_0 a1_1 (fun y0 y1 y2 => K (EV.tuple [EV.agg [EV.int IntKind.u64 y0, EV.int IntKind.u64 y1], EV.int IntKind.i64 y2]) [])
  | _, _ => False⟩
noncomputable def l_box_Box : List (Nat × Entry) := [(53, e_shape_Fits), (54, e_box_above)]
noncomputable def E_box_Box : Env := ⟨look tys, look l_box_Box, look [], gl, lookL [], false⟩
theorem X_box_Box.eq (a0 : Int) (a1_0 : Int) (a1_1 : Int) (K : EV → Heap → Prop) : evFn E_box_Box Tryd.f38 false [.int .u8 a0, .agg [.int .u64 a1_0, .int .u64 a1_1]] [] K = box_Box a0 a1_0 a1_1 (fun y0 y1 y2 => K (EV.tuple [EV.agg [EV.int IntKind.u64 y0, EV.int IntKind.u64 y1], EV.int IntKind.i64 y2]) []) := by
  rw [box_Box.is]; exact (evFnQ_eq _ _ _ _ _ _).symm.trans (by kernel_rfl)
theorem X_box_Box.ok : SoundE Tryd.prog gl 38 e_box_Box := by
  refine fnOK (E := E_box_Box) (fn := Tryd.f38) rfl tys_ok rfl (show AllL _ l_box_Box from ⟨X_shape_Fits.ok, X_box_above.ok, trivial⟩) mixed (by kernel_rfl) (by kernel_rfl) (by kernel_rfl) 0 (by kernel_rfl) false trivial ?_
  intro args H
  by_cases hx : ∃ (a0 : Int) (a1_0 : Int) (a1_1 : Int), args = [.int .u8 a0, .agg [.int .u64 a1_0, .int .u64 a1_1]] ∧ H = []
  · obtain ⟨a0, a1_0, a1_1, rfl, rfl⟩ := hx
    right; intro K
    exact iff_of_eq (X_box_Box.eq a0 a1_0 a1_1 K).symm
  · left; intro K h
    simp only [e_box_Box] at h
    split at h
    · exact hx ⟨_, _, _, rfl, rfl⟩
    · exact h
noncomputable def e_regs_Regs_Put : Entry := ⟨[none, none, none, none, some (.sk (.sl (.sl (.sl (.sl .bool)))))], true, fun args H K => match args, H with
  | [.ptr 0 [], .int .u8 a1, .int .i64 a2, .agg [.int .u64 a3_0, .int .u64 a3_1]], [some (.agg [.bool a0_0, .arr .u64 32 a0_1, .arrT 32 (.agg [.int .u64, .int .u64]) a0_2])] => regs_Regs_Put a0_0 a0_1 a0_2 a1 a2 a3_0 a3_1 (fun y0 y1 y2 y3 => K (EV.int IntKind.i64 y0) [some (EV.agg [EV.bool y1, EV.arr IntKind.u64 32 y2, EV.arrT 32 (Sk.agg [Sk.int IntKind.u64, Sk.int IntKind.u64]) y3])])
  | _, _ => False⟩
noncomputable def l_regs_Regs_Put : List (Nat × Entry) := [(19, e_regs_Regs_SetF), (33, e_regs_Regs_none), (38, e_box_Box)]
noncomputable def E_regs_Regs_Put : Env := ⟨look tys, look l_regs_Regs_Put, look [], gl, lookL [], false⟩
theorem X_regs_Regs_Put.eq (a0_0 : Bool) (a0_1 : Nat → Int) (a0_2 : Nat → Nat → Lf) (a1 : Int) (a2 : Int) (a3_0 : Int) (a3_1 : Int) (K : EV → Heap → Prop) : evFn E_regs_Regs_Put Tryd.f20 false [.ptr 0 [], .int .u8 a1, .int .i64 a2, .agg [.int .u64 a3_0, .int .u64 a3_1]] [some (.agg [.bool a0_0, .arr .u64 32 a0_1, .arrT 32 (.agg [.int .u64, .int .u64]) a0_2])] K = regs_Regs_Put a0_0 a0_1 a0_2 a1 a2 a3_0 a3_1 (fun y0 y1 y2 y3 => K (EV.int IntKind.i64 y0) [some (EV.agg [EV.bool y1, EV.arr IntKind.u64 32 y2, EV.arrT 32 (Sk.agg [Sk.int IntKind.u64, Sk.int IntKind.u64]) y3])]) := by
  rw [regs_Regs_Put.is]; exact (evFnQ_eq _ _ _ _ _ _).symm.trans (by kernel_rfl)
theorem X_regs_Regs_Put.ok : SoundE Tryd.prog gl 20 e_regs_Regs_Put := by
  refine fnOK (E := E_regs_Regs_Put) (fn := Tryd.f20) rfl tys_ok rfl (show AllL _ l_regs_Regs_Put from ⟨X_regs_Regs_SetF.ok, X_regs_Regs_none.ok, X_box_Box.ok, trivial⟩) mixed (by kernel_rfl) (by kernel_rfl) (by kernel_rfl) 0 (by kernel_rfl) false trivial ?_
  intro args H
  by_cases hx : ∃ (a0_0 : Bool) (a0_1 : Nat → Int) (a0_2 : Nat → Nat → Lf) (a1 : Int) (a2 : Int) (a3_0 : Int) (a3_1 : Int), args = [.ptr 0 [], .int .u8 a1, .int .i64 a2, .agg [.int .u64 a3_0, .int .u64 a3_1]] ∧ H = [some (.agg [.bool a0_0, .arr .u64 32 a0_1, .arrT 32 (.agg [.int .u64, .int .u64]) a0_2])]
  · obtain ⟨a0_0, a0_1, a0_2, a1, a2, a3_0, a3_1, rfl, rfl⟩ := hx
    right; intro K
    exact iff_of_eq (X_regs_Regs_Put.eq a0_0 a0_1 a0_2 a1 a2 a3_0 a3_1 K).symm
  · left; intro K h
    simp only [e_regs_Regs_Put] at h
    split at h
    · exact hx ⟨_, _, _, _, _, _, _, rfl, rfl⟩
    · exact h
noncomputable def e_law23_lives : Entry := ⟨[], false, fun args H K => match args, H with
  | [], [] => law23_lives  (fun y0 => K (EV.bool y0) [])
  | _, _ => False⟩
noncomputable def l_law23_lives : List (Nat × Entry) := [(9, e_regs_Named), (12, e_regs_Regs_X), (13, e_regs_Regs_F), (17, e_regs_New), (18, e_regs_Regs_SetX), (20, e_regs_Regs_Put)]
noncomputable def E_law23_lives : Env := ⟨look tys, look l_law23_lives, look [], gl, lookL [], false⟩
theorem X_law23_lives.eq (K : EV → Heap → Prop) : evFn E_law23_lives Tryd.f11 false [] [] K = law23_lives  (fun y0 => K (EV.bool y0) []) := by
  rw [law23_lives.is]; exact (evFnQ_eq _ _ _ _ _ _).symm.trans (by kernel_rfl)
theorem X_law23_lives.ok : SoundE Tryd.prog gl 11 e_law23_lives := by
  refine fnOK (E := E_law23_lives) (fn := Tryd.f11) rfl tys_ok rfl (show AllL _ l_law23_lives from ⟨X_regs_Named.ok, X_regs_Regs_X.ok, X_regs_Regs_F.ok, X_regs_New.ok, X_regs_Regs_SetX.ok, X_regs_Regs_Put.ok, trivial⟩) mixed (by kernel_rfl) (by kernel_rfl) (by kernel_rfl) 0 (by kernel_rfl) false trivial ?_
  intro args H
  by_cases hx : args = [] ∧ H = []
  · obtain ⟨rfl, rfl⟩ := hx
    right; intro K
    exact iff_of_eq (X_law23_lives.eq  K).symm
  · left; intro K h
    simp only [e_law23_lives] at h
    split at h
    · exact hx ⟨rfl, rfl⟩
    · exact h
noncomputable def e_regs_Changed : Entry := ⟨[none, none], true, fun args H K => match args, H with
  | [.ptr 0 [], .ptr 1 []], [some (.agg [.bool a0_0, .arr .u64 32 a0_1, .arrT 32 (.agg [.int .u64, .int .u64]) a0_2]), some (.agg [.bool a1_0, .arr .u64 32 a1_1, .arrT 32 (.agg [.int .u64, .int .u64]) a1_2])] => regs_Changed a0_0 a0_1 a0_2 a1_0 a1_1 a1_2 (fun y0 y1 y2 y3 y4 y5 y6 y7 y8 => K (EV.tuple [EV.rsT y0 (Sk.agg [Sk.bool, Sk.int IntKind.i64, Sk.int IntKind.u64, Sk.agg [Sk.int IntKind.u64, Sk.int IntKind.u64]]) y1, EV.int IntKind.i64 y2]) [some (EV.agg [EV.bool y3, EV.arr IntKind.u64 32 y4, EV.arrT 32 (Sk.agg [Sk.int IntKind.u64, Sk.int IntKind.u64]) y5]), some (EV.agg [EV.bool y6, EV.arr IntKind.u64 32 y7, EV.arrT 32 (Sk.agg [Sk.int IntKind.u64, Sk.int IntKind.u64]) y8])])
  | _, _ => False⟩
noncomputable def l_regs_Changed : List (Nat × Entry) := [(33, e_regs_Regs_none)]
noncomputable def E_regs_Changed : Env := ⟨look tys, look l_regs_Changed, look [(5, regs_Changed.l5.entry), (11, regs_Changed.l11.entry)], gl, lookL [], true⟩
theorem regs_Changed.l5h1X.stepEq (R : List EV → Heap → Prop) (K : Ex → List EV → Heap → Prop) (x0 : Nat) (x1 : Nat → Int) (x2 : Int) (x3 : Bool) (x4 : Nat → Int) (x5 : Nat → Nat → Lf) (x6 : Bool) (x7 : Nat → Int) (x8 : Nat → Nat → Lf) (x9 : Nat) (x10 : Nat → Nat → Lf) : loopStep (evCode E_regs_Changed (loopAt Tryd.f16 0) { (LV.mk 67 [(0, 67)] 48 2 true) with nx := live (.loop (loopAt Tryd.f16 0)) (LV.mk 67 [(0, 67)] 48 2 true) }) (live (.loop (loopAt Tryd.f16 0)) (LV.mk 67 [(0, 67)] 48 2 true)) (LV.mk 67 [(0, 67)] 48 2 true) 2 64 R [EV.ptr 0 [], EV.ptr 1 [], EV.slice 2 0 x0 none 5, EV.arr IntKind.u64 32 x1, EV.int IntKind.i64 x2] [some (EV.agg [EV.bool x3, EV.arr IntKind.u64 32 x4, EV.arrT 32 (Sk.agg [Sk.int IntKind.u64, Sk.int IntKind.u64]) x5]), some (EV.agg [EV.bool x6, EV.arr IntKind.u64 32 x7, EV.arrT 32 (Sk.agg [Sk.int IntKind.u64, Sk.int IntKind.u64]) x8]), some (EV.arrT x9 (Sk.agg [Sk.bool, Sk.int IntKind.i64, Sk.int IntKind.u64, Sk.agg [Sk.int IntKind.u64, Sk.int IntKind.u64]]) x10)] K = regs_Changed.l5h1.step (fun x0 x1 x2 x3 x4 x5 x6 x7 x8 x9 x10 => R [EV.ptr 0 [], EV.ptr 1 [], EV.slice 2 0 x0 none 5, EV.arr IntKind.u64 32 x1, EV.int IntKind.i64 x2] [some (EV.agg [EV.bool x3, EV.arr IntKind.u64 32 x4, EV.arrT 32 (Sk.agg [Sk.int IntKind.u64, Sk.int IntKind.u64]) x5]), some (EV.agg [EV.bool x6, EV.arr IntKind.u64 32 x7, EV.arrT 32 (Sk.agg [Sk.int IntKind.u64, Sk.int IntKind.u64]) x8]), some (EV.arrT x9 (Sk.agg [Sk.bool, Sk.int IntKind.i64, Sk.int IntKind.u64, Sk.agg [Sk.int IntKind.u64, Sk.int IntKind.u64]]) x10)]) (fun y0 y1 y2 y3 y4 y5 y6 y7 y8 => K (.exit 0) [EV.ptr 0 [], EV.ptr 1 [], EV.slice 2 0 y0 none 5] [some (EV.agg [EV.bool y1, EV.arr IntKind.u64 32 y2, EV.arrT 32 (Sk.agg [Sk.int IntKind.u64, Sk.int IntKind.u64]) y3]), some (EV.agg [EV.bool y4, EV.arr IntKind.u64 32 y5, EV.arrT 32 (Sk.agg [Sk.int IntKind.u64, Sk.int IntKind.u64]) y6]), some (EV.arrT y7 (Sk.agg [Sk.bool, Sk.int IntKind.i64, Sk.int IntKind.u64, Sk.agg [Sk.int IntKind.u64, Sk.int IntKind.u64]]) y8)]) x0 x1 x2 x3 x4 x5 x6 x7 x8 x9 x10 := (stepQ_eq _ _ _ _ _ _ _ _ _ _ _).symm.trans (by kernel_rfl)
theorem regs_Changed.l5h1X.eq (K : Ex → List EV → Heap → Prop) : ∀ (n : Nat) (x0 : Nat) (x1 : Nat → Int) (x2 : Int) (x3 : Bool) (x4 : Nat → Int) (x5 : Nat → Nat → Lf) (x6 : Bool) (x7 : Nat → Int) (x8 : Nat → Nat → Lf) (x9 : Nat) (x10 : Nat → Nat → Lf), loopE E_regs_Changed (loopAt Tryd.f16 0) (LV.mk 67 [(0, 67)] 48 2 true) 2 64 K n [EV.ptr 0 [], EV.ptr 1 [], EV.slice 2 0 x0 none 5, EV.arr IntKind.u64 32 x1, EV.int IntKind.i64 x2] [some (EV.agg [EV.bool x3, EV.arr IntKind.u64 32 x4, EV.arrT 32 (Sk.agg [Sk.int IntKind.u64, Sk.int IntKind.u64]) x5]), some (EV.agg [EV.bool x6, EV.arr IntKind.u64 32 x7, EV.arrT 32 (Sk.agg [Sk.int IntKind.u64, Sk.int IntKind.u64]) x8]), some (EV.arrT x9 (Sk.agg [Sk.bool, Sk.int IntKind.i64, Sk.int IntKind.u64, Sk.agg [Sk.int IntKind.u64, Sk.int IntKind.u64]]) x10)] = regs_Changed.l5h1 (fun y0 y1 y2 y3 y4 y5 y6 y7 y8 => K (.exit 0) [EV.ptr 0 [], EV.ptr 1 [], EV.slice 2 0 y0 none 5] [some (EV.agg [EV.bool y1, EV.arr IntKind.u64 32 y2, EV.arrT 32 (Sk.agg [Sk.int IntKind.u64, Sk.int IntKind.u64]) y3]), some (EV.agg [EV.bool y4, EV.arr IntKind.u64 32 y5, EV.arrT 32 (Sk.agg [Sk.int IntKind.u64, Sk.int IntKind.u64]) y6]), some (EV.arrT y7 (Sk.agg [Sk.bool, Sk.int IntKind.i64, Sk.int IntKind.u64, Sk.agg [Sk.int IntKind.u64, Sk.int IntKind.u64]]) y8)]) n x0 x1 x2 x3 x4 x5 x6 x7 x8 x9 x10
  | 0, _, _, _, _, _, _, _, _, _, _, _ => rfl
  | n + 1, x0, x1, x2, x3, x4, x5, x6, x7, x8, x9, x10 => by
    have ih : (fun (x0 : Nat) (x1 : Nat → Int) (x2 : Int) (x3 : Bool) (x4 : Nat → Int) (x5 : Nat → Nat → Lf) (x6 : Bool) (x7 : Nat → Int) (x8 : Nat → Nat → Lf) (x9 : Nat) (x10 : Nat → Nat → Lf) => loopE E_regs_Changed (loopAt Tryd.f16 0) (LV.mk 67 [(0, 67)] 48 2 true) 2 64 K n [EV.ptr 0 [], EV.ptr 1 [], EV.slice 2 0 x0 none 5, EV.arr IntKind.u64 32 x1, EV.int IntKind.i64 x2] [some (EV.agg [EV.bool x3, EV.arr IntKind.u64 32 x4, EV.arrT 32 (Sk.agg [Sk.int IntKind.u64, Sk.int IntKind.u64]) x5]), some (EV.agg [EV.bool x6, EV.arr IntKind.u64 32 x7, EV.arrT 32 (Sk.agg [Sk.int IntKind.u64, Sk.int IntKind.u64]) x8]), some (EV.arrT x9 (Sk.agg [Sk.bool, Sk.int IntKind.i64, Sk.int IntKind.u64, Sk.agg [Sk.int IntKind.u64, Sk.int IntKind.u64]]) x10)]) = regs_Changed.l5h1 (fun y0 y1 y2 y3 y4 y5 y6 y7 y8 => K (.exit 0) [EV.ptr 0 [], EV.ptr 1 [], EV.slice 2 0 y0 none 5] [some (EV.agg [EV.bool y1, EV.arr IntKind.u64 32 y2, EV.arrT 32 (Sk.agg [Sk.int IntKind.u64, Sk.int IntKind.u64]) y3]), some (EV.agg [EV.bool y4, EV.arr IntKind.u64 32 y5, EV.arrT 32 (Sk.agg [Sk.int IntKind.u64, Sk.int IntKind.u64]) y6]), some (EV.arrT y7 (Sk.agg [Sk.bool, Sk.int IntKind.i64, Sk.int IntKind.u64, Sk.agg [Sk.int IntKind.u64, Sk.int IntKind.u64]]) y8)]) n := by funext x0 x1 x2 x3 x4 x5 x6 x7 x8 x9 x10; exact regs_Changed.l5h1X.eq K n x0 x1 x2 x3 x4 x5 x6 x7 x8 x9 x10
    show loopStep _ _ _ _ _ (loopE E_regs_Changed (loopAt Tryd.f16 0) (LV.mk 67 [(0, 67)] 48 2 true) 2 64 K n) [EV.ptr 0 [], EV.ptr 1 [], EV.slice 2 0 x0 none 5, EV.arr IntKind.u64 32 x1, EV.int IntKind.i64 x2] [some (EV.agg [EV.bool x3, EV.arr IntKind.u64 32 x4, EV.arrT 32 (Sk.agg [Sk.int IntKind.u64, Sk.int IntKind.u64]) x5]), some (EV.agg [EV.bool x6, EV.arr IntKind.u64 32 x7, EV.arrT 32 (Sk.agg [Sk.int IntKind.u64, Sk.int IntKind.u64]) x8]), some (EV.arrT x9 (Sk.agg [Sk.bool, Sk.int IntKind.i64, Sk.int IntKind.u64, Sk.agg [Sk.int IntKind.u64, Sk.int IntKind.u64]]) x10)] K = regs_Changed.l5h1.step (regs_Changed.l5h1 (fun y0 y1 y2 y3 y4 y5 y6 y7 y8 => K (.exit 0) [EV.ptr 0 [], EV.ptr 1 [], EV.slice 2 0 y0 none 5] [some (EV.agg [EV.bool y1, EV.arr IntKind.u64 32 y2, EV.arrT 32 (Sk.agg [Sk.int IntKind.u64, Sk.int IntKind.u64]) y3]), some (EV.agg [EV.bool y4, EV.arr IntKind.u64 32 y5, EV.arrT 32 (Sk.agg [Sk.int IntKind.u64, Sk.int IntKind.u64]) y6]), some (EV.arrT y7 (Sk.agg [Sk.bool, Sk.int IntKind.i64, Sk.int IntKind.u64, Sk.agg [Sk.int IntKind.u64, Sk.int IntKind.u64]]) y8)]) n) (fun y0 y1 y2 y3 y4 y5 y6 y7 y8 => K (.exit 0) [EV.ptr 0 [], EV.ptr 1 [], EV.slice 2 0 y0 none 5] [some (EV.agg [EV.bool y1, EV.arr IntKind.u64 32 y2, EV.arrT 32 (Sk.agg [Sk.int IntKind.u64, Sk.int IntKind.u64]) y3]), some (EV.agg [EV.bool y4, EV.arr IntKind.u64 32 y5, EV.arrT 32 (Sk.agg [Sk.int IntKind.u64, Sk.int IntKind.u64]) y6]), some (EV.arrT y7 (Sk.agg [Sk.bool, Sk.int IntKind.i64, Sk.int IntKind.u64, Sk.agg [Sk.int IntKind.u64, Sk.int IntKind.u64]]) y8)]) x0 x1 x2 x3 x4 x5 x6 x7 x8 x9 x10
    rw [← ih]
    exact regs_Changed.l5h1X.stepEq _ K x0 x1 x2 x3 x4 x5 x6 x7 x8 x9 x10
theorem regs_Changed.l5X.stepEq (R : List EV → Heap → Prop) (K : Ex → List EV → Heap → Prop) (x0 : Nat → Int) (x1 : Int) (x2 : Bool) (x3 : Nat → Int) (x4 : Nat → Nat → Lf) (x5 : Bool) (x6 : Nat → Int) (x7 : Nat → Nat → Lf) : loopStep (evCode E_regs_Changed (loopAt Tryd.f16 0) { (LV.mk 67 [(0, 67)] 48 2 true) with nx := live (.loop (loopAt Tryd.f16 0)) (LV.mk 67 [(0, 67)] 48 2 true) }) (live (.loop (loopAt Tryd.f16 0)) (LV.mk 67 [(0, 67)] 48 2 true)) (LV.mk 67 [(0, 67)] 48 2 true) 2 64 R [EV.ptr 0 [], EV.ptr 1 [], EV.nilSlice, EV.arr IntKind.u64 32 x0, EV.int IntKind.i64 x1] [some (EV.agg [EV.bool x2, EV.arr IntKind.u64 32 x3, EV.arrT 32 (Sk.agg [Sk.int IntKind.u64, Sk.int IntKind.u64]) x4]), some (EV.agg [EV.bool x5, EV.arr IntKind.u64 32 x6, EV.arrT 32 (Sk.agg [Sk.int IntKind.u64, Sk.int IntKind.u64]) x7])] K = regs_Changed.l5.step (fun x0 x1 x2 x3 x4 x5 x6 x7 => R [EV.ptr 0 [], EV.ptr 1 [], EV.nilSlice, EV.arr IntKind.u64 32 x0, EV.int IntKind.i64 x1] [some (EV.agg [EV.bool x2, EV.arr IntKind.u64 32 x3, EV.arrT 32 (Sk.agg [Sk.int IntKind.u64, Sk.int IntKind.u64]) x4]), some (EV.agg [EV.bool x5, EV.arr IntKind.u64 32 x6, EV.arrT 32 (Sk.agg [Sk.int IntKind.u64, Sk.int IntKind.u64]) x7])]) (fun x0 x1 x2 x3 x4 x5 x6 x7 x8 x9 x10 => R [EV.ptr 0 [], EV.ptr 1 [], EV.slice 2 0 x0 none 5, EV.arr IntKind.u64 32 x1, EV.int IntKind.i64 x2] [some (EV.agg [EV.bool x3, EV.arr IntKind.u64 32 x4, EV.arrT 32 (Sk.agg [Sk.int IntKind.u64, Sk.int IntKind.u64]) x5]), some (EV.agg [EV.bool x6, EV.arr IntKind.u64 32 x7, EV.arrT 32 (Sk.agg [Sk.int IntKind.u64, Sk.int IntKind.u64]) x8]), some (EV.arrT x9 (Sk.agg [Sk.bool, Sk.int IntKind.i64, Sk.int IntKind.u64, Sk.agg [Sk.int IntKind.u64, Sk.int IntKind.u64]]) x10)]) (fun y0 y1 y2 y3 y4 y5 => K (.exit 0) [EV.ptr 0 [], EV.ptr 1 [], EV.nilSlice] [some (EV.agg [EV.bool y0, EV.arr IntKind.u64 32 y1, EV.arrT 32 (Sk.agg [Sk.int IntKind.u64, Sk.int IntKind.u64]) y2]), some (EV.agg [EV.bool y3, EV.arr IntKind.u64 32 y4, EV.arrT 32 (Sk.agg [Sk.int IntKind.u64, Sk.int IntKind.u64]) y5])]) (fun y0 y1 y2 y3 y4 y5 y6 y7 y8 => K (.exit 0) [EV.ptr 0 [], EV.ptr 1 [], EV.slice 2 0 y0 none 5] [some (EV.agg [EV.bool y1, EV.arr IntKind.u64 32 y2, EV.arrT 32 (Sk.agg [Sk.int IntKind.u64, Sk.int IntKind.u64]) y3]), some (EV.agg [EV.bool y4, EV.arr IntKind.u64 32 y5, EV.arrT 32 (Sk.agg [Sk.int IntKind.u64, Sk.int IntKind.u64]) y6]), some (EV.arrT y7 (Sk.agg [Sk.bool, Sk.int IntKind.i64, Sk.int IntKind.u64, Sk.agg [Sk.int IntKind.u64, Sk.int IntKind.u64]]) y8)]) x0 x1 x2 x3 x4 x5 x6 x7 := (stepQ_eq _ _ _ _ _ _ _ _ _ _ _).symm.trans (by kernel_rfl)
theorem regs_Changed.l5X.eq (K : Ex → List EV → Heap → Prop) : ∀ (n : Nat) (x0 : Nat → Int) (x1 : Int) (x2 : Bool) (x3 : Nat → Int) (x4 : Nat → Nat → Lf) (x5 : Bool) (x6 : Nat → Int) (x7 : Nat → Nat → Lf), loopE E_regs_Changed (loopAt Tryd.f16 0) (LV.mk 67 [(0, 67)] 48 2 true) 2 64 K n [EV.ptr 0 [], EV.ptr 1 [], EV.nilSlice, EV.arr IntKind.u64 32 x0, EV.int IntKind.i64 x1] [some (EV.agg [EV.bool x2, EV.arr IntKind.u64 32 x3, EV.arrT 32 (Sk.agg [Sk.int IntKind.u64, Sk.int IntKind.u64]) x4]), some (EV.agg [EV.bool x5, EV.arr IntKind.u64 32 x6, EV.arrT 32 (Sk.agg [Sk.int IntKind.u64, Sk.int IntKind.u64]) x7])] = regs_Changed.l5 (fun y0 y1 y2 y3 y4 y5 => K (.exit 0) [EV.ptr 0 [], EV.ptr 1 [], EV.nilSlice] [some (EV.agg [EV.bool y0, EV.arr IntKind.u64 32 y1, EV.arrT 32 (Sk.agg [Sk.int IntKind.u64, Sk.int IntKind.u64]) y2]), some (EV.agg [EV.bool y3, EV.arr IntKind.u64 32 y4, EV.arrT 32 (Sk.agg [Sk.int IntKind.u64, Sk.int IntKind.u64]) y5])]) (fun y0 y1 y2 y3 y4 y5 y6 y7 y8 => K (.exit 0) [EV.ptr 0 [], EV.ptr 1 [], EV.slice 2 0 y0 none 5] [some (EV.agg [EV.bool y1, EV.arr IntKind.u64 32 y2, EV.arrT 32 (Sk.agg [Sk.int IntKind.u64, Sk.int IntKind.u64]) y3]), some (EV.agg [EV.bool y4, EV.arr IntKind.u64 32 y5, EV.arrT 32 (Sk.agg [Sk.int IntKind.u64, Sk.int IntKind.u64]) y6]), some (EV.arrT y7 (Sk.agg [Sk.bool, Sk.int IntKind.i64, Sk.int IntKind.u64, Sk.agg [Sk.int IntKind.u64, Sk.int IntKind.u64]]) y8)]) n x0 x1 x2 x3 x4 x5 x6 x7
  | 0, _, _, _, _, _, _, _, _ => rfl
  | n + 1, x0, x1, x2, x3, x4, x5, x6, x7 => by
    have ih : (fun (x0 : Nat → Int) (x1 : Int) (x2 : Bool) (x3 : Nat → Int) (x4 : Nat → Nat → Lf) (x5 : Bool) (x6 : Nat → Int) (x7 : Nat → Nat → Lf) => loopE E_regs_Changed (loopAt Tryd.f16 0) (LV.mk 67 [(0, 67)] 48 2 true) 2 64 K n [EV.ptr 0 [], EV.ptr 1 [], EV.nilSlice, EV.arr IntKind.u64 32 x0, EV.int IntKind.i64 x1] [some (EV.agg [EV.bool x2, EV.arr IntKind.u64 32 x3, EV.arrT 32 (Sk.agg [Sk.int IntKind.u64, Sk.int IntKind.u64]) x4]), some (EV.agg [EV.bool x5, EV.arr IntKind.u64 32 x6, EV.arrT 32 (Sk.agg [Sk.int IntKind.u64, Sk.int IntKind.u64]) x7])]) = regs_Changed.l5 (fun y0 y1 y2 y3 y4 y5 => K (.exit 0) [EV.ptr 0 [], EV.ptr 1 [], EV.nilSlice] [some (EV.agg [EV.bool y0, EV.arr IntKind.u64 32 y1, EV.arrT 32 (Sk.agg [Sk.int IntKind.u64, Sk.int IntKind.u64]) y2]), some (EV.agg [EV.bool y3, EV.arr IntKind.u64 32 y4, EV.arrT 32 (Sk.agg [Sk.int IntKind.u64, Sk.int IntKind.u64]) y5])]) (fun y0 y1 y2 y3 y4 y5 y6 y7 y8 => K (.exit 0) [EV.ptr 0 [], EV.ptr 1 [], EV.slice 2 0 y0 none 5] [some (EV.agg [EV.bool y1, EV.arr IntKind.u64 32 y2, EV.arrT 32 (Sk.agg [Sk.int IntKind.u64, Sk.int IntKind.u64]) y3]), some (EV.agg [EV.bool y4, EV.arr IntKind.u64 32 y5, EV.arrT 32 (Sk.agg [Sk.int IntKind.u64, Sk.int IntKind.u64]) y6]), some (EV.arrT y7 (Sk.agg [Sk.bool, Sk.int IntKind.i64, Sk.int IntKind.u64, Sk.agg [Sk.int IntKind.u64, Sk.int IntKind.u64]]) y8)]) n := by funext x0 x1 x2 x3 x4 x5 x6 x7; exact regs_Changed.l5X.eq K n x0 x1 x2 x3 x4 x5 x6 x7
    have ih0 : (fun (x0 : Nat) (x1 : Nat → Int) (x2 : Int) (x3 : Bool) (x4 : Nat → Int) (x5 : Nat → Nat → Lf) (x6 : Bool) (x7 : Nat → Int) (x8 : Nat → Nat → Lf) (x9 : Nat) (x10 : Nat → Nat → Lf) => loopE E_regs_Changed (loopAt Tryd.f16 0) (LV.mk 67 [(0, 67)] 48 2 true) 2 64 K n [EV.ptr 0 [], EV.ptr 1 [], EV.slice 2 0 x0 none 5, EV.arr IntKind.u64 32 x1, EV.int IntKind.i64 x2] [some (EV.agg [EV.bool x3, EV.arr IntKind.u64 32 x4, EV.arrT 32 (Sk.agg [Sk.int IntKind.u64, Sk.int IntKind.u64]) x5]), some (EV.agg [EV.bool x6, EV.arr IntKind.u64 32 x7, EV.arrT 32 (Sk.agg [Sk.int IntKind.u64, Sk.int IntKind.u64]) x8]), some (EV.arrT x9 (Sk.agg [Sk.bool, Sk.int IntKind.i64, Sk.int IntKind.u64, Sk.agg [Sk.int IntKind.u64, Sk.int IntKind.u64]]) x10)]) = regs_Changed.l5h1 (fun y0 y1 y2 y3 y4 y5 y6 y7 y8 => K (.exit 0) [EV.ptr 0 [], EV.ptr 1 [], EV.slice 2 0 y0 none 5] [some (EV.agg [EV.bool y1, EV.arr IntKind.u64 32 y2, EV.arrT 32 (Sk.agg [Sk.int IntKind.u64, Sk.int IntKind.u64]) y3]), some (EV.agg [EV.bool y4, EV.arr IntKind.u64 32 y5, EV.arrT 32 (Sk.agg [Sk.int IntKind.u64, Sk.int IntKind.u64]) y6]), some (EV.arrT y7 (Sk.agg [Sk.bool, Sk.int IntKind.i64, Sk.int IntKind.u64, Sk.agg [Sk.int IntKind.u64, Sk.int IntKind.u64]]) y8)]) n := by funext x0 x1 x2 x3 x4 x5 x6 x7 x8 x9 x10; exact regs_Changed.l5h1X.eq K n x0 x1 x2 x3 x4 x5 x6 x7 x8 x9 x10
    show loopStep _ _ _ _ _ (loopE E_regs_Changed (loopAt Tryd.f16 0) (LV.mk 67 [(0, 67)] 48 2 true) 2 64 K n) [EV.ptr 0 [], EV.ptr 1 [], EV.nilSlice, EV.arr IntKind.u64 32 x0, EV.int IntKind.i64 x1] [some (EV.agg [EV.bool x2, EV.arr IntKind.u64 32 x3, EV.arrT 32 (Sk.agg [Sk.int IntKind.u64, Sk.int IntKind.u64]) x4]), some (EV.agg [EV.bool x5, EV.arr IntKind.u64 32 x6, EV.arrT 32 (Sk.agg [Sk.int IntKind.u64, Sk.int IntKind.u64]) x7])] K = regs_Changed.l5.step (regs_Changed.l5 (fun y0 y1 y2 y3 y4 y5 => K (.exit 0) [EV.ptr 0 [], EV.ptr 1 [], EV.nilSlice] [some (EV.agg [EV.bool y0, EV.arr IntKind.u64 32 y1, EV.arrT 32 (Sk.agg [Sk.int IntKind.u64, Sk.int IntKind.u64]) y2]), some (EV.agg [EV.bool y3, EV.arr IntKind.u64 32 y4, EV.arrT 32 (Sk.agg [Sk.int IntKind.u64, Sk.int IntKind.u64]) y5])]) (fun y0 y1 y2 y3 y4 y5 y6 y7 y8 => K (.exit 0) [EV.ptr 0 [], EV.ptr 1 [], EV.slice 2 0 y0 none 5] [some (EV.agg [EV.bool y1, EV.arr IntKind.u64 32 y2, EV.arrT 32 (Sk.agg [Sk.int IntKind.u64, Sk.int IntKind.u64]) y3]), some (EV.agg [EV.bool y4, EV.arr IntKind.u64 32 y5, EV.arrT 32 (Sk.agg [Sk.int IntKind.u64, Sk.int IntKind.u64]) y6]), some (EV.arrT y7 (Sk.agg [Sk.bool, Sk.int IntKind.i64, Sk.int IntKind.u64, Sk.agg [Sk.int IntKind.u64, Sk.int IntKind.u64]]) y8)]) n) (regs_Changed.l5h1 (fun y0 y1 y2 y3 y4 y5 y6 y7 y8 => K (.exit 0) [EV.ptr 0 [], EV.ptr 1 [], EV.slice 2 0 y0 none 5] [some (EV.agg [EV.bool y1, EV.arr IntKind.u64 32 y2, EV.arrT 32 (Sk.agg [Sk.int IntKind.u64, Sk.int IntKind.u64]) y3]), some (EV.agg [EV.bool y4, EV.arr IntKind.u64 32 y5, EV.arrT 32 (Sk.agg [Sk.int IntKind.u64, Sk.int IntKind.u64]) y6]), some (EV.arrT y7 (Sk.agg [Sk.bool, Sk.int IntKind.i64, Sk.int IntKind.u64, Sk.agg [Sk.int IntKind.u64, Sk.int IntKind.u64]]) y8)]) n) (fun y0 y1 y2 y3 y4 y5 => K (.exit 0) [EV.ptr 0 [], EV.ptr 1 [], EV.nilSlice] [some (EV.agg [EV.bool y0, EV.arr IntKind.u64 32 y1, EV.arrT 32 (Sk.agg [Sk.int IntKind.u64, Sk.int IntKind.u64]) y2]), some (EV.agg [EV.bool y3, EV.arr IntKind.u64 32 y4, EV.arrT 32 (Sk.agg [Sk.int IntKind.u64, Sk.int IntKind.u64]) y5])]) (fun y0 y1 y2 y3 y4 y5 y6 y7 y8 => K (.exit 0) [EV.ptr 0 [], EV.ptr 1 [], EV.slice 2 0 y0 none 5] [some (EV.agg [EV.bool y1, EV.arr IntKind.u64 32 y2, EV.arrT 32 (Sk.agg [Sk.int IntKind.u64, Sk.int IntKind.u64]) y3]), some (EV.agg [EV.bool y4, EV.arr IntKind.u64 32 y5, EV.arrT 32 (Sk.agg [Sk.int IntKind.u64, Sk.int IntKind.u64]) y6]), some (EV.arrT y7 (Sk.agg [Sk.bool, Sk.int IntKind.i64, Sk.int IntKind.u64, Sk.agg [Sk.int IntKind.u64, Sk.int IntKind.u64]]) y8)]) x0 x1 x2 x3 x4 x5 x6 x7
    rw [← ih, ← ih0]
    exact regs_Changed.l5X.stepEq _ K x0 x1 x2 x3 x4 x5 x6 x7
theorem regs_Changed.l5X.ok : LoopEq E_regs_Changed (loopAt Tryd.f16 0) := by
  intro L hL vs H
  have h1 : E_regs_Changed.lp (firstRegion (loopAt Tryd.f16 0)) = some regs_Changed.l5.entry := by kernel_rfl
  have h2 : L = regs_Changed.l5.entry := Option.some.inj (hL.symm.trans h1)
  subst h2
  by_cases hx0 : ∃ (x0 : Nat) (x1 : Nat → Int) (x2 : Int) (x3 : Bool) (x4 : Nat → Int) (x5 : Nat → Nat → Lf) (x6 : Bool) (x7 : Nat → Int) (x8 : Nat → Nat → Lf) (x9 : Nat) (x10 : Nat → Nat → Lf), vs = [EV.ptr 0 [], EV.ptr 1 [], EV.slice 2 0 x0 none 5, EV.arr IntKind.u64 32 x1, EV.int IntKind.i64 x2] ∧ H = [some (EV.agg [EV.bool x3, EV.arr IntKind.u64 32 x4, EV.arrT 32 (Sk.agg [Sk.int IntKind.u64, Sk.int IntKind.u64]) x5]), some (EV.agg [EV.bool x6, EV.arr IntKind.u64 32 x7, EV.arrT 32 (Sk.agg [Sk.int IntKind.u64, Sk.int IntKind.u64]) x8]), some (EV.arrT x9 (Sk.agg [Sk.bool, Sk.int IntKind.i64, Sk.int IntKind.u64, Sk.agg [Sk.int IntKind.u64, Sk.int IntKind.u64]]) x10)]
  · obtain ⟨x0, x1, x2, x3, x4, x5, x6, x7, x8, x9, x10, rfl, rfl⟩ := hx0
    right; intro K
    exact exists_congr fun n => iff_of_eq (regs_Changed.l5h1X.eq K n x0 x1 x2 x3 x4 x5 x6 x7 x8 x9 x10).symm
  by_cases hx1 : ∃ (x0 : Nat → Int) (x1 : Int) (x2 : Bool) (x3 : Nat → Int) (x4 : Nat → Nat → Lf) (x5 : Bool) (x6 : Nat → Int) (x7 : Nat → Nat → Lf), vs = [EV.ptr 0 [], EV.ptr 1 [], EV.nilSlice, EV.arr IntKind.u64 32 x0, EV.int IntKind.i64 x1] ∧ H = [some (EV.agg [EV.bool x2, EV.arr IntKind.u64 32 x3, EV.arrT 32 (Sk.agg [Sk.int IntKind.u64, Sk.int IntKind.u64]) x4]), some (EV.agg [EV.bool x5, EV.arr IntKind.u64 32 x6, EV.arrT 32 (Sk.agg [Sk.int IntKind.u64, Sk.int IntKind.u64]) x7])]
  · obtain ⟨x0, x1, x2, x3, x4, x5, x6, x7, rfl, rfl⟩ := hx1
    right; intro K
    exact exists_congr fun n => iff_of_eq (regs_Changed.l5X.eq K n x0 x1 x2 x3 x4 x5 x6 x7).symm
  left; intro K h
  simp only [regs_Changed.l5.entry] at h
  split at h
  · exact hx0 ⟨_, _, _, _, _, _, _, _, _, _, _, rfl, rfl⟩
  · exact hx1 ⟨_, _, _, _, _, _, _, _, rfl, rfl⟩
  · exact h
theorem regs_Changed.l11h1X.stepEq (R : List EV → Heap → Prop) (K : Ex → List EV → Heap → Prop) (x0 : Nat) (x1 : Nat → Nat → Lf) (x2 : Int) (x3 : Bool) (x4 : Nat → Int) (x5 : Nat → Nat → Lf) (x6 : Bool) (x7 : Nat → Int) (x8 : Nat → Nat → Lf) (x9 : Nat) (x10 : Nat → Nat → Lf) : loopStep (evCode E_regs_Changed (loopAt Tryd.f16 1) { (LV.mk 64 [(2, 64)] 48 2 true) with nx := live (.loop (loopAt Tryd.f16 1)) (LV.mk 64 [(2, 64)] 48 2 true) }) (live (.loop (loopAt Tryd.f16 1)) (LV.mk 64 [(2, 64)] 48 2 true)) (LV.mk 64 [(2, 64)] 48 2 true) 2 64 R [EV.ptr 0 [], EV.slice 2 0 x0 none 5, EV.arrT 32 (Sk.agg [Sk.int IntKind.u64, Sk.int IntKind.u64]) x1, EV.int IntKind.i64 x2] [some (EV.agg [EV.bool x3, EV.arr IntKind.u64 32 x4, EV.arrT 32 (Sk.agg [Sk.int IntKind.u64, Sk.int IntKind.u64]) x5]), some (EV.agg [EV.bool x6, EV.arr IntKind.u64 32 x7, EV.arrT 32 (Sk.agg [Sk.int IntKind.u64, Sk.int IntKind.u64]) x8]), some (EV.arrT x9 (Sk.agg [Sk.bool, Sk.int IntKind.i64, Sk.int IntKind.u64, Sk.agg [Sk.int IntKind.u64, Sk.int IntKind.u64]]) x10)] K = regs_Changed.l11h1.step (fun x0 x1 x2 x3 x4 x5 x6 x7 x8 x9 x10 => R [EV.ptr 0 [], EV.slice 2 0 x0 none 5, EV.arrT 32 (Sk.agg [Sk.int IntKind.u64, Sk.int IntKind.u64]) x1, EV.int IntKind.i64 x2] [some (EV.agg [EV.bool x3, EV.arr IntKind.u64 32 x4, EV.arrT 32 (Sk.agg [Sk.int IntKind.u64, Sk.int IntKind.u64]) x5]), some (EV.agg [EV.bool x6, EV.arr IntKind.u64 32 x7, EV.arrT 32 (Sk.agg [Sk.int IntKind.u64, Sk.int IntKind.u64]) x8]), some (EV.arrT x9 (Sk.agg [Sk.bool, Sk.int IntKind.i64, Sk.int IntKind.u64, Sk.agg [Sk.int IntKind.u64, Sk.int IntKind.u64]]) x10)]) (fun y0 y1 y2 y3 y4 y5 y6 y7 y8 => K (.exit 2) [EV.slice 2 0 y0 none 5] [some (EV.agg [EV.bool y1, EV.arr IntKind.u64 32 y2, EV.arrT 32 (Sk.agg [Sk.int IntKind.u64, Sk.int IntKind.u64]) y3]), some (EV.agg [EV.bool y4, EV.arr IntKind.u64 32 y5, EV.arrT 32 (Sk.agg [Sk.int IntKind.u64, Sk.int IntKind.u64]) y6]), some (EV.arrT y7 (Sk.agg [Sk.bool, Sk.int IntKind.i64, Sk.int IntKind.u64, Sk.agg [Sk.int IntKind.u64, Sk.int IntKind.u64]]) y8)]) x0 x1 x2 x3 x4 x5 x6 x7 x8 x9 x10 := (stepQ_eq _ _ _ _ _ _ _ _ _ _ _).symm.trans (by kernel_rfl)
theorem regs_Changed.l11h1X.eq (K : Ex → List EV → Heap → Prop) : ∀ (n : Nat) (x0 : Nat) (x1 : Nat → Nat → Lf) (x2 : Int) (x3 : Bool) (x4 : Nat → Int) (x5 : Nat → Nat → Lf) (x6 : Bool) (x7 : Nat → Int) (x8 : Nat → Nat → Lf) (x9 : Nat) (x10 : Nat → Nat → Lf), loopE E_regs_Changed (loopAt Tryd.f16 1) (LV.mk 64 [(2, 64)] 48 2 true) 2 64 K n [EV.ptr 0 [], EV.slice 2 0 x0 none 5, EV.arrT 32 (Sk.agg [Sk.int IntKind.u64, Sk.int IntKind.u64]) x1, EV.int IntKind.i64 x2] [some (EV.agg [EV.bool x3, EV.arr IntKind.u64 32 x4, EV.arrT 32 (Sk.agg [Sk.int IntKind.u64, Sk.int IntKind.u64]) x5]), some (EV.agg [EV.bool x6, EV.arr IntKind.u64 32 x7, EV.arrT 32 (Sk.agg [Sk.int IntKind.u64, Sk.int IntKind.u64]) x8]), some (EV.arrT x9 (Sk.agg [Sk.bool, Sk.int IntKind.i64, Sk.int IntKind.u64, Sk.agg [Sk.int IntKind.u64, Sk.int IntKind.u64]]) x10)] = regs_Changed.l11h1 (fun y0 y1 y2 y3 y4 y5 y6 y7 y8 => K (.exit 2) [EV.slice 2 0 y0 none 5] [some (EV.agg [EV.bool y1, EV.arr IntKind.u64 32 y2, EV.arrT 32 (Sk.agg [Sk.int IntKind.u64, Sk.int IntKind.u64]) y3]), some (EV.agg [EV.bool y4, EV.arr IntKind.u64 32 y5, EV.arrT 32 (Sk.agg [Sk.int IntKind.u64, Sk.int IntKind.u64]) y6]), some (EV.arrT y7 (Sk.agg [Sk.bool, Sk.int IntKind.i64, Sk.int IntKind.u64, Sk.agg [Sk.int IntKind.u64, Sk.int IntKind.u64]]) y8)]) n x0 x1 x2 x3 x4 x5 x6 x7 x8 x9 x10
  | 0, _, _, _, _, _, _, _, _, _, _, _ => rfl
  | n + 1, x0, x1, x2, x3, x4, x5, x6, x7, x8, x9, x10 => by
    have ih : (fun (x0 : Nat) (x1 : Nat → Nat → Lf) (x2 : Int) (x3 : Bool) (x4 : Nat → Int) (x5 : Nat → Nat → Lf) (x6 : Bool) (x7 : Nat → Int) (x8 : Nat → Nat → Lf) (x9 : Nat) (x10 : Nat → Nat → Lf) => loopE E_regs_Changed (loopAt Tryd.f16 1) (LV.mk 64 [(2, 64)] 48 2 true) 2 64 K n [EV.ptr 0 [], EV.slice 2 0 x0 none 5, EV.arrT 32 (Sk.agg [Sk.int IntKind.u64, Sk.int IntKind.u64]) x1, EV.int IntKind.i64 x2] [some (EV.agg [EV.bool x3, EV.arr IntKind.u64 32 x4, EV.arrT 32 (Sk.agg [Sk.int IntKind.u64, Sk.int IntKind.u64]) x5]), some (EV.agg [EV.bool x6, EV.arr IntKind.u64 32 x7, EV.arrT 32 (Sk.agg [Sk.int IntKind.u64, Sk.int IntKind.u64]) x8]), some (EV.arrT x9 (Sk.agg [Sk.bool, Sk.int IntKind.i64, Sk.int IntKind.u64, Sk.agg [Sk.int IntKind.u64, Sk.int IntKind.u64]]) x10)]) = regs_Changed.l11h1 (fun y0 y1 y2 y3 y4 y5 y6 y7 y8 => K (.exit 2) [EV.slice 2 0 y0 none 5] [some (EV.agg [EV.bool y1, EV.arr IntKind.u64 32 y2, EV.arrT 32 (Sk.agg [Sk.int IntKind.u64, Sk.int IntKind.u64]) y3]), some (EV.agg [EV.bool y4, EV.arr IntKind.u64 32 y5, EV.arrT 32 (Sk.agg [Sk.int IntKind.u64, Sk.int IntKind.u64]) y6]), some (EV.arrT y7 (Sk.agg [Sk.bool, Sk.int IntKind.i64, Sk.int IntKind.u64, Sk.agg [Sk.int IntKind.u64, Sk.int IntKind.u64]]) y8)]) n := by funext x0 x1 x2 x3 x4 x5 x6 x7 x8 x9 x10; exact regs_Changed.l11h1X.eq K n x0 x1 x2 x3 x4 x5 x6 x7 x8 x9 x10
    show loopStep _ _ _ _ _ (loopE E_regs_Changed (loopAt Tryd.f16 1) (LV.mk 64 [(2, 64)] 48 2 true) 2 64 K n) [EV.ptr 0 [], EV.slice 2 0 x0 none 5, EV.arrT 32 (Sk.agg [Sk.int IntKind.u64, Sk.int IntKind.u64]) x1, EV.int IntKind.i64 x2] [some (EV.agg [EV.bool x3, EV.arr IntKind.u64 32 x4, EV.arrT 32 (Sk.agg [Sk.int IntKind.u64, Sk.int IntKind.u64]) x5]), some (EV.agg [EV.bool x6, EV.arr IntKind.u64 32 x7, EV.arrT 32 (Sk.agg [Sk.int IntKind.u64, Sk.int IntKind.u64]) x8]), some (EV.arrT x9 (Sk.agg [Sk.bool, Sk.int IntKind.i64, Sk.int IntKind.u64, Sk.agg [Sk.int IntKind.u64, Sk.int IntKind.u64]]) x10)] K = regs_Changed.l11h1.step (regs_Changed.l11h1 (fun y0 y1 y2 y3 y4 y5 y6 y7 y8 => K (.exit 2) [EV.slice 2 0 y0 none 5] [some (EV.agg [EV.bool y1, EV.arr IntKind.u64 32 y2, EV.arrT 32 (Sk.agg [Sk.int IntKind.u64, Sk.int IntKind.u64]) y3]), some (EV.agg [EV.bool y4, EV.arr IntKind.u64 32 y5, EV.arrT 32 (Sk.agg [Sk.int IntKind.u64, Sk.int IntKind.u64]) y6]), some (EV.arrT y7 (Sk.agg [Sk.bool, Sk.int IntKind.i64, Sk.int IntKind.u64, Sk.agg [Sk.int IntKind.u64, Sk.int IntKind.u64]]) y8)]) n) (fun y0 y1 y2 y3 y4 y5 y6 y7 y8 => K (.exit 2) [EV.slice 2 0 y0 none 5] [some (EV.agg [EV.bool y1, EV.arr IntKind.u64 32 y2, EV.arrT 32 (Sk.agg [Sk.int IntKind.u64, Sk.int IntKind.u64]) y3]), some (EV.agg [EV.bool y4, EV.arr IntKind.u64 32 y5, EV.arrT 32 (Sk.agg [Sk.int IntKind.u64, Sk.int IntKind.u64]) y6]), some (EV.arrT y7 (Sk.agg [Sk.bool, Sk.int IntKind.i64, Sk.int IntKind.u64, Sk.agg [Sk.int IntKind.u64, Sk.int IntKind.u64]]) y8)]) x0 x1 x2 x3 x4 x5 x6 x7 x8 x9 x10
    rw [← ih]
    exact regs_Changed.l11h1X.stepEq _ K x0 x1 x2 x3 x4 x5 x6 x7 x8 x9 x10
theorem regs_Changed.l11X.stepEq (R : List EV → Heap → Prop) (K : Ex → List EV → Heap → Prop) (x0 : Nat → Nat → Lf) (x1 : Int) (x2 : Bool) (x3 : Nat → Int) (x4 : Nat → Nat → Lf) (x5 : Bool) (x6 : Nat → Int) (x7 : Nat → Nat → Lf) : loopStep (evCode E_regs_Changed (loopAt Tryd.f16 1) { (LV.mk 64 [(2, 64)] 48 2 true) with nx := live (.loop (loopAt Tryd.f16 1)) (LV.mk 64 [(2, 64)] 48 2 true) }) (live (.loop (loopAt Tryd.f16 1)) (LV.mk 64 [(2, 64)] 48 2 true)) (LV.mk 64 [(2, 64)] 48 2 true) 2 64 R [EV.ptr 0 [], EV.nilSlice, EV.arrT 32 (Sk.agg [Sk.int IntKind.u64, Sk.int IntKind.u64]) x0, EV.int IntKind.i64 x1] [some (EV.agg [EV.bool x2, EV.arr IntKind.u64 32 x3, EV.arrT 32 (Sk.agg [Sk.int IntKind.u64, Sk.int IntKind.u64]) x4]), some (EV.agg [EV.bool x5, EV.arr IntKind.u64 32 x6, EV.arrT 32 (Sk.agg [Sk.int IntKind.u64, Sk.int IntKind.u64]) x7])] K = regs_Changed.l11.step (fun x0 x1 x2 x3 x4 x5 x6 x7 => R [EV.ptr 0 [], EV.nilSlice, EV.arrT 32 (Sk.agg [Sk.int IntKind.u64, Sk.int IntKind.u64]) x0, EV.int IntKind.i64 x1] [some (EV.agg [EV.bool x2, EV.arr IntKind.u64 32 x3, EV.arrT 32 (Sk.agg [Sk.int IntKind.u64, Sk.int IntKind.u64]) x4]), some (EV.agg [EV.bool x5, EV.arr IntKind.u64 32 x6, EV.arrT 32 (Sk.agg [Sk.int IntKind.u64, Sk.int IntKind.u64]) x7])]) (fun x0 x1 x2 x3 x4 x5 x6 x7 x8 x9 x10 => R [EV.ptr 0 [], EV.slice 2 0 x0 none 5, EV.arrT 32 (Sk.agg [Sk.int IntKind.u64, Sk.int IntKind.u64]) x1, EV.int IntKind.i64 x2] [some (EV.agg [EV.bool x3, EV.arr IntKind.u64 32 x4, EV.arrT 32 (Sk.agg [Sk.int IntKind.u64, Sk.int IntKind.u64]) x5]), some (EV.agg [EV.bool x6, EV.arr IntKind.u64 32 x7, EV.arrT 32 (Sk.agg [Sk.int IntKind.u64, Sk.int IntKind.u64]) x8]), some (EV.arrT x9 (Sk.agg [Sk.bool, Sk.int IntKind.i64, Sk.int IntKind.u64, Sk.agg [Sk.int IntKind.u64, Sk.int IntKind.u64]]) x10)]) (fun y0 y1 y2 y3 y4 y5 => K (.exit 2) [EV.nilSlice] [some (EV.agg [EV.bool y0, EV.arr IntKind.u64 32 y1, EV.arrT 32 (Sk.agg [Sk.int IntKind.u64, Sk.int IntKind.u64]) y2]), some (EV.agg [EV.bool y3, EV.arr IntKind.u64 32 y4, EV.arrT 32 (Sk.agg [Sk.int IntKind.u64, Sk.int IntKind.u64]) y5])]) (fun y0 y1 y2 y3 y4 y5 y6 y7 y8 => K (.exit 2) [EV.slice 2 0 y0 none 5] [some (EV.agg [EV.bool y1, EV.arr IntKind.u64 32 y2, EV.arrT 32 (Sk.agg [Sk.int IntKind.u64, Sk.int IntKind.u64]) y3]), some (EV.agg [EV.bool y4, EV.arr IntKind.u64 32 y5, EV.arrT 32 (Sk.agg [Sk.int IntKind.u64, Sk.int IntKind.u64]) y6]), some (EV.arrT y7 (Sk.agg [Sk.bool, Sk.int IntKind.i64, Sk.int IntKind.u64, Sk.agg [Sk.int IntKind.u64, Sk.int IntKind.u64]]) y8)]) x0 x1 x2 x3 x4 x5 x6 x7 := (stepQ_eq _ _ _ _ _ _ _ _ _ _ _).symm.trans (by kernel_rfl)
theorem regs_Changed.l11X.eq (K : Ex → List EV → Heap → Prop) : ∀ (n : Nat) (x0 : Nat → Nat → Lf) (x1 : Int) (x2 : Bool) (x3 : Nat → Int) (x4 : Nat → Nat → Lf) (x5 : Bool) (x6 : Nat → Int) (x7 : Nat → Nat → Lf), loopE E_regs_Changed (loopAt Tryd.f16 1) (LV.mk 64 [(2, 64)] 48 2 true) 2 64 K n [EV.ptr 0 [], EV.nilSlice, EV.arrT 32 (Sk.agg [Sk.int IntKind.u64, Sk.int IntKind.u64]) x0, EV.int IntKind.i64 x1] [some (EV.agg [EV.bool x2, EV.arr IntKind.u64 32 x3, EV.arrT 32 (Sk.agg [Sk.int IntKind.u64, Sk.int IntKind.u64]) x4]), some (EV.agg [EV.bool x5, EV.arr IntKind.u64 32 x6, EV.arrT 32 (Sk.agg [Sk.int IntKind.u64, Sk.int IntKind.u64]) x7])] = regs_Changed.l11 (fun y0 y1 y2 y3 y4 y5 => K (.exit 2) [EV.nilSlice] [some (EV.agg [EV.bool y0, EV.arr IntKind.u64 32 y1, EV.arrT 32 (Sk.agg [Sk.int IntKind.u64, Sk.int IntKind.u64]) y2]), some (EV.agg [EV.bool y3, EV.arr IntKind.u64 32 y4, EV.arrT 32 (Sk.agg [Sk.int IntKind.u64, Sk.int IntKind.u64]) y5])]) (fun y0 y1 y2 y3 y4 y5 y6 y7 y8 => K (.exit 2) [EV.slice 2 0 y0 none 5] [some (EV.agg [EV.bool y1, EV.arr IntKind.u64 32 y2, EV.arrT 32 (Sk.agg [Sk.int IntKind.u64, Sk.int IntKind.u64]) y3]), some (EV.agg [EV.bool y4, EV.arr IntKind.u64 32 y5, EV.arrT 32 (Sk.agg [Sk.int IntKind.u64, Sk.int IntKind.u64]) y6]), some (EV.arrT y7 (Sk.agg [Sk.bool, Sk.int IntKind.i64, Sk.int IntKind.u64, Sk.agg [Sk.int IntKind.u64, Sk.int IntKind.u64]]) y8)]) n x0 x1 x2 x3 x4 x5 x6 x7
  | 0, _, _, _, _, _, _, _, _ => rfl
  | n + 1, x0, x1, x2, x3, x4, x5, x6, x7 => by
    have ih : (fun (x0 : Nat → Nat → Lf) (x1 : Int) (x2 : Bool) (x3 : Nat → Int) (x4 : Nat → Nat → Lf) (x5 : Bool) (x6 : Nat → Int) (x7 : Nat → Nat → Lf) => loopE E_regs_Changed (loopAt Tryd.f16 1) (LV.mk 64 [(2, 64)] 48 2 true) 2 64 K n [EV.ptr 0 [], EV.nilSlice, EV.arrT 32 (Sk.agg [Sk.int IntKind.u64, Sk.int IntKind.u64]) x0, EV.int IntKind.i64 x1] [some (EV.agg [EV.bool x2, EV.arr IntKind.u64 32 x3, EV.arrT 32 (Sk.agg [Sk.int IntKind.u64, Sk.int IntKind.u64]) x4]), some (EV.agg [EV.bool x5, EV.arr IntKind.u64 32 x6, EV.arrT 32 (Sk.agg [Sk.int IntKind.u64, Sk.int IntKind.u64]) x7])]) = regs_Changed.l11 (fun y0 y1 y2 y3 y4 y5 => K (.exit 2) [EV.nilSlice] [some (EV.agg [EV.bool y0, EV.arr IntKind.u64 32 y1, EV.arrT 32 (Sk.agg [Sk.int IntKind.u64, Sk.int IntKind.u64]) y2]), some (EV.agg [EV.bool y3, EV.arr IntKind.u64 32 y4, EV.arrT 32 (Sk.agg [Sk.int IntKind.u64, Sk.int IntKind.u64]) y5])]) (fun y0 y1 y2 y3 y4 y5 y6 y7 y8 => K (.exit 2) [EV.slice 2 0 y0 none 5] [some (EV.agg [EV.bool y1, EV.arr IntKind.u64 32 y2, EV.arrT 32 (Sk.agg [Sk.int IntKind.u64, Sk.int IntKind.u64]) y3]), some (EV.agg [EV.bool y4, EV.arr IntKind.u64 32 y5, EV.arrT 32 (Sk.agg [Sk.int IntKind.u64, Sk.int IntKind.u64]) y6]), some (EV.arrT y7 (Sk.agg [Sk.bool, Sk.int IntKind.i64, Sk.int IntKind.u64, Sk.agg [Sk.int IntKind.u64, Sk.int IntKind.u64]]) y8)]) n := by funext x0 x1 x2 x3 x4 x5 x6 x7; exact regs_Changed.l11X.eq K n x0 x1 x2 x3 x4 x5 x6 x7
    have ih0 : (fun (x0 : Nat) (x1 : Nat → Nat → Lf) (x2 : Int) (x3 : Bool) (x4 : Nat → Int) (x5 : Nat → Nat → Lf) (x6 : Bool) (x7 : Nat → Int) (x8 : Nat → Nat → Lf) (x9 : Nat) (x10 : Nat → Nat → Lf) => loopE E_regs_Changed (loopAt Tryd.f16 1) (LV.mk 64 [(2, 64)] 48 2 true) 2 64 K n [EV.ptr 0 [], EV.slice 2 0 x0 none 5, EV.arrT 32 (Sk.agg [Sk.int IntKind.u64, Sk.int IntKind.u64]) x1, EV.int IntKind.i64 x2] [some (EV.agg [EV.bool x3, EV.arr IntKind.u64 32 x4, EV.arrT 32 (Sk.agg [Sk.int IntKind.u64, Sk.int IntKind.u64]) x5]), some (EV.agg [EV.bool x6, EV.arr IntKind.u64 32 x7, EV.arrT 32 (Sk.agg [Sk.int IntKind.u64, Sk.int IntKind.u64]) x8]), some (EV.arrT x9 (Sk.agg [Sk.bool, Sk.int IntKind.i64, Sk.int IntKind.u64, Sk.agg [Sk.int IntKind.u64, Sk.int IntKind.u64]]) x10)]) = regs_Changed.l11h1 (fun y0 y1 y2 y3 y4 y5 y6 y7 y8 => K (.exit 2) [EV.slice 2 0 y0 none 5] [some (EV.agg [EV.bool y1, EV.arr IntKind.u64 32 y2, EV.arrT 32 (Sk.agg [Sk.int IntKind.u64, Sk.int IntKind.u64]) y3]), some (EV.agg [EV.bool y4, EV.arr IntKind.u64 32 y5, EV.arrT 32 (Sk.agg [Sk.int IntKind.u64, Sk.int IntKind.u64]) y6]), some (EV.arrT y7 (Sk.agg [Sk.bool, Sk.int IntKind.i64, Sk.int IntKind.u64, Sk.agg [Sk.int IntKind.u64, Sk.int IntKind.u64]]) y8)]) n := by funext x0 x1 x2 x3 x4 x5 x6 x7 x8 x9 x10; exact regs_Changed.l11h1X.eq K n x0 x1 x2 x3 x4 x5 x6 x7 x8 x9 x10
    show loopStep _ _ _ _ _ (loopE E_regs_Changed (loopAt Tryd.f16 1) (LV.mk 64 [(2, 64)] 48 2 true) 2 64 K n) [EV.ptr 0 [], EV.nilSlice, EV.arrT 32 (Sk.agg [Sk.int IntKind.u64, Sk.int IntKind.u64]) x0, EV.int IntKind.i64 x1] [some (EV.agg [EV.bool x2, EV.arr IntKind.u64 32 x3, EV.arrT 32 (Sk.agg [Sk.int IntKind.u64, Sk.int IntKind.u64]) x4]), some (EV.agg [EV.bool x5, EV.arr IntKind.u64 32 x6, EV.arrT 32 (Sk.agg [Sk.int IntKind.u64, Sk.int IntKind.u64]) x7])] K = regs_Changed.l11.step (regs_Changed.l11 (fun y0 y1 y2 y3 y4 y5 => K (.exit 2) [EV.nilSlice] [some (EV.agg [EV.bool y0, EV.arr IntKind.u64 32 y1, EV.arrT 32 (Sk.agg [Sk.int IntKind.u64, Sk.int IntKind.u64]) y2]), some (EV.agg [EV.bool y3, EV.arr IntKind.u64 32 y4, EV.arrT 32 (Sk.agg [Sk.int IntKind.u64, Sk.int IntKind.u64]) y5])]) (fun y0 y1 y2 y3 y4 y5 y6 y7 y8 => K (.exit 2) [EV.slice 2 0 y0 none 5] [some (EV.agg [EV.bool y1, EV.arr IntKind.u64 32 y2, EV.arrT 32 (Sk.agg [Sk.int IntKind.u64, Sk.int IntKind.u64]) y3]), some (EV.agg [EV.bool y4, EV.arr IntKind.u64 32 y5, EV.arrT 32 (Sk.agg [Sk.int IntKind.u64, Sk.int IntKind.u64]) y6]), some (EV.arrT y7 (Sk.agg [Sk.bool, Sk.int IntKind.i64, Sk.int IntKind.u64, Sk.agg [Sk.int IntKind.u64, Sk.int IntKind.u64]]) y8)]) n) (regs_Changed.l11h1 (fun y0 y1 y2 y3 y4 y5 y6 y7 y8 => K (.exit 2) [EV.slice 2 0 y0 none 5] [some (EV.agg [EV.bool y1, EV.arr IntKind.u64 32 y2, EV.arrT 32 (Sk.agg [Sk.int IntKind.u64, Sk.int IntKind.u64]) y3]), some (EV.agg [EV.bool y4, EV.arr IntKind.u64 32 y5, EV.arrT 32 (Sk.agg [Sk.int IntKind.u64, Sk.int IntKind.u64]) y6]), some (EV.arrT y7 (Sk.agg [Sk.bool, Sk.int IntKind.i64, Sk.int IntKind.u64, Sk.agg [Sk.int IntKind.u64, Sk.int IntKind.u64]]) y8)]) n) (fun y0 y1 y2 y3 y4 y5 => K (.exit 2) [EV.nilSlice] [some (EV.agg [EV.bool y0, EV.arr IntKind.u64 32 y1, EV.arrT 32 (Sk.agg [Sk.int IntKind.u64, Sk.int IntKind.u64]) y2]), some (EV.agg [EV.bool y3, EV.arr IntKind.u64 32 y4, EV.arrT 32 (Sk.agg [Sk.int IntKind.u64, Sk.int IntKind.u64]) y5])]) (fun y0 y1 y2 y3 y4 y5 y6 y7 y8 => K (.exit 2) [EV.slice 2 0 y0 none 5] [some (EV.agg [EV.bool y1, EV.arr IntKind.u64 32 y2, EV.arrT 32 (Sk.agg [Sk.int IntKind.u64, Sk.int IntKind.u64]) y3]), some (EV.agg [EV.bool y4, EV.arr IntKind.u64 32 y5, EV.arrT 32 (Sk.agg [Sk.int IntKind.u64, Sk.int IntKind.u64]) y6]), some (EV.arrT y7 (Sk.agg [Sk.bool, Sk.int IntKind.i64, Sk.int IntKind.u64, Sk.agg [Sk.int IntKind.u64, Sk.int IntKind.u64]]) y8)]) x0 x1 x2 x3 x4 x5 x6 x7
    rw [← ih, ← ih0]
    exact regs_Changed.l11X.stepEq _ K x0 x1 x2 x3 x4 x5 x6 x7
theorem regs_Changed.l11X.ok : LoopEq E_regs_Changed (loopAt Tryd.f16 1) := by
  intro L hL vs H
  have h1 : E_regs_Changed.lp (firstRegion (loopAt Tryd.f16 1)) = some regs_Changed.l11.entry := by kernel_rfl
  have h2 : L = regs_Changed.l11.entry := Option.some.inj (hL.symm.trans h1)
  subst h2
  by_cases hx0 : ∃ (x0 : Nat) (x1 : Nat → Nat → Lf) (x2 : Int) (x3 : Bool) (x4 : Nat → Int) (x5 : Nat → Nat → Lf) (x6 : Bool) (x7 : Nat → Int) (x8 : Nat → Nat → Lf) (x9 : Nat) (x10 : Nat → Nat → Lf), vs = [EV.ptr 0 [], EV.slice 2 0 x0 none 5, EV.arrT 32 (Sk.agg [Sk.int IntKind.u64, Sk.int IntKind.u64]) x1, EV.int IntKind.i64 x2] ∧ H = [some (EV.agg [EV.bool x3, EV.arr IntKind.u64 32 x4, EV.arrT 32 (Sk.agg [Sk.int IntKind.u64, Sk.int IntKind.u64]) x5]), some (EV.agg [EV.bool x6, EV.arr IntKind.u64 32 x7, EV.arrT 32 (Sk.agg [Sk.int IntKind.u64, Sk.int IntKind.u64]) x8]), some (EV.arrT x9 (Sk.agg [Sk.bool, Sk.int IntKind.i64, Sk.int IntKind.u64, Sk.agg [Sk.int IntKind.u64, Sk.int IntKind.u64]]) x10)]
  · obtain ⟨x0, x1, x2, x3, x4, x5, x6, x7, x8, x9, x10, rfl, rfl⟩ := hx0
    right; intro K
    exact exists_congr fun n => iff_of_eq (regs_Changed.l11h1X.eq K n x0 x1 x2 x3 x4 x5 x6 x7 x8 x9 x10).symm
  by_cases hx1 : ∃ (x0 : Nat → Nat → Lf) (x1 : Int) (x2 : Bool) (x3 : Nat → Int) (x4 : Nat → Nat → Lf) (x5 : Bool) (x6 : Nat → Int) (x7 : Nat → Nat → Lf), vs = [EV.ptr 0 [], EV.nilSlice, EV.arrT 32 (Sk.agg [Sk.int IntKind.u64, Sk.int IntKind.u64]) x0, EV.int IntKind.i64 x1] ∧ H = [some (EV.agg [EV.bool x2, EV.arr IntKind.u64 32 x3, EV.arrT 32 (Sk.agg [Sk.int IntKind.u64, Sk.int IntKind.u64]) x4]), some (EV.agg [EV.bool x5, EV.arr IntKind.u64 32 x6, EV.arrT 32 (Sk.agg [Sk.int IntKind.u64, Sk.int IntKind.u64]) x7])]
  · obtain ⟨x0, x1, x2, x3, x4, x5, x6, x7, rfl, rfl⟩ := hx1
    right; intro K
    exact exists_congr fun n => iff_of_eq (regs_Changed.l11X.eq K n x0 x1 x2 x3 x4 x5 x6 x7).symm
  left; intro K h
  simp only [regs_Changed.l11.entry] at h
  split at h
  · exact hx0 ⟨_, _, _, _, _, _, _, _, _, _, _, rfl, rfl⟩
  · exact hx1 ⟨_, _, _, _, _, _, _, _, rfl, rfl⟩
  · exact h
theorem X_regs_Changed.eq (a0_0 : Bool) (a0_1 : Nat → Int) (a0_2 : Nat → Nat → Lf) (a1_0 : Bool) (a1_1 : Nat → Int) (a1_2 : Nat → Nat → Lf) (K : EV → Heap → Prop) : evFn E_regs_Changed Tryd.f16 false [.ptr 0 [], .ptr 1 []] [some (.agg [.bool a0_0, .arr .u64 32 a0_1, .arrT 32 (.agg [.int .u64, .int .u64]) a0_2]), some (.agg [.bool a1_0, .arr .u64 32 a1_1, .arrT 32 (.agg [.int .u64, .int .u64]) a1_2])] K = regs_Changed a0_0 a0_1 a0_2 a1_0 a1_1 a1_2 (fun y0 y1 y2 y3 y4 y5 y6 y7 y8 => K (EV.tuple [EV.rsT y0 (Sk.agg [Sk.bool, Sk.int IntKind.i64, Sk.int IntKind.u64, Sk.agg [Sk.int IntKind.u64, Sk.int IntKind.u64]]) y1, EV.int IntKind.i64 y2]) [some (EV.agg [EV.bool y3, EV.arr IntKind.u64 32 y4, EV.arrT 32 (Sk.agg [Sk.int IntKind.u64, Sk.int IntKind.u64]) y5]), some (EV.agg [EV.bool y6, EV.arr IntKind.u64 32 y7, EV.arrT 32 (Sk.agg [Sk.int IntKind.u64, Sk.int IntKind.u64]) y8])]) := by
  rw [regs_Changed.is]; exact (evFnQ_eq _ _ _ _ _ _).symm.trans (by kernel_rfl)
theorem X_regs_Changed.ok : SoundE Tryd.prog gl 16 e_regs_Changed := by
  refine fnOK (E := E_regs_Changed) (fn := Tryd.f16) rfl tys_ok rfl (show AllL _ l_regs_Changed from ⟨X_regs_Regs_none.ok, trivial⟩) mixed (by kernel_rfl) (by kernel_rfl) (by kernel_rfl) 2 (by kernel_rfl) false ⟨regs_Changed.l5X.ok, regs_Changed.l11X.ok, trivial⟩ ?_
  intro args H
  by_cases hx : ∃ (a0_0 : Bool) (a0_1 : Nat → Int) (a0_2 : Nat → Nat → Lf) (a1_0 : Bool) (a1_1 : Nat → Int) (a1_2 : Nat → Nat → Lf), args = [.ptr 0 [], .ptr 1 []] ∧ H = [some (.agg [.bool a0_0, .arr .u64 32 a0_1, .arrT 32 (.agg [.int .u64, .int .u64]) a0_2]), some (.agg [.bool a1_0, .arr .u64 32 a1_1, .arrT 32 (.agg [.int .u64, .int .u64]) a1_2])]
  · obtain ⟨a0_0, a0_1, a0_2, a1_0, a1_1, a1_2, rfl, rfl⟩ := hx
    right; intro K
    exact iff_of_eq (X_regs_Changed.eq a0_0 a0_1 a0_2 a1_0 a1_1 a1_2 K).symm
  · left; intro K h
    simp only [e_regs_Changed] at h
    split at h
    · exact hx ⟨_, _, _, _, _, _, rfl, rfl⟩
    · exact h
noncomputable def e_regs_Regs_Copy : Entry := ⟨[none], true, fun args H K => match args, H with
  | [.ptr 0 []], [some (.agg [.bool a0_0, .arr .u64 32 a0_1, .arrT 32 (.agg [.int .u64, .int .u64]) a0_2])] => regs_Regs_Copy a0_0 a0_1 a0_2 (fun y0 y1 y2 => K (EV.nilPtr) [some (EV.agg [EV.bool y0, EV.arr IntKind.u64 32 y1, EV.arrT 32 (Sk.agg [Sk.int IntKind.u64, Sk.int IntKind.u64]) y2])]) (fun y0 y1 y2 y3 y4 y5 => K (EV.ptr 1 []) [some (EV.agg [EV.bool y0, EV.arr IntKind.u64 32 y1, EV.arrT 32 (Sk.agg [Sk.int IntKind.u64, Sk.int IntKind.u64]) y2]), some (EV.agg [EV.bool y3, EV.arr IntKind.u64 32 y4, EV.arrT 32 (Sk.agg [Sk.int IntKind.u64, Sk.int IntKind.u64]) y5])])
  | _, _ => False⟩
noncomputable def l_regs_Regs_Copy : List (Nat × Entry) := [(33, e_regs_Regs_none)]
noncomputable def E_regs_Regs_Copy : Env := ⟨look tys, look l_regs_Regs_Copy, look [], gl, lookL [], false⟩
theorem X_regs_Regs_Copy.eq (a0_0 : Bool) (a0_1 : Nat → Int) (a0_2 : Nat → Nat → Lf) (K : EV → Heap → Prop) : evFn E_regs_Regs_Copy Tryd.f22 true [.ptr 0 []] [some (.agg [.bool a0_0, .arr .u64 32 a0_1, .arrT 32 (.agg [.int .u64, .int .u64]) a0_2])] K = regs_Regs_Copy a0_0 a0_1 a0_2 (fun y0 y1 y2 => K (EV.nilPtr) [some (EV.agg [EV.bool y0, EV.arr IntKind.u64 32 y1, EV.arrT 32 (Sk.agg [Sk.int IntKind.u64, Sk.int IntKind.u64]) y2])]) (fun y0 y1 y2 y3 y4 y5 => K (EV.ptr 1 []) [some (EV.agg [EV.bool y0, EV.arr IntKind.u64 32 y1, EV.arrT 32 (Sk.agg [Sk.int IntKind.u64, Sk.int IntKind.u64]) y2]), some (EV.agg [EV.bool y3, EV.arr IntKind.u64 32 y4, EV.arrT 32 (Sk.agg [Sk.int IntKind.u64, Sk.int IntKind.u64]) y5])]) := by
  rw [regs_Regs_Copy.is]; exact (evFnQ_eq _ _ _ _ _ _).symm.trans (by kernel_rfl)
theorem X_regs_Regs_Copy.ok : SoundE Tryd.prog gl 22 e_regs_Regs_Copy := by
  refine fnOK (E := E_regs_Regs_Copy) (fn := Tryd.f22) rfl tys_ok rfl (show AllL _ l_regs_Regs_Copy from ⟨X_regs_Regs_none.ok, trivial⟩) mixed (by kernel_rfl) (by kernel_rfl) (by kernel_rfl) 0 (by kernel_rfl) true trivial ?_
  intro args H
  by_cases hx : ∃ (a0_0 : Bool) (a0_1 : Nat → Int) (a0_2 : Nat → Nat → Lf), args = [.ptr 0 []] ∧ H = [some (.agg [.bool a0_0, .arr .u64 32 a0_1, .arrT 32 (.agg [.int .u64, .int .u64]) a0_2])]
  · obtain ⟨a0_0, a0_1, a0_2, rfl, rfl⟩ := hx
    right; intro K
    exact iff_of_eq (X_regs_Regs_Copy.eq a0_0 a0_1 a0_2 K).symm
  · left; intro K h
    simp only [e_regs_Regs_Copy] at h
    split at h
    · exact hx ⟨_, _, _, rfl, rfl⟩
    · exact h
noncomputable def e_regs_Regs_Tell : Entry := ⟨[none, some (.sk (.sl (.sl (.sl .bool))))], true, fun args H K => match args, H with
  | [.ptr 0 []], [some (.agg [.bool a0_0, .arr .u64 32 a0_1, .arrT 32 (.agg [.int .u64, .int .u64]) a0_2])] => regs_Regs_Tell a0_0 a0_1 a0_2 (fun y0 y1 y2 y3 y4 => K (EV.agg [EV.arr IntKind.u64 32 y0, EV.arrT 32 (Sk.agg [Sk.int IntKind.u64, Sk.int IntKind.u64]) y1]) [some (EV.agg [EV.bool y2, EV.arr IntKind.u64 32 y3, EV.arrT 32 (Sk.agg [Sk.int IntKind.u64, Sk.int IntKind.u64]) y4])])
  | _, _ => False⟩
noncomputable def l_regs_Regs_Tell : List (Nat × Entry) := [(33, e_regs_Regs_none)]
noncomputable def E_regs_Regs_Tell : Env := ⟨look tys, look l_regs_Regs_Tell, look [], gl, lookL [], false⟩
theorem X_regs_Regs_Tell.eq (a0_0 : Bool) (a0_1 : Nat → Int) (a0_2 : Nat → Nat → Lf) (K : EV → Heap → Prop) : evFn E_regs_Regs_Tell Tryd.f23 false [.ptr 0 []] [some (.agg [.bool a0_0, .arr .u64 32 a0_1, .arrT 32 (.agg [.int .u64, .int .u64]) a0_2])] K = regs_Regs_Tell a0_0 a0_1 a0_2 (fun y0 y1 y2 y3 y4 => K (EV.agg [EV.arr IntKind.u64 32 y0, EV.arrT 32 (Sk.agg [Sk.int IntKind.u64, Sk.int IntKind.u64]) y1]) [some (EV.agg [EV.bool y2, EV.arr IntKind.u64 32 y3, EV.arrT 32 (Sk.agg [Sk.int IntKind.u64, Sk.int IntKind.u64]) y4])]) := by
  rw [regs_Regs_Tell.is]; exact (evFnQ_eq _ _ _ _ _ _).symm.trans (by kernel_rfl)
theorem X_regs_Regs_Tell.ok : SoundE Tryd.prog gl 23 e_regs_Regs_Tell := by
  refine fnOK (E := E_regs_Regs_Tell) (fn := Tryd.f23) rfl tys_ok rfl (show AllL _ l_regs_Regs_Tell from ⟨X_regs_Regs_none.ok, trivial⟩) mixed (by kernel_rfl) (by kernel_rfl) (by kernel_rfl) 0 (by kernel_rfl) false trivial ?_
  intro args H
  by_cases hx : ∃ (a0_0 : Bool) (a0_1 : Nat → Int) (a0_2 : Nat → Nat → Lf), args = [.ptr 0 []] ∧ H = [some (.agg [.bool a0_0, .arr .u64 32 a0_1, .arrT 32 (.agg [.int .u64, .int .u64]) a0_2])]
  · obtain ⟨a0_0, a0_1, a0_2, rfl, rfl⟩ := hx
    right; intro K
    exact iff_of_eq (X_regs_Regs_Tell.eq a0_0 a0_1 a0_2 K).symm
  · left; intro K h
    simp only [e_regs_Regs_Tell] at h
    split at h
    · exact hx ⟨_, _, _, rfl, rfl⟩
    · exact h
noncomputable def e_regs_Same : Entry := ⟨[none, none, some (.sk (.sl (.sl (.sl .bool))))], true, fun args H K => match args, H with
  | [.ptr 0 [], .ptr 1 []], [some (.agg [.bool a0_0, .arr .u64 32 a0_1, .arrT 32 (.agg [.int .u64, .int .u64]) a0_2]), some (.agg [.bool a1_0, .arr .u64 32 a1_1, .arrT 32 (.agg [.int .u64, .int .u64]) a1_2])] => regs_Same a0_0 a0_1 a0_2 a1_0 a1_1 a1_2 (fun y0 y1 y2 y3 y4 y5 y6 => K (EV.bool y0) [some (EV.agg [EV.bool y1, EV.arr IntKind.u64 32 y2, EV.arrT 32 (Sk.agg [Sk.int IntKind.u64, Sk.int IntKind.u64]) y3]), some (EV.agg [EV.bool y4, EV.arr IntKind.u64 32 y5, EV.arrT 32 (Sk.agg [Sk.int IntKind.u64, Sk.int IntKind.u64]) y6])])
  | _, _ => False⟩
noncomputable def l_regs_Same : List (Nat × Entry) := [(33, e_regs_Regs_none)]
noncomputable def E_regs_Same : Env := ⟨look tys, look l_regs_Same, look [], gl, lookL [], false⟩
theorem X_regs_Same.eq (a0_0 : Bool) (a0_1 : Nat → Int) (a0_2 : Nat → Nat → Lf) (a1_0 : Bool) (a1_1 : Nat → Int) (a1_2 : Nat → Nat → Lf) (K : EV → Heap → Prop) : evFn E_regs_Same Tryd.f24 false [.ptr 0 [], .ptr 1 []] [some (.agg [.bool a0_0, .arr .u64 32 a0_1, .arrT 32 (.agg [.int .u64, .int .u64]) a0_2]), some (.agg [.bool a1_0, .arr .u64 32 a1_1, .arrT 32 (.agg [.int .u64, .int .u64]) a1_2])] K = regs_Same a0_0 a0_1 a0_2 a1_0 a1_1 a1_2 (fun y0 y1 y2 y3 y4 y5 y6 => K (EV.bool y0) [some (EV.agg [EV.bool y1, EV.arr IntKind.u64 32 y2, EV.arrT 32 (Sk.agg [Sk.int IntKind.u64, Sk.int IntKind.u64]) y3]), some (EV.agg [EV.bool y4, EV.arr IntKind.u64 32 y5, EV.arrT 32 (Sk.agg [Sk.int IntKind.u64, Sk.int IntKind.u64]) y6])]) := by
  rw [regs_Same.is]; exact (evFnQ_eq _ _ _ _ _ _).symm.trans (by kernel_rfl)
theorem X_regs_Same.ok : SoundE Tryd.prog gl 24 e_regs_Same := by
  refine fnOK (E := E_regs_Same) (fn := Tryd.f24) rfl tys_ok rfl (show AllL _ l_regs_Same from ⟨X_regs_Regs_none.ok, trivial⟩) mixed (by kernel_rfl) (by kernel_rfl) (by kernel_rfl) 0 (by kernel_rfl) false trivial ?_
  intro args H
  by_cases hx : ∃ (a0_0 : Bool) (a0_1 : Nat → Int) (a0_2 : Nat → Nat → Lf) (a1_0 : Bool) (a1_1 : Nat → Int) (a1_2 : Nat → Nat → Lf), args = [.ptr 0 [], .ptr 1 []] ∧ H = [some (.agg [.bool a0_0, .arr .u64 32 a0_1, .arrT 32 (.agg [.int .u64, .int .u64]) a0_2]), some (.agg [.bool a1_0, .arr .u64 32 a1_1, .arrT 32 (.agg [.int .u64, .int .u64]) a1_2])]
  · obtain ⟨a0_0, a0_1, a0_2, a1_0, a1_1, a1_2, rfl, rfl⟩ := hx
    right; intro K
    exact iff_of_eq (X_regs_Same.eq a0_0 a0_1 a0_2 a1_0 a1_1 a1_2 K).symm
  · left; intro K h
    simp only [e_regs_Same] at h
    split at h
    · exact hx ⟨_, _, _, _, _, _, rfl, rfl⟩
    · exact h
noncomputable def e_regs_From : Entry := ⟨[none, some (.sk (.sl (.sl .bool)))], true, fun args H K => match args, H with
  | [.agg [.arr .u64 32 a0_0, .arrT 32 (.agg [.int .u64, .int .u64]) a0_1]], [] => regs_From a0_0 a0_1 (fun y0 y1 y2 => K (EV.ptr 0 []) [some (EV.agg [EV.bool y0, EV.arr IntKind.u64 32 y1, EV.arrT 32 (Sk.agg [Sk.int IntKind.u64, Sk.int IntKind.u64]) y2])])
  | _, _ => False⟩
noncomputable def E_regs_From : Env := ⟨look tys, look [], look [], gl, lookL [], false⟩
theorem X_regs_From.eq (a0_0 : Nat → Int) (a0_1 : Nat → Nat → Lf) (K : EV → Heap → Prop) : evFn E_regs_From Tryd.f25 true [.agg [.arr .u64 32 a0_0, .arrT 32 (.agg [.int .u64, .int .u64]) a0_1]] [] K = regs_From a0_0 a0_1 (fun y0 y1 y2 => K (EV.ptr 0 []) [some (EV.agg [EV.bool y0, EV.arr IntKind.u64 32 y1, EV.arrT 32 (Sk.agg [Sk.int IntKind.u64, Sk.int IntKind.u64]) y2])]) := by
  rw [regs_From.is]; exact (evFnQ_eq _ _ _ _ _ _).symm.trans (by kernel_rfl)
theorem X_regs_From.ok : SoundE Tryd.prog gl 25 e_regs_From := by
  refine fnOK (E := E_regs_From) (fn := Tryd.f25) rfl tys_ok rfl (show AllL _ [] from trivial) mixed (by kernel_rfl) (by kernel_rfl) (by kernel_rfl) 0 (by kernel_rfl) true trivial ?_
  intro args H
  by_cases hx : ∃ (a0_0 : Nat → Int) (a0_1 : Nat → Nat → Lf), args = [.agg [.arr .u64 32 a0_0, .arrT 32 (.agg [.int .u64, .int .u64]) a0_1]] ∧ H = []
  · obtain ⟨a0_0, a0_1, rfl, rfl⟩ := hx
    right; intro K
    exact iff_of_eq (X_regs_From.eq a0_0 a0_1 K).symm
  · left; intro K h
    simp only [e_regs_From] at h
    split at h
    · exact hx ⟨_, _, rfl, rfl⟩
    · exact h
noncomputable def e_r23_From : Entry := ⟨[none], false, fun args H K => match args, H with
  | [.agg [.arr .u64 32 a0_0, .arrT 32 (.agg [.int .u64, .int .u64]) a0_1]], [] => r23_From a0_0 a0_1 (fun y0 y1 => K (EV.agg [EV.arr IntKind.u64 32 y0, EV.arrT 32 (Sk.agg [Sk.int IntKind.u64, Sk.int IntKind.u64]) y1]) [])
  | _, _ => False⟩
noncomputable def E_r23_From : Env := ⟨look tys, look [], look [], gl, lookL [], false⟩
theorem X_r23_From.eq (a0_0 : Nat → Int) (a0_1 : Nat → Nat → Lf) (K : EV → Heap → Prop) : evFn E_r23_From Tryd.f26 false [.agg [.arr .u64 32 a0_0, .arrT 32 (.agg [.int .u64, .int .u64]) a0_1]] [] K = r23_From a0_0 a0_1 (fun y0 y1 => K (EV.agg [EV.arr IntKind.u64 32 y0, EV.arrT 32 (Sk.agg [Sk.int IntKind.u64, Sk.int IntKind.u64]) y1]) []) := by
  rw [r23_From.is]; exact (evFnQ_eq _ _ _ _ _ _).symm.trans (by kernel_rfl)
theorem X_r23_From.ok : SoundE Tryd.prog gl 26 e_r23_From := by
  refine fnOK (E := E_r23_From) (fn := Tryd.f26) rfl tys_ok rfl (show AllL _ [] from trivial) mixed (by kernel_rfl) (by kernel_rfl) (by kernel_rfl) 0 (by kernel_rfl) false trivial ?_
  intro args H
  by_cases hx : ∃ (a0_0 : Nat → Int) (a0_1 : Nat → Nat → Lf), args = [.agg [.arr .u64 32 a0_0, .arrT 32 (.agg [.int .u64, .int .u64]) a0_1]] ∧ H = []
  · obtain ⟨a0_0, a0_1, rfl, rfl⟩ := hx
    right; intro K
    exact iff_of_eq (X_r23_From.eq a0_0 a0_1 K).symm
  · left; intro K h
    simp only [e_r23_From] at h
    split at h
    · exact hx ⟨_, _, rfl, rfl⟩
    · exact h
noncomputable def e_shape_Check : Entry := ⟨[none], false, fun args H K => match args, H with
  | [.int .u8 a0], [] => shape_Check a0 (fun y0 => K (EV.int IntKind.i64 y0) [])
  | _, _ => False⟩
noncomputable def E_shape_Check : Env := ⟨look tys, look [], look [], gl, lookL [], false⟩
theorem X_shape_Check.eq (a0 : Int) (K : EV → Heap → Prop) : evFn E_shape_Check Tryd.f66 false [.int .u8 a0] [] K = shape_Check a0 (fun y0 => K (EV.int IntKind.i64 y0) []) := by
  rw [shape_Check.is]; exact (evFnQ_eq _ _ _ _ _ _).symm.trans (by kernel_rfl)
theorem X_shape_Check.ok : SoundE Tryd.prog gl 66 e_shape_Check := by
  refine fnOK (E := E_shape_Check) (fn := Tryd.f66) rfl tys_ok rfl (show AllL _ [] from trivial) mixed (by kernel_rfl) (by kernel_rfl) (by kernel_rfl) 0 (by kernel_rfl) false trivial ?_
  intro args H
  by_cases hx : ∃ (a0 : Int), args = [.int .u8 a0] ∧ H = []
  · obtain ⟨a0, rfl, rfl⟩ := hx
    right; intro K
    exact iff_of_eq (X_shape_Check.eq a0 K).symm
  · left; intro K h
    simp only [e_shape_Check] at h
    split at h
    · exact hx ⟨_, rfl, rfl⟩
    · exact h
noncomputable def e_box_Above : Entry := ⟨[none], false, fun args H K => match args, H with
  | [.int .u8 a0], [] => box_Above a0 (fun y0 y1 y2 => K (EV.tuple [EV.agg [EV.int IntKind.u64 y0, EV.int IntKind.u64 y1], EV.int IntKind.i64 y2]) [])
  | _, _ => False⟩
noncomputable def l_box_Above : List (Nat × Entry) := [(54, e_box_above), (66, e_shape_Check)]
noncomputable def E_box_Above : Env := ⟨look tys, look l_box_Above, look [], gl, lookL [], false⟩
theorem X_box_Above.eq (a0 : Int) (K : EV → Heap → Prop) : evFn E_box_Above Tryd.f52 false [.int .u8 a0] [] K = box_Above a0 (fun y0 y1 y2 => K (EV.tuple [EV.agg [EV.int IntKind.u64 y0, EV.int IntKind.u64 y1], EV.int IntKind.i64 y2]) []) := by
  rw [box_Above.is]; exact (evFnQ_eq _ _ _ _ _ _).symm.trans (by kernel_rfl)
theorem X_box_Above.ok : SoundE Tryd.prog gl 52 e_box_Above := by
  refine fnOK (E := E_box_Above) (fn := Tryd.f52) rfl tys_ok rfl (show AllL _ l_box_Above from ⟨X_box_above.ok, X_shape_Check.ok, trivial⟩) mixed (by kernel_rfl) (by kernel_rfl) (by kernel_rfl) 0 (by kernel_rfl) false trivial ?_
  intro args H
  by_cases hx : ∃ (a0 : Int), args = [.int .u8 a0] ∧ H = []
  · obtain ⟨a0, rfl, rfl⟩ := hx
    right; intro K
    exact iff_of_eq (X_box_Above.eq a0 K).symm
  · left; intro K h
    simp only [e_box_Above] at h
    split at h
    · exact hx ⟨_, rfl, rfl⟩
    · exact h
noncomputable def e_box_Low : Entry := ⟨[none, none], false, fun args H K => match args, H with
  | [.int .u8 a0, .agg [.int .u64 a1_0, .int .u64 a1_1]], [] => box_Low a0 a1_0 a1_1 (fun y0 y1 y2 => K (EV.tuple [EV.agg [EV.int IntKind.u64 y0, EV.int IntKind.u64 y1], EV.int IntKind.i64 y2]) [])
  | _, _ => False⟩
noncomputable def l_box_Low : List (Nat × Entry) := [(52, e_box_Above)]
noncomputable def E_box_Low : Env := ⟨look tys, look l_box_Low, look [], gl, lookL [], false⟩
theorem X_box_Low.eq (a0 : Int) (a1_0 : Int) (a1_1 : Int) (K : EV → Heap → Prop) : evFn E_box_Low Tryd.f37 false [.int .u8 a0, .agg [.int .u64 a1_0, .int .u64 a1_1]] [] K = box_Low a0 a1_0 a1_1 (fun y0 y1 y2 => K (EV.tuple [EV.agg [EV.int IntKind.u64 y0, EV.int IntKind.u64 y1], EV.int IntKind.i64 y2]) []) := by
  rw [box_Low.is]; exact (evFnQ_eq _ _ _ _ _ _).symm.trans (by kernel_rfl)
theorem X_box_Low.ok : SoundE Tryd.prog gl 37 e_box_Low := by
  refine fnOK (E := E_box_Low) (fn := Tryd.f37) rfl tys_ok rfl (show AllL _ l_box_Low from ⟨X_box_Above.ok, trivial⟩) mixed (by kernel_rfl) (by kernel_rfl) (by kernel_rfl) 0 (by kernel_rfl) false trivial ?_
  intro args H
  by_cases hx : ∃ (a0 : Int) (a1_0 : Int) (a1_1 : Int), args = [.int .u8 a0, .agg [.int .u64 a1_0, .int .u64 a1_1]] ∧ H = []
  · obtain ⟨a0, a1_0, a1_1, rfl, rfl⟩ := hx
    right; intro K
    exact iff_of_eq (X_box_Low.eq a0 a1_0 a1_1 K).symm
  · left; intro K h
    simp only [e_box_Low] at h
    split at h
    · exact hx ⟨_, _, _, rfl, rfl⟩
    · exact h
noncomputable def e_box_IsBoxed : Entry := ⟨[none, none], false, fun args H K => match args, H with
  | [.int .u8 a0, .agg [.int .u64 a1_0, .int .u64 a1_1]], [] => box_IsBoxed a0 a1_0 a1_1 (fun y0 => K (EV.bool y0) [])
  | _, _ => False⟩
noncomputable def l_box_IsBoxed : List (Nat × Entry) := [(52, e_box_Above)]
noncomputable def E_box_IsBoxed : Env := ⟨look tys, look l_box_IsBoxed, look [], gl, lookL [], false⟩
theorem X_box_IsBoxed.eq (a0 : Int) (a1_0 : Int) (a1_1 : Int) (K : EV → Heap → Prop) : evFn E_box_IsBoxed Tryd.f50 false [.int .u8 a0, .agg [.int .u64 a1_0, .int .u64 a1_1]] [] K = box_IsBoxed a0 a1_0 a1_1 (fun y0 => K (EV.bool y0) []) := by
  rw [box_IsBoxed.is]; exact (evFnQ_eq _ _ _ _ _ _).symm.trans (by kernel_rfl)
theorem X_box_IsBoxed.ok : SoundE Tryd.prog gl 50 e_box_IsBoxed := by
  refine fnOK (E := E_box_IsBoxed) (fn := Tryd.f50) rfl tys_ok rfl (show AllL _ l_box_IsBoxed from ⟨X_box_Above.ok, trivial⟩) mixed (by kernel_rfl) (by kernel_rfl) (by kernel_rfl) 0 (by kernel_rfl) false trivial ?_
  intro args H
  by_cases hx : ∃ (a0 : Int) (a1_0 : Int) (a1_1 : Int), args = [.int .u8 a0, .agg [.int .u64 a1_0, .int .u64 a1_1]] ∧ H = []
  · obtain ⟨a0, a1_0, a1_1, rfl, rfl⟩ := hx
    right; intro K
    exact iff_of_eq (X_box_IsBoxed.eq a0 a1_0 a1_1 K).symm
  · left; intro K h
    simp only [e_box_IsBoxed] at h
    split at h
    · exact hx ⟨_, _, _, rfl, rfl⟩
    · exact h
noncomputable def e_shape_at : Entry := ⟨[none, none], false, fun args H K => match args, H with
  | [.int .u64 a0, .int .i64 a1], [] => shape_at a0 a1 (fun y0 y1 => K (EV.agg [EV.int IntKind.u64 y0, EV.int IntKind.u64 y1]) [])
  | _, _ => False⟩
noncomputable def E_shape_at : Env := ⟨look tys, look [], look [], gl, lookL [], false⟩
theorem X_shape_at.eq (a0 : Int) (a1 : Int) (K : EV → Heap → Prop) : evFn E_shape_at Tryd.f67 false [.int .u64 a0, .int .i64 a1] [] K = shape_at a0 a1 (fun y0 y1 => K (EV.agg [EV.int IntKind.u64 y0, EV.int IntKind.u64 y1]) []) := by
  rw [shape_at.is]; exact (evFnQ_eq _ _ _ _ _ _).symm.trans (by kernel_rfl)
theorem X_shape_at.ok : SoundE Tryd.prog gl 67 e_shape_at := by
  refine fnOK (E := E_shape_at) (fn := Tryd.f67) rfl tys_ok rfl (show AllL _ [] from trivial) mixed (by kernel_rfl) (by kernel_rfl) (by kernel_rfl) 0 (by kernel_rfl) false trivial ?_
  intro args H
  by_cases hx : ∃ (a0 : Int) (a1 : Int), args = [.int .u64 a0, .int .i64 a1] ∧ H = []
  · obtain ⟨a0, a1, rfl, rfl⟩ := hx
    right; intro K
    exact iff_of_eq (X_shape_at.eq a0 a1 K).symm
  · left; intro K h
    simp only [e_shape_at] at h
    split at h
    · exact hx ⟨_, _, rfl, rfl⟩
    · exact h
noncomputable def e_shape_Emax : Entry := ⟨[none], false, fun args H K => match args, H with
  | [.int .u8 a0], [] => shape_Emax a0 (fun y0 => K (EV.int IntKind.i64 y0) [])
  | _, _ => False⟩
noncomputable def l_shape_Emax : List (Nat × Entry) := [(82, e_shape_numbers)]
noncomputable def E_shape_Emax : Env := ⟨look tys, look l_shape_Emax, look [], gl, lookL [], false⟩
theorem X_shape_Emax.eq (a0 : Int) (K : EV → Heap → Prop) : evFn E_shape_Emax Tryd.f68 false [.int .u8 a0] [] K = shape_Emax a0 (fun y0 => K (EV.int IntKind.i64 y0) []) := by
  rw [shape_Emax.is]; exact (evFnQ_eq _ _ _ _ _ _).symm.trans (by kernel_rfl)
theorem X_shape_Emax.ok : SoundE Tryd.prog gl 68 e_shape_Emax := by
  refine fnOK (E := E_shape_Emax) (fn := Tryd.f68) rfl tys_ok rfl (show AllL _ l_shape_Emax from ⟨X_shape_numbers.ok, trivial⟩) mixed (by kernel_rfl) (by kernel_rfl) (by kernel_rfl) 0 (by kernel_rfl) false trivial ?_
  intro args H
  by_cases hx : ∃ (a0 : Int), args = [.int .u8 a0] ∧ H = []
  · obtain ⟨a0, rfl, rfl⟩ := hx
    right; intro K
    exact iff_of_eq (X_shape_Emax.eq a0 K).symm
  · left; intro K h
    simp only [e_shape_Emax] at h
    split at h
    · exact hx ⟨_, rfl, rfl⟩
    · exact h
noncomputable def e_shape_Precision : Entry := ⟨[none], false, fun args H K => match args, H with
  | [.int .u8 a0], [] => shape_Precision a0 (fun y0 => K (EV.int IntKind.i64 y0) [])
  | _, _ => False⟩
noncomputable def l_shape_Precision : List (Nat × Entry) := [(82, e_shape_numbers)]
noncomputable def E_shape_Precision : Env := ⟨look tys, look l_shape_Precision, look [], gl, lookL [], false⟩
theorem X_shape_Precision.eq (a0 : Int) (K : EV → Heap → Prop) : evFn E_shape_Precision Tryd.f69 false [.int .u8 a0] [] K = shape_Precision a0 (fun y0 => K (EV.int IntKind.i64 y0) []) := by
  rw [shape_Precision.is]; exact (evFnQ_eq _ _ _ _ _ _).symm.trans (by kernel_rfl)
theorem X_shape_Precision.ok : SoundE Tryd.prog gl 69 e_shape_Precision := by
  refine fnOK (E := E_shape_Precision) (fn := Tryd.f69) rfl tys_ok rfl (show AllL _ l_shape_Precision from ⟨X_shape_numbers.ok, trivial⟩) mixed (by kernel_rfl) (by kernel_rfl) (by kernel_rfl) 0 (by kernel_rfl) false trivial ?_
  intro args H
  by_cases hx : ∃ (a0 : Int), args = [.int .u8 a0] ∧ H = []
  · obtain ⟨a0, rfl, rfl⟩ := hx
    right; intro K
    exact iff_of_eq (X_shape_Precision.eq a0 K).symm
  · left; intro K h
    simp only [e_shape_Precision] at h
    split at h
    · exact hx ⟨_, rfl, rfl⟩
    · exact h
noncomputable def e_shape_NaN : Entry := ⟨[none], false, fun args H K => match args, H with
  | [.int .u8 a0], [] => shape_NaN a0 (fun y0 y1 => K (EV.agg [EV.int IntKind.u64 y0, EV.int IntKind.u64 y1]) [])
  | _, _ => False⟩
noncomputable def l_shape_NaN : List (Nat × Entry) := [(66, e_shape_Check), (67, e_shape_at), (68, e_shape_Emax), (69, e_shape_Precision)]
noncomputable def E_shape_NaN : Env := ⟨look tys, look l_shape_NaN, look [], gl, lookL [], false⟩
theorem X_shape_NaN.eq (a0 : Int) (K : EV → Heap → Prop) : evFn E_shape_NaN Tryd.f51 false [.int .u8 a0] [] K = shape_NaN a0 (fun y0 y1 => K (EV.agg [EV.int IntKind.u64 y0, EV.int IntKind.u64 y1]) []) := by
  rw [shape_NaN.is]; exact (evFnQ_eq _ _ _ _ _ _).symm.trans (by kernel_rfl)
theorem X_shape_NaN.ok : SoundE Tryd.prog gl 51 e_shape_NaN := by
  refine fnOK (E := E_shape_NaN) (fn := Tryd.f51) rfl tys_ok rfl (show AllL _ l_shape_NaN from ⟨X_shape_Check.ok, X_shape_at.ok, X_shape_Emax.ok, X_shape_Precision.ok, trivial⟩) mixed (by kernel_rfl) (by kernel_rfl) (by kernel_rfl) 0 (by kernel_rfl) false trivial ?_
  intro args H
  by_cases hx : ∃ (a0 : Int), args = [.int .u8 a0] ∧ H = []
  · obtain ⟨a0, rfl, rfl⟩ := hx
    right; intro K
    exact iff_of_eq (X_shape_NaN.eq a0 K).symm
  · left; intro K h
    simp only [e_shape_NaN] at h
    split at h
    · exact hx ⟨_, rfl, rfl⟩
    · exact h
noncomputable def e_box_Unbox : Entry := ⟨[none, none], false, fun args H K => match args, H with
  | [.int .u8 a0, .agg [.int .u64 a1_0, .int .u64 a1_1]], [] => box_Unbox a0 a1_0 a1_1 (fun y0 y1 y2 => K (EV.tuple [EV.agg [EV.int IntKind.u64 y0, EV.int IntKind.u64 y1], EV.int IntKind.i64 y2]) [])
  | _, _ => False⟩
noncomputable def l_box_Unbox : List (Nat × Entry) := [(37, e_box_Low), (50, e_box_IsBoxed), (51, e_shape_NaN)]
noncomputable def E_box_Unbox : Env := ⟨look tys, look l_box_Unbox, look [], gl, lookL [], false⟩
theorem X_box_Unbox.eq (a0 : Int) (a1_0 : Int) (a1_1 : Int) (K : EV → Heap → Prop) : evFn E_box_Unbox Tryd.f36 false [.int .u8 a0, .agg [.int .u64 a1_0, .int .u64 a1_1]] [] K = box_Unbox a0 a1_0 a1_1 (fun y0 y1 y2 => K (EV.tuple [EV.agg [EV.int IntKind.u64 y0, EV.int IntKind.u64 y1], EV.int IntKind.i64 y2]) []) := by
  rw [box_Unbox.is]; exact (evFnQ_eq _ _ _ _ _ _).symm.trans (by kernel_rfl)
theorem X_box_Unbox.ok : SoundE Tryd.prog gl 36 e_box_Unbox := by
  refine fnOK (E := E_box_Unbox) (fn := Tryd.f36) rfl tys_ok rfl (show AllL _ l_box_Unbox from ⟨X_box_Low.ok, X_box_IsBoxed.ok, X_shape_NaN.ok, trivial⟩) mixed (by kernel_rfl) (by kernel_rfl) (by kernel_rfl) 0 (by kernel_rfl) false trivial ?_
  intro args H
  by_cases hx : ∃ (a0 : Int) (a1_0 : Int) (a1_1 : Int), args = [.int .u8 a0, .agg [.int .u64 a1_0, .int .u64 a1_1]] ∧ H = []
  · obtain ⟨a0, a1_0, a1_1, rfl, rfl⟩ := hx
    right; intro K
    exact iff_of_eq (X_box_Unbox.eq a0 a1_0 a1_1 K).symm
  · left; intro K h
    simp only [e_box_Unbox] at h
    split at h
    · exact hx ⟨_, _, _, rfl, rfl⟩
    · exact h
noncomputable def e_regs_Regs_Get : Entry := ⟨[none, none, none], true, fun args H K => match args, H with
  | [.ptr 0 [], .int .u8 a1, .int .i64 a2], [some (.agg [.bool a0_0, .arr .u64 32 a0_1, .arrT 32 (.agg [.int .u64, .int .u64]) a0_2])] => regs_Regs_Get a0_0 a0_1 a0_2 a1 a2 (fun y0 y1 y2 y3 y4 y5 => K (EV.tuple [EV.agg [EV.int IntKind.u64 y0, EV.int IntKind.u64 y1], EV.int IntKind.i64 y2]) [some (EV.agg [EV.bool y3, EV.arr IntKind.u64 32 y4, EV.arrT 32 (Sk.agg [Sk.int IntKind.u64, Sk.int IntKind.u64]) y5])])
  | _, _ => False⟩
noncomputable def l_regs_Regs_Get : List (Nat × Entry) := [(13, e_regs_Regs_F), (36, e_box_Unbox)]
noncomputable def E_regs_Regs_Get : Env := ⟨look tys, look l_regs_Regs_Get, look [], gl, lookL [], false⟩
theorem X_regs_Regs_Get.eq (a0_0 : Bool) (a0_1 : Nat → Int) (a0_2 : Nat → Nat → Lf) (a1 : Int) (a2 : Int) (K : EV → Heap → Prop) : evFn E_regs_Regs_Get Tryd.f14 false [.ptr 0 [], .int .u8 a1, .int .i64 a2] [some (.agg [.bool a0_0, .arr .u64 32 a0_1, .arrT 32 (.agg [.int .u64, .int .u64]) a0_2])] K = regs_Regs_Get a0_0 a0_1 a0_2 a1 a2 (fun y0 y1 y2 y3 y4 y5 => K (EV.tuple [EV.agg [EV.int IntKind.u64 y0, EV.int IntKind.u64 y1], EV.int IntKind.i64 y2]) [some (EV.agg [EV.bool y3, EV.arr IntKind.u64 32 y4, EV.arrT 32 (Sk.agg [Sk.int IntKind.u64, Sk.int IntKind.u64]) y5])]) := by
  rw [regs_Regs_Get.is]; exact (evFnQ_eq _ _ _ _ _ _).symm.trans (by kernel_rfl)
theorem X_regs_Regs_Get.ok : SoundE Tryd.prog gl 14 e_regs_Regs_Get := by
  refine fnOK (E := E_regs_Regs_Get) (fn := Tryd.f14) rfl tys_ok rfl (show AllL _ l_regs_Regs_Get from ⟨X_regs_Regs_F.ok, X_box_Unbox.ok, trivial⟩) mixed (by kernel_rfl) (by kernel_rfl) (by kernel_rfl) 0 (by kernel_rfl) false trivial ?_
  intro args H
  by_cases hx : ∃ (a0_0 : Bool) (a0_1 : Nat → Int) (a0_2 : Nat → Nat → Lf) (a1 : Int) (a2 : Int), args = [.ptr 0 [], .int .u8 a1, .int .i64 a2] ∧ H = [some (.agg [.bool a0_0, .arr .u64 32 a0_1, .arrT 32 (.agg [.int .u64, .int .u64]) a0_2])]
  · obtain ⟨a0_0, a0_1, a0_2, a1, a2, rfl, rfl⟩ := hx
    right; intro K
    exact iff_of_eq (X_regs_Regs_Get.eq a0_0 a0_1 a0_2 a1 a2 K).symm
  · left; intro K h
    simp only [e_regs_Regs_Get] at h
    split at h
    · exact hx ⟨_, _, _, _, _, rfl, rfl⟩
    · exact h
noncomputable def e_regs_Regs_Low : Entry := ⟨[none, none, none], true, fun args H K => match args, H with
  | [.ptr 0 [], .int .u8 a1, .int .i64 a2], [some (.agg [.bool a0_0, .arr .u64 32 a0_1, .arrT 32 (.agg [.int .u64, .int .u64]) a0_2])] => regs_Regs_Low a0_0 a0_1 a0_2 a1 a2 (fun y0 y1 y2 y3 y4 y5 => K (EV.tuple [EV.agg [EV.int IntKind.u64 y0, EV.int IntKind.u64 y1], EV.int IntKind.i64 y2]) [some (EV.agg [EV.bool y3, EV.arr IntKind.u64 32 y4, EV.arrT 32 (Sk.agg [Sk.int IntKind.u64, Sk.int IntKind.u64]) y5])])
  | _, _ => False⟩
noncomputable def l_regs_Regs_Low : List (Nat × Entry) := [(13, e_regs_Regs_F), (37, e_box_Low)]
noncomputable def E_regs_Regs_Low : Env := ⟨look tys, look l_regs_Regs_Low, look [], gl, lookL [], false⟩
theorem X_regs_Regs_Low.eq (a0_0 : Bool) (a0_1 : Nat → Int) (a0_2 : Nat → Nat → Lf) (a1 : Int) (a2 : Int) (K : EV → Heap → Prop) : evFn E_regs_Regs_Low Tryd.f15 false [.ptr 0 [], .int .u8 a1, .int .i64 a2] [some (.agg [.bool a0_0, .arr .u64 32 a0_1, .arrT 32 (.agg [.int .u64, .int .u64]) a0_2])] K = regs_Regs_Low a0_0 a0_1 a0_2 a1 a2 (fun y0 y1 y2 y3 y4 y5 => K (EV.tuple [EV.agg [EV.int IntKind.u64 y0, EV.int IntKind.u64 y1], EV.int IntKind.i64 y2]) [some (EV.agg [EV.bool y3, EV.arr IntKind.u64 32 y4, EV.arrT 32 (Sk.agg [Sk.int IntKind.u64, Sk.int IntKind.u64]) y5])]) := by
  rw [regs_Regs_Low.is]; exact (evFnQ_eq _ _ _ _ _ _).symm.trans (by kernel_rfl)
theorem X_regs_Regs_Low.ok : SoundE Tryd.prog gl 15 e_regs_Regs_Low := by
  refine fnOK (E := E_regs_Regs_Low) (fn := Tryd.f15) rfl tys_ok rfl (show AllL _ l_regs_Regs_Low from ⟨X_regs_Regs_F.ok, X_box_Low.ok, trivial⟩) mixed (by kernel_rfl) (by kernel_rfl) (by kernel_rfl) 0 (by kernel_rfl) false trivial ?_
  intro args H
  by_cases hx : ∃ (a0_0 : Bool) (a0_1 : Nat → Int) (a0_2 : Nat → Nat → Lf) (a1 : Int) (a2 : Int), args = [.ptr 0 [], .int .u8 a1, .int .i64 a2] ∧ H = [some (.agg [.bool a0_0, .arr .u64 32 a0_1, .arrT 32 (.agg [.int .u64, .int .u64]) a0_2])]
  · obtain ⟨a0_0, a0_1, a0_2, a1, a2, rfl, rfl⟩ := hx
    right; intro K
    exact iff_of_eq (X_regs_Regs_Low.eq a0_0 a0_1 a0_2 a1 a2 K).symm
  · left; intro K h
    simp only [e_regs_Regs_Low] at h
    split at h
    · exact hx ⟨_, _, _, _, _, rfl, rfl⟩
    · exact h
noncomputable def e_regs_Regs_Change : Entry := ⟨[none, some (.sk (.agg [.bool, .int .i64, .int .u64, .agg [.int .u64, .int .u64]]))], true, fun args H K => match args, H with
  | [.ptr 0 [], .rsT a1n (.agg [.bool, .int .i64, .int .u64, .agg [.int .u64, .int .u64]]) a1], [some (.agg [.bool a0_0, .arr .u64 32 a0_1, .arrT 32 (.agg [.int .u64, .int .u64]) a0_2])] => regs_Regs_Change a0_0 a0_1 a0_2 a1n a1 (fun y0 y1 y2 y3 => K (EV.int IntKind.i64 y0) [some (EV.agg [EV.bool y1, EV.arr IntKind.u64 32 y2, EV.arrT 32 (Sk.agg [Sk.int IntKind.u64, Sk.int IntKind.u64]) y3])])
  | _, _ => False⟩
noncomputable def l_regs_Regs_Change : List (Nat × Entry) := [(18, e_regs_Regs_SetX), (19, e_regs_Regs_SetF), (33, e_regs_Regs_none)]
noncomputable def E_regs_Regs_Change : Env := ⟨look tys, look l_regs_Regs_Change, look [(5, regs_Regs_Change.l5.entry)], gl, lookL [], false⟩
theorem regs_Regs_Change.l5X.stepEq (R : List EV → Heap → Prop) (K : Ex → List EV → Heap → Prop) (x0 : Nat) (x1 : Nat → Nat → Lf) (x2 : Int) (x3 : Int) (x4 : Bool) (x5 : Nat → Int) (x6 : Nat → Nat → Lf) (x7 : Bool) (x8 : Nat → Int) (x9 : Nat → Nat → Lf) : loopStep (evCode E_regs_Regs_Change (loopAt Tryd.f21 0) { (LV.mk 33 [(0, 33)] 16 1 false) with nx := live (.loop (loopAt Tryd.f21 0)) (LV.mk 33 [(0, 33)] 16 1 false) }) (live (.loop (loopAt Tryd.f21 0)) (LV.mk 33 [(0, 33)] 16 1 false)) (LV.mk 33 [(0, 33)] 16 1 false) 1 57 R [EV.ptr 0 [], EV.ptr 1 [], EV.rsT x0 (Sk.agg [Sk.bool, Sk.int IntKind.i64, Sk.int IntKind.u64, Sk.agg [Sk.int IntKind.u64, Sk.int IntKind.u64]]) x1, EV.int IntKind.i64 x2, EV.int IntKind.i64 x3] [some (EV.agg [EV.bool x4, EV.arr IntKind.u64 32 x5, EV.arrT 32 (Sk.agg [Sk.int IntKind.u64, Sk.int IntKind.u64]) x6]), some (EV.agg [EV.bool x7, EV.arr IntKind.u64 32 x8, EV.arrT 32 (Sk.agg [Sk.int IntKind.u64, Sk.int IntKind.u64]) x9])] K = regs_Regs_Change.l5.step (fun x0 x1 x2 x3 x4 x5 x6 x7 x8 x9 => R [EV.ptr 0 [], EV.ptr 1 [], EV.rsT x0 (Sk.agg [Sk.bool, Sk.int IntKind.i64, Sk.int IntKind.u64, Sk.agg [Sk.int IntKind.u64, Sk.int IntKind.u64]]) x1, EV.int IntKind.i64 x2, EV.int IntKind.i64 x3] [some (EV.agg [EV.bool x4, EV.arr IntKind.u64 32 x5, EV.arrT 32 (Sk.agg [Sk.int IntKind.u64, Sk.int IntKind.u64]) x6]), some (EV.agg [EV.bool x7, EV.arr IntKind.u64 32 x8, EV.arrT 32 (Sk.agg [Sk.int IntKind.u64, Sk.int IntKind.u64]) x9])]) (fun y0 y1 y2 y3 => K .ret [EV.int IntKind.i64 y0] [some (EV.agg [EV.bool y1, EV.arr IntKind.u64 32 y2, EV.arrT 32 (Sk.agg [Sk.int IntKind.u64, Sk.int IntKind.u64]) y3])]) (fun y0 y1 y2 y3 y4 y5 => K (.exit 0) [EV.ptr 0 [], EV.ptr 1 []] [some (EV.agg [EV.bool y0, EV.arr IntKind.u64 32 y1, EV.arrT 32 (Sk.agg [Sk.int IntKind.u64, Sk.int IntKind.u64]) y2]), some (EV.agg [EV.bool y3, EV.arr IntKind.u64 32 y4, EV.arrT 32 (Sk.agg [Sk.int IntKind.u64, Sk.int IntKind.u64]) y5])]) x0 x1 x2 x3 x4 x5 x6 x7 x8 x9 := (stepQ_eq _ _ _ _ _ _ _ _ _ _ _).symm.trans (by kernel_rfl)
theorem regs_Regs_Change.l5X.eq (K : Ex → List EV → Heap → Prop) : ∀ (n : Nat) (x0 : Nat) (x1 : Nat → Nat → Lf) (x2 : Int) (x3 : Int) (x4 : Bool) (x5 : Nat → Int) (x6 : Nat → Nat → Lf) (x7 : Bool) (x8 : Nat → Int) (x9 : Nat → Nat → Lf), loopE E_regs_Regs_Change (loopAt Tryd.f21 0) (LV.mk 33 [(0, 33)] 16 1 false) 1 57 K n [EV.ptr 0 [], EV.ptr 1 [], EV.rsT x0 (Sk.agg [Sk.bool, Sk.int IntKind.i64, Sk.int IntKind.u64, Sk.agg [Sk.int IntKind.u64, Sk.int IntKind.u64]]) x1, EV.int IntKind.i64 x2, EV.int IntKind.i64 x3] [some (EV.agg [EV.bool x4, EV.arr IntKind.u64 32 x5, EV.arrT 32 (Sk.agg [Sk.int IntKind.u64, Sk.int IntKind.u64]) x6]), some (EV.agg [EV.bool x7, EV.arr IntKind.u64 32 x8, EV.arrT 32 (Sk.agg [Sk.int IntKind.u64, Sk.int IntKind.u64]) x9])] = regs_Regs_Change.l5 (fun y0 y1 y2 y3 => K .ret [EV.int IntKind.i64 y0] [some (EV.agg [EV.bool y1, EV.arr IntKind.u64 32 y2, EV.arrT 32 (Sk.agg [Sk.int IntKind.u64, Sk.int IntKind.u64]) y3])]) (fun y0 y1 y2 y3 y4 y5 => K (.exit 0) [EV.ptr 0 [], EV.ptr 1 []] [some (EV.agg [EV.bool y0, EV.arr IntKind.u64 32 y1, EV.arrT 32 (Sk.agg [Sk.int IntKind.u64, Sk.int IntKind.u64]) y2]), some (EV.agg [EV.bool y3, EV.arr IntKind.u64 32 y4, EV.arrT 32 (Sk.agg [Sk.int IntKind.u64, Sk.int IntKind.u64]) y5])]) n x0 x1 x2 x3 x4 x5 x6 x7 x8 x9
  | 0, _, _, _, _, _, _, _, _, _, _ => rfl
  | n + 1, x0, x1, x2, x3, x4, x5, x6, x7, x8, x9 => by
    have ih : (fun (x0 : Nat) (x1 : Nat → Nat → Lf) (x2 : Int) (x3 : Int) (x4 : Bool) (x5 : Nat → Int) (x6 : Nat → Nat → Lf) (x7 : Bool) (x8 : Nat → Int) (x9 : Nat → Nat → Lf) => loopE E_regs_Regs_Change (loopAt Tryd.f21 0) (LV.mk 33 [(0, 33)] 16 1 false) 1 57 K n [EV.ptr 0 [], EV.ptr 1 [], EV.rsT x0 (Sk.agg [Sk.bool, Sk.int IntKind.i64, Sk.int IntKind.u64, Sk.agg [Sk.int IntKind.u64, Sk.int IntKind.u64]]) x1, EV.int IntKind.i64 x2, EV.int IntKind.i64 x3] [some (EV.agg [EV.bool x4, EV.arr IntKind.u64 32 x5, EV.arrT 32 (Sk.agg [Sk.int IntKind.u64, Sk.int IntKind.u64]) x6]), some (EV.agg [EV.bool x7, EV.arr IntKind.u64 32 x8, EV.arrT 32 (Sk.agg [Sk.int IntKind.u64, Sk.int IntKind.u64]) x9])]) = regs_Regs_Change.l5 (fun y0 y1 y2 y3 => K .ret [EV.int IntKind.i64 y0] [some (EV.agg [EV.bool y1, EV.arr IntKind.u64 32 y2, EV.arrT 32 (Sk.agg [Sk.int IntKind.u64, Sk.int IntKind.u64]) y3])]) (fun y0 y1 y2 y3 y4 y5 => K (.exit 0) [EV.ptr 0 [], EV.ptr 1 []] [some (EV.agg [EV.bool y0, EV.arr IntKind.u64 32 y1, EV.arrT 32 (Sk.agg [Sk.int IntKind.u64, Sk.int IntKind.u64]) y2]), some (EV.agg [EV.bool y3, EV.arr IntKind.u64 32 y4, EV.arrT 32 (Sk.agg [Sk.int IntKind.u64, Sk.int IntKind.u64]) y5])]) n := by funext x0 x1 x2 x3 x4 x5 x6 x7 x8 x9; exact regs_Regs_Change.l5X.eq K n x0 x1 x2 x3 x4 x5 x6 x7 x8 x9
    show loopStep _ _ _ _ _ (loopE E_regs_Regs_Change (loopAt Tryd.f21 0) (LV.mk 33 [(0, 33)] 16 1 false) 1 57 K n) [EV.ptr 0 [], EV.ptr 1 [], EV.rsT x0 (Sk.agg [Sk.bool, Sk.int IntKind.i64, Sk.int IntKind.u64, Sk.agg [Sk.int IntKind.u64, Sk.int IntKind.u64]]) x1, EV.int IntKind.i64 x2, EV.int IntKind.i64 x3] [some (EV.agg [EV.bool x4, EV.arr IntKind.u64 32 x5, EV.arrT 32 (Sk.agg [Sk.int IntKind.u64, Sk.int IntKind.u64]) x6]), some (EV.agg [EV.bool x7, EV.arr IntKind.u64 32 x8, EV.arrT 32 (Sk.agg [Sk.int IntKind.u64, Sk.int IntKind.u64]) x9])] K = regs_Regs_Change.l5.step (regs_Regs_Change.l5 (fun y0 y1 y2 y3 => K .ret [EV.int IntKind.i64 y0] [some (EV.agg [EV.bool y1, EV.arr IntKind.u64 32 y2, EV.arrT 32 (Sk.agg [Sk.int IntKind.u64, Sk.int IntKind.u64]) y3])]) (fun y0 y1 y2 y3 y4 y5 => K (.exit 0) [EV.ptr 0 [], EV.ptr 1 []] [some (EV.agg [EV.bool y0, EV.arr IntKind.u64 32 y1, EV.arrT 32 (Sk.agg [Sk.int IntKind.u64, Sk.int IntKind.u64]) y2]), some (EV.agg [EV.bool y3, EV.arr IntKind.u64 32 y4, EV.arrT 32 (Sk.agg [Sk.int IntKind.u64, Sk.int IntKind.u64]) y5])]) n) (fun y0 y1 y2 y3 => K .ret [EV.int IntKind.i64 y0] [some (EV.agg [EV.bool y1, EV.arr IntKind.u64 32 y2, EV.arrT 32 (Sk.agg [Sk.int IntKind.u64, Sk.int IntKind.u64]) y3])]) (fun y0 y1 y2 y3 y4 y5 => K (.exit 0) [EV.ptr 0 [], EV.ptr 1 []] [some (EV.agg [EV.bool y0, EV.arr IntKind.u64 32 y1, EV.arrT 32 (Sk.agg [Sk.int IntKind.u64, Sk.int IntKind.u64]) y2]), some (EV.agg [EV.bool y3, EV.arr IntKind.u64 32 y4, EV.arrT 32 (Sk.agg [Sk.int IntKind.u64, Sk.int IntKind.u64]) y5])]) x0 x1 x2 x3 x4 x5 x6 x7 x8 x9
    rw [← ih]
    exact regs_Regs_Change.l5X.stepEq _ K x0 x1 x2 x3 x4 x5 x6 x7 x8 x9
theorem regs_Regs_Change.l5X.ok : LoopEq E_regs_Regs_Change (loopAt Tryd.f21 0) := by
  intro L hL vs H
  have h1 : E_regs_Regs_Change.lp (firstRegion (loopAt Tryd.f21 0)) = some regs_Regs_Change.l5.entry := by kernel_rfl
  have h2 : L = regs_Regs_Change.l5.entry := Option.some.inj (hL.symm.trans h1)
  subst h2
  by_cases hx0 : ∃ (x0 : Nat) (x1 : Nat → Nat → Lf) (x2 : Int) (x3 : Int) (x4 : Bool) (x5 : Nat → Int) (x6 : Nat → Nat → Lf) (x7 : Bool) (x8 : Nat → Int) (x9 : Nat → Nat → Lf), vs = [EV.ptr 0 [], EV.ptr 1 [], EV.rsT x0 (Sk.agg [Sk.bool, Sk.int IntKind.i64, Sk.int IntKind.u64, Sk.agg [Sk.int IntKind.u64, Sk.int IntKind.u64]]) x1, EV.int IntKind.i64 x2, EV.int IntKind.i64 x3] ∧ H = [some (EV.agg [EV.bool x4, EV.arr IntKind.u64 32 x5, EV.arrT 32 (Sk.agg [Sk.int IntKind.u64, Sk.int IntKind.u64]) x6]), some (EV.agg [EV.bool x7, EV.arr IntKind.u64 32 x8, EV.arrT 32 (Sk.agg [Sk.int IntKind.u64, Sk.int IntKind.u64]) x9])]
  · obtain ⟨x0, x1, x2, x3, x4, x5, x6, x7, x8, x9, rfl, rfl⟩ := hx0
    right; intro K
    exact exists_congr fun n => iff_of_eq (regs_Regs_Change.l5X.eq K n x0 x1 x2 x3 x4 x5 x6 x7 x8 x9).symm
  left; intro K h
  simp only [regs_Regs_Change.l5.entry] at h
  split at h
  · exact hx0 ⟨_, _, _, _, _, _, _, _, _, _, rfl, rfl⟩
  · exact h
theorem X_regs_Regs_Change.eq (a0_0 : Bool) (a0_1 : Nat → Int) (a0_2 : Nat → Nat → Lf) (a1n : Nat) (a1 : Nat → Nat → Lf) (K : EV → Heap → Prop) : evFn E_regs_Regs_Change Tryd.f21 false [.ptr 0 [], .rsT a1n (.agg [.bool, .int .i64, .int .u64, .agg [.int .u64, .int .u64]]) a1] [some (.agg [.bool a0_0, .arr .u64 32 a0_1, .arrT 32 (.agg [.int .u64, .int .u64]) a0_2])] K = regs_Regs_Change a0_0 a0_1 a0_2 a1n a1 (fun y0 y1 y2 y3 => K (EV.int IntKind.i64 y0) [some (EV.agg [EV.bool y1, EV.arr IntKind.u64 32 y2, EV.arrT 32 (Sk.agg [Sk.int IntKind.u64, Sk.int IntKind.u64]) y3])]) := by
  rw [regs_Regs_Change.is]; exact (evFnQ_eq _ _ _ _ _ _).symm.trans (by kernel_rfl)
theorem X_regs_Regs_Change.ok : SoundE Tryd.prog gl 21 e_regs_Regs_Change := by
  refine fnOK (E := E_regs_Regs_Change) (fn := Tryd.f21) rfl tys_ok rfl (show AllL _ l_regs_Regs_Change from ⟨X_regs_Regs_SetX.ok, X_regs_Regs_SetF.ok, X_regs_Regs_none.ok, trivial⟩) mixed (by kernel_rfl) (by kernel_rfl) (by kernel_rfl) 1 (by kernel_rfl) false ⟨regs_Regs_Change.l5X.ok, trivial⟩ ?_
  intro args H
  by_cases hx : ∃ (a0_0 : Bool) (a0_1 : Nat → Int) (a0_2 : Nat → Nat → Lf) (a1n : Nat) (a1 : Nat → Nat → Lf), args = [.ptr 0 [], .rsT a1n (.agg [.bool, .int .i64, .int .u64, .agg [.int .u64, .int .u64]]) a1] ∧ H = [some (.agg [.bool a0_0, .arr .u64 32 a0_1, .arrT 32 (.agg [.int .u64, .int .u64]) a0_2])]
  · obtain ⟨a0_0, a0_1, a0_2, a1n, a1, rfl, rfl⟩ := hx
    right; intro K
    exact iff_of_eq (X_regs_Regs_Change.eq a0_0 a0_1 a0_2 a1n a1 K).symm
  · left; intro K h
    simp only [e_regs_Regs_Change] at h
    split at h
    · exact hx ⟨_, _, _, _, _, rfl, rfl⟩
    · exact h
noncomputable def e_r23_is : Entry := ⟨[none], false, fun args H K => match args, H with
  | [.int .i64 a0], [] => r23_is a0 (fun y0 => K (EV.bool y0) [])
  | _, _ => False⟩
noncomputable def E_r23_is : Env := ⟨look tys, look [], look [], gl, lookL [], false⟩
theorem X_r23_is.eq (a0 : Int) (K : EV → Heap → Prop) : evFn E_r23_is Tryd.f30 false [.int .i64 a0] [] K = r23_is a0 (fun y0 => K (EV.bool y0) []) := by
  rw [r23_is.is]; exact (evFnQ_eq _ _ _ _ _ _).symm.trans (by kernel_rfl)
theorem X_r23_is.ok : SoundE Tryd.prog gl 30 e_r23_is := by
  refine fnOK (E := E_r23_is) (fn := Tryd.f30) rfl tys_ok rfl (show AllL _ [] from trivial) mixed (by kernel_rfl) (by kernel_rfl) (by kernel_rfl) 0 (by kernel_rfl) false trivial ?_
  intro args H
  by_cases hx : ∃ (a0 : Int), args = [.int .i64 a0] ∧ H = []
  · obtain ⟨a0, rfl, rfl⟩ := hx
    right; intro K
    exact iff_of_eq (X_r23_is.eq a0 K).symm
  · left; intro K h
    simp only [e_r23_is] at h
    split at h
    · exact hx ⟨_, rfl, rfl⟩
    · exact h
noncomputable def e_r23_SetX : Entry := ⟨[none, none, none], false, fun args H K => match args, H with
  | [.agg [.arr .u64 32 a0_0, .arrT 32 (.agg [.int .u64, .int .u64]) a0_1], .int .i64 a1, .int .u64 a2], [] => r23_SetX a0_0 a0_1 a1 a2 (fun y0 y1 y2 => K (EV.tuple [EV.agg [EV.arr IntKind.u64 32 y0, EV.arrT 32 (Sk.agg [Sk.int IntKind.u64, Sk.int IntKind.u64]) y1], EV.int IntKind.i64 y2]) [])
  | _, _ => False⟩
noncomputable def l_r23_SetX : List (Nat × Entry) := [(30, e_r23_is)]
noncomputable def E_r23_SetX : Env := ⟨look tys, look l_r23_SetX, look [], gl, lookL [], false⟩
theorem X_r23_SetX.eq (a0_0 : Nat → Int) (a0_1 : Nat → Nat → Lf) (a1 : Int) (a2 : Int) (K : EV → Heap → Prop) : evFn E_r23_SetX Tryd.f39 false [.agg [.arr .u64 32 a0_0, .arrT 32 (.agg [.int .u64, .int .u64]) a0_1], .int .i64 a1, .int .u64 a2] [] K = r23_SetX a0_0 a0_1 a1 a2 (fun y0 y1 y2 => K (EV.tuple [EV.agg [EV.arr IntKind.u64 32 y0, EV.arrT 32 (Sk.agg [Sk.int IntKind.u64, Sk.int IntKind.u64]) y1], EV.int IntKind.i64 y2]) []) := by
  rw [r23_SetX.is]; exact (evFnQ_eq _ _ _ _ _ _).symm.trans (by kernel_rfl)
theorem X_r23_SetX.ok : SoundE Tryd.prog gl 39 e_r23_SetX := by
  refine fnOK (E := E_r23_SetX) (fn := Tryd.f39) rfl tys_ok rfl (show AllL _ l_r23_SetX from ⟨X_r23_is.ok, trivial⟩) mixed (by kernel_rfl) (by kernel_rfl) (by kernel_rfl) 0 (by kernel_rfl) false trivial ?_
  intro args H
  by_cases hx : ∃ (a0_0 : Nat → Int) (a0_1 : Nat → Nat → Lf) (a1 : Int) (a2 : Int), args = [.agg [.arr .u64 32 a0_0, .arrT 32 (.agg [.int .u64, .int .u64]) a0_1], .int .i64 a1, .int .u64 a2] ∧ H = []
  · obtain ⟨a0_0, a0_1, a1, a2, rfl, rfl⟩ := hx
    right; intro K
    exact iff_of_eq (X_r23_SetX.eq a0_0 a0_1 a1 a2 K).symm
  · left; intro K h
    simp only [e_r23_SetX] at h
    split at h
    · exact hx ⟨_, _, _, _, rfl, rfl⟩
    · exact h
noncomputable def e_r23_SetF : Entry := ⟨[none, none, none], false, fun args H K => match args, H with
  | [.agg [.arr .u64 32 a0_0, .arrT 32 (.agg [.int .u64, .int .u64]) a0_1], .int .i64 a1, .agg [.int .u64 a2_0, .int .u64 a2_1]], [] => r23_SetF a0_0 a0_1 a1 a2_0 a2_1 (fun y0 y1 y2 => K (EV.tuple [EV.agg [EV.arr IntKind.u64 32 y0, EV.arrT 32 (Sk.agg [Sk.int IntKind.u64, Sk.int IntKind.u64]) y1], EV.int IntKind.i64 y2]) [])
  | _, _ => False⟩
noncomputable def l_r23_SetF : List (Nat × Entry) := [(30, e_r23_is)]
noncomputable def E_r23_SetF : Env := ⟨look tys, look l_r23_SetF, look [], gl, lookL [], false⟩
theorem X_r23_SetF.eq (a0_0 : Nat → Int) (a0_1 : Nat → Nat → Lf) (a1 : Int) (a2_0 : Int) (a2_1 : Int) (K : EV → Heap → Prop) : evFn E_r23_SetF Tryd.f40 false [.agg [.arr .u64 32 a0_0, .arrT 32 (.agg [.int .u64, .int .u64]) a0_1], .int .i64 a1, .agg [.int .u64 a2_0, .int .u64 a2_1]] [] K = r23_SetF a0_0 a0_1 a1 a2_0 a2_1 (fun y0 y1 y2 => K (EV.tuple [EV.agg [EV.arr IntKind.u64 32 y0, EV.arrT 32 (Sk.agg [Sk.int IntKind.u64, Sk.int IntKind.u64]) y1], EV.int IntKind.i64 y2]) []) := by
  rw [r23_SetF.is]; exact (evFnQ_eq _ _ _ _ _ _).symm.trans (by kernel_rfl)
theorem X_r23_SetF.ok : SoundE Tryd.prog gl 40 e_r23_SetF := by
  refine fnOK (E := E_r23_SetF) (fn := Tryd.f40) rfl tys_ok rfl (show AllL _ l_r23_SetF from ⟨X_r23_is.ok, trivial⟩) mixed (by kernel_rfl) (by kernel_rfl) (by kernel_rfl) 0 (by kernel_rfl) false trivial ?_
  intro args H
  by_cases hx : ∃ (a0_0 : Nat → Int) (a0_1 : Nat → Nat → Lf) (a1 : Int) (a2_0 : Int) (a2_1 : Int), args = [.agg [.arr .u64 32 a0_0, .arrT 32 (.agg [.int .u64, .int .u64]) a0_1], .int .i64 a1, .agg [.int .u64 a2_0, .int .u64 a2_1]] ∧ H = []
  · obtain ⟨a0_0, a0_1, a1, a2_0, a2_1, rfl, rfl⟩ := hx
    right; intro K
    exact iff_of_eq (X_r23_SetF.eq a0_0 a0_1 a1 a2_0 a2_1 K).symm
  · left; intro K h
    simp only [e_r23_SetF] at h
    split at h
    · exact hx ⟨_, _, _, _, _, rfl, rfl⟩
    · exact h
noncomputable def e_r22_Width : Entry := ⟨[none], false, fun args H K => match args, H with
  | [.int .u8 a0], [] => r22_Width a0 (fun y0 => K (EV.int IntKind.i64 y0) [])
  | _, _ => False⟩
noncomputable def E_r22_Width : Env := ⟨look tys, look [], look [], gl, lookL [], false⟩
theorem X_r22_Width.eq (a0 : Int) (K : EV → Heap → Prop) : evFn E_r22_Width Tryd.f57 false [.int .u8 a0] [] K = r22_Width a0 (fun y0 => K (EV.int IntKind.i64 y0) []) := by
  rw [r22_Width.is]; exact (evFnQ_eq _ _ _ _ _ _).symm.trans (by kernel_rfl)
theorem X_r22_Width.ok : SoundE Tryd.prog gl 57 e_r22_Width := by
  refine fnOK (E := E_r22_Width) (fn := Tryd.f57) rfl tys_ok rfl (show AllL _ [] from trivial) mixed (by kernel_rfl) (by kernel_rfl) (by kernel_rfl) 0 (by kernel_rfl) false trivial ?_
  intro args H
  by_cases hx : ∃ (a0 : Int), args = [.int .u8 a0] ∧ H = []
  · obtain ⟨a0, rfl, rfl⟩ := hx
    right; intro K
    exact iff_of_eq (X_r22_Width.eq a0 K).symm
  · left; intro K h
    simp only [e_r22_Width] at h
    split at h
    · exact hx ⟨_, rfl, rfl⟩
    · exact h
noncomputable def e_r22_Bit : Entry := ⟨[none, none], false, fun args H K => match args, H with
  | [.agg [.int .u64 a0_0, .int .u64 a0_1], .int .i64 a1], [] => r22_Bit a0_0 a0_1 a1 (fun y0 => K (EV.bool y0) [])
  | _, _ => False⟩
noncomputable def E_r22_Bit : Env := ⟨look tys, look [], look [], gl, lookL [], false⟩
theorem X_r22_Bit.eq (a0_0 : Int) (a0_1 : Int) (a1 : Int) (K : EV → Heap → Prop) : evFn E_r22_Bit Tryd.f71 false [.agg [.int .u64 a0_0, .int .u64 a0_1], .int .i64 a1] [] K = r22_Bit a0_0 a0_1 a1 (fun y0 => K (EV.bool y0) []) := by
  rw [r22_Bit.is]; exact (evFnQ_eq _ _ _ _ _ _).symm.trans (by kernel_rfl)
theorem X_r22_Bit.ok : SoundE Tryd.prog gl 71 e_r22_Bit := by
  refine fnOK (E := E_r22_Bit) (fn := Tryd.f71) rfl tys_ok rfl (show AllL _ [] from trivial) mixed (by kernel_rfl) (by kernel_rfl) (by kernel_rfl) 0 (by kernel_rfl) false trivial ?_
  intro args H
  by_cases hx : ∃ (a0_0 : Int) (a0_1 : Int) (a1 : Int), args = [.agg [.int .u64 a0_0, .int .u64 a0_1], .int .i64 a1] ∧ H = []
  · obtain ⟨a0_0, a0_1, a1, rfl, rfl⟩ := hx
    right; intro K
    exact iff_of_eq (X_r22_Bit.eq a0_0 a0_1 a1 K).symm
  · left; intro K h
    simp only [e_r22_Bit] at h
    split at h
    · exact hx ⟨_, _, _, rfl, rfl⟩
    · exact h
noncomputable def e_r22_Fits : Entry := ⟨[none, none], false, fun args H K => match args, H with
  | [.int .u8 a0, .agg [.int .u64 a1_0, .int .u64 a1_1]], [] => r22_Fits a0 a1_0 a1_1 (fun y0 => K (EV.bool y0) [])
  | _, _ => False⟩
noncomputable def l_r22_Fits : List (Nat × Entry) := [(57, e_r22_Width), (71, e_r22_Bit)]
noncomputable def E_r22_Fits : Env := ⟨look tys, look l_r22_Fits, look [(2, r22_Fits.l2.entry)], gl, lookL [], false⟩
theorem r22_Fits.l2X.stepEq (R : List EV → Heap → Prop) (K : Ex → List EV → Heap → Prop) (x0 : Int) (x1 : Int) (x2 : Int) (x3 : Int) : loopStep (evCode E_r22_Fits (loopAt Tryd.f55 0) { (LV.mk 1 [(0, 1)] 16 0 false) with nx := live (.loop (loopAt Tryd.f55 0)) (LV.mk 1 [(0, 1)] 16 0 false) }) (live (.loop (loopAt Tryd.f55 0)) (LV.mk 1 [(0, 1)] 16 0 false)) (LV.mk 1 [(0, 1)] 16 0 false) 0 18 R [EV.int IntKind.u8 x0, EV.ptr 0 [], EV.int IntKind.i64 x1] [some (EV.agg [EV.int IntKind.u64 x2, EV.int IntKind.u64 x3])] K = r22_Fits.l2.step (fun x0 x1 x2 x3 => R [EV.int IntKind.u8 x0, EV.ptr 0 [], EV.int IntKind.i64 x1] [some (EV.agg [EV.int IntKind.u64 x2, EV.int IntKind.u64 x3])]) (fun y0 => K .ret [EV.bool y0] []) (fun y0 => K (.exit 0) [EV.int IntKind.u8 y0] []) x0 x1 x2 x3 := (stepQ_eq _ _ _ _ _ _ _ _ _ _ _).symm.trans (by kernel_rfl)
theorem r22_Fits.l2X.eq (K : Ex → List EV → Heap → Prop) : ∀ (n : Nat) (x0 : Int) (x1 : Int) (x2 : Int) (x3 : Int), loopE E_r22_Fits (loopAt Tryd.f55 0) (LV.mk 1 [(0, 1)] 16 0 false) 0 18 K n [EV.int IntKind.u8 x0, EV.ptr 0 [], EV.int IntKind.i64 x1] [some (EV.agg [EV.int IntKind.u64 x2, EV.int IntKind.u64 x3])] = r22_Fits.l2 (fun y0 => K .ret [EV.bool y0] []) (fun y0 => K (.exit 0) [EV.int IntKind.u8 y0] []) n x0 x1 x2 x3
  | 0, _, _, _, _ => rfl
  | n + 1, x0, x1, x2, x3 => by
    have ih : (fun (x0 : Int) (x1 : Int) (x2 : Int) (x3 : Int) => loopE E_r22_Fits (loopAt Tryd.f55 0) (LV.mk 1 [(0, 1)] 16 0 false) 0 18 K n [EV.int IntKind.u8 x0, EV.ptr 0 [], EV.int IntKind.i64 x1] [some (EV.agg [EV.int IntKind.u64 x2, EV.int IntKind.u64 x3])]) = r22_Fits.l2 (fun y0 => K .ret [EV.bool y0] []) (fun y0 => K (.exit 0) [EV.int IntKind.u8 y0] []) n := by funext x0 x1 x2 x3; exact r22_Fits.l2X.eq K n x0 x1 x2 x3
    show loopStep _ _ _ _ _ (loopE E_r22_Fits (loopAt Tryd.f55 0) (LV.mk 1 [(0, 1)] 16 0 false) 0 18 K n) [EV.int IntKind.u8 x0, EV.ptr 0 [], EV.int IntKind.i64 x1] [some (EV.agg [EV.int IntKind.u64 x2, EV.int IntKind.u64 x3])] K = r22_Fits.l2.step (r22_Fits.l2 (fun y0 => K .ret [EV.bool y0] []) (fun y0 => K (.exit 0) [EV.int IntKind.u8 y0] []) n) (fun y0 => K .ret [EV.bool y0] []) (fun y0 => K (.exit 0) [EV.int IntKind.u8 y0] []) x0 x1 x2 x3
    rw [← ih]
    exact r22_Fits.l2X.stepEq _ K x0 x1 x2 x3
theorem r22_Fits.l2X.ok : LoopEq E_r22_Fits (loopAt Tryd.f55 0) := by
  intro L hL vs H
  have h1 : E_r22_Fits.lp (firstRegion (loopAt Tryd.f55 0)) = some r22_Fits.l2.entry := by kernel_rfl
  have h2 : L = r22_Fits.l2.entry := Option.some.inj (hL.symm.trans h1)
  subst h2
  by_cases hx0 : ∃ (x0 : Int) (x1 : Int) (x2 : Int) (x3 : Int), vs = [EV.int IntKind.u8 x0, EV.ptr 0 [], EV.int IntKind.i64 x1] ∧ H = [some (EV.agg [EV.int IntKind.u64 x2, EV.int IntKind.u64 x3])]
  · obtain ⟨x0, x1, x2, x3, rfl, rfl⟩ := hx0
    right; intro K
    exact exists_congr fun n => iff_of_eq (r22_Fits.l2X.eq K n x0 x1 x2 x3).symm
  left; intro K h
  simp only [r22_Fits.l2.entry] at h
  split at h
  · exact hx0 ⟨_, _, _, _, rfl, rfl⟩
  · exact h
theorem X_r22_Fits.eq (a0 : Int) (a1_0 : Int) (a1_1 : Int) (K : EV → Heap → Prop) : evFn E_r22_Fits Tryd.f55 false [.int .u8 a0, .agg [.int .u64 a1_0, .int .u64 a1_1]] [] K = r22_Fits a0 a1_0 a1_1 (fun y0 => K (EV.bool y0) []) := by
  rw [r22_Fits.is]; exact (evFnQ_eq _ _ _ _ _ _).symm.trans (by kernel_rfl)
theorem X_r22_Fits.ok : SoundE Tryd.prog gl 55 e_r22_Fits := by
  refine fnOK (E := E_r22_Fits) (fn := Tryd.f55) rfl tys_ok rfl (show AllL _ l_r22_Fits from ⟨X_r22_Width.ok, X_r22_Bit.ok, trivial⟩) mixed (by kernel_rfl) (by kernel_rfl) (by kernel_rfl) 1 (by kernel_rfl) false ⟨r22_Fits.l2X.ok, trivial⟩ ?_
  intro args H
  by_cases hx : ∃ (a0 : Int) (a1_0 : Int) (a1_1 : Int), args = [.int .u8 a0, .agg [.int .u64 a1_0, .int .u64 a1_1]] ∧ H = []
  · obtain ⟨a0, a1_0, a1_1, rfl, rfl⟩ := hx
    right; intro K
    exact iff_of_eq (X_r22_Fits.eq a0 a1_0 a1_1 K).symm
  · left; intro K h
    simp only [e_r22_Fits] at h
    split at h
    · exact hx ⟨_, _, _, rfl, rfl⟩
    · exact h
noncomputable def e_r22_with : Entry := ⟨[none, none], false, fun args H K => match args, H with
  | [.agg [.int .u64 a0_0, .int .u64 a0_1], .int .i64 a1], [] => r22_with a0_0 a0_1 a1 (fun y0 y1 => K (EV.agg [EV.int IntKind.u64 y0, EV.int IntKind.u64 y1]) [])
  | _, _ => False⟩
noncomputable def E_r22_with : Env := ⟨look tys, look [], look [], gl, lookL [], false⟩
theorem X_r22_with.eq (a0_0 : Int) (a0_1 : Int) (a1 : Int) (K : EV → Heap → Prop) : evFn E_r22_with Tryd.f72 false [.agg [.int .u64 a0_0, .int .u64 a0_1], .int .i64 a1] [] K = r22_with a0_0 a0_1 a1 (fun y0 y1 => K (EV.agg [EV.int IntKind.u64 y0, EV.int IntKind.u64 y1]) []) := by
  rw [r22_with.is]; exact (evFnQ_eq _ _ _ _ _ _).symm.trans (by kernel_rfl)
theorem X_r22_with.ok : SoundE Tryd.prog gl 72 e_r22_with := by
  refine fnOK (E := E_r22_with) (fn := Tryd.f72) rfl tys_ok rfl (show AllL _ [] from trivial) mixed (by kernel_rfl) (by kernel_rfl) (by kernel_rfl) 0 (by kernel_rfl) false trivial ?_
  intro args H
  by_cases hx : ∃ (a0_0 : Int) (a0_1 : Int) (a1 : Int), args = [.agg [.int .u64 a0_0, .int .u64 a0_1], .int .i64 a1] ∧ H = []
  · obtain ⟨a0_0, a0_1, a1, rfl, rfl⟩ := hx
    right; intro K
    exact iff_of_eq (X_r22_with.eq a0_0 a0_1 a1 K).symm
  · left; intro K h
    simp only [e_r22_with] at h
    split at h
    · exact hx ⟨_, _, _, rfl, rfl⟩
    · exact h
noncomputable def e_r22_Box : Entry := ⟨[none, none], false, fun args H K => match args, H with
  | [.int .u8 a0, .agg [.int .u64 a1_0, .int .u64 a1_1]], [] => r22_Box a0 a1_0 a1_1 (fun y0 y1 => K (EV.agg [EV.int IntKind.u64 y0, EV.int IntKind.u64 y1]) [])
  | _, _ => False⟩
noncomputable def l_r22_Box : List (Nat × Entry) := [(57, e_r22_Width), (72, e_r22_with)]
noncomputable def E_r22_Box : Env := ⟨look tys, look l_r22_Box, look [(2, r22_Box.l2.entry)], gl, lookL [], false⟩
theorem r22_Box.l2X.stepEq (R : List EV → Heap → Prop) (K : Ex → List EV → Heap → Prop) (x0 : Int) (x1 : Int) (x2 : Int) (x3 : Int) (x4 : Int) : loopStep (evCode E_r22_Box (loopAt Tryd.f56 0) { (LV.mk 24 [(0, 24)] 16 0 false) with nx := live (.loop (loopAt Tryd.f56 0)) (LV.mk 24 [(0, 24)] 16 0 false) }) (live (.loop (loopAt Tryd.f56 0)) (LV.mk 24 [(0, 24)] 16 0 false)) (LV.mk 24 [(0, 24)] 16 0 false) 0 16 R [EV.ptr 0 [], EV.ptr 1 [], EV.int IntKind.i64 x0] [some (EV.agg [EV.int IntKind.u64 x1, EV.int IntKind.u64 x2]), some (EV.agg [EV.int IntKind.u64 x3, EV.int IntKind.u64 x4])] K = r22_Box.l2.step (fun x0 x1 x2 x3 x4 => R [EV.ptr 0 [], EV.ptr 1 [], EV.int IntKind.i64 x0] [some (EV.agg [EV.int IntKind.u64 x1, EV.int IntKind.u64 x2]), some (EV.agg [EV.int IntKind.u64 x3, EV.int IntKind.u64 x4])]) (fun y0 y1 y2 y3 => K (.exit 0) [EV.ptr 0 [], EV.ptr 1 []] [some (EV.agg [EV.int IntKind.u64 y0, EV.int IntKind.u64 y1]), some (EV.agg [EV.int IntKind.u64 y2, EV.int IntKind.u64 y3])]) x0 x1 x2 x3 x4 := (stepQ_eq _ _ _ _ _ _ _ _ _ _ _).symm.trans (by kernel_rfl)
theorem r22_Box.l2X.eq (K : Ex → List EV → Heap → Prop) : ∀ (n : Nat) (x0 : Int) (x1 : Int) (x2 : Int) (x3 : Int) (x4 : Int), loopE E_r22_Box (loopAt Tryd.f56 0) (LV.mk 24 [(0, 24)] 16 0 false) 0 16 K n [EV.ptr 0 [], EV.ptr 1 [], EV.int IntKind.i64 x0] [some (EV.agg [EV.int IntKind.u64 x1, EV.int IntKind.u64 x2]), some (EV.agg [EV.int IntKind.u64 x3, EV.int IntKind.u64 x4])] = r22_Box.l2 (fun y0 y1 y2 y3 => K (.exit 0) [EV.ptr 0 [], EV.ptr 1 []] [some (EV.agg [EV.int IntKind.u64 y0, EV.int IntKind.u64 y1]), some (EV.agg [EV.int IntKind.u64 y2, EV.int IntKind.u64 y3])]) n x0 x1 x2 x3 x4
  | 0, _, _, _, _, _ => rfl
  | n + 1, x0, x1, x2, x3, x4 => by
    have ih : (fun (x0 : Int) (x1 : Int) (x2 : Int) (x3 : Int) (x4 : Int) => loopE E_r22_Box (loopAt Tryd.f56 0) (LV.mk 24 [(0, 24)] 16 0 false) 0 16 K n [EV.ptr 0 [], EV.ptr 1 [], EV.int IntKind.i64 x0] [some (EV.agg [EV.int IntKind.u64 x1, EV.int IntKind.u64 x2]), some (EV.agg [EV.int IntKind.u64 x3, EV.int IntKind.u64 x4])]) = r22_Box.l2 (fun y0 y1 y2 y3 => K (.exit 0) [EV.ptr 0 [], EV.ptr 1 []] [some (EV.agg [EV.int IntKind.u64 y0, EV.int IntKind.u64 y1]), some (EV.agg [EV.int IntKind.u64 y2, EV.int IntKind.u64 y3])]) n := by funext x0 x1 x2 x3 x4; exact r22_Box.l2X.eq K n x0 x1 x2 x3 x4
    show loopStep _ _ _ _ _ (loopE E_r22_Box (loopAt Tryd.f56 0) (LV.mk 24 [(0, 24)] 16 0 false) 0 16 K n) [EV.ptr 0 [], EV.ptr 1 [], EV.int IntKind.i64 x0] [some (EV.agg [EV.int IntKind.u64 x1, EV.int IntKind.u64 x2]), some (EV.agg [EV.int IntKind.u64 x3, EV.int IntKind.u64 x4])] K = r22_Box.l2.step (r22_Box.l2 (fun y0 y1 y2 y3 => K (.exit 0) [EV.ptr 0 [], EV.ptr 1 []] [some (EV.agg [EV.int IntKind.u64 y0, EV.int IntKind.u64 y1]), some (EV.agg [EV.int IntKind.u64 y2, EV.int IntKind.u64 y3])]) n) (fun y0 y1 y2 y3 => K (.exit 0) [EV.ptr 0 [], EV.ptr 1 []] [some (EV.agg [EV.int IntKind.u64 y0, EV.int IntKind.u64 y1]), some (EV.agg [EV.int IntKind.u64 y2, EV.int IntKind.u64 y3])]) x0 x1 x2 x3 x4
    rw [← ih]
    exact r22_Box.l2X.stepEq _ K x0 x1 x2 x3 x4
theorem r22_Box.l2X.ok : LoopEq E_r22_Box (loopAt Tryd.f56 0) := by
  intro L hL vs H
  have h1 : E_r22_Box.lp (firstRegion (loopAt Tryd.f56 0)) = some r22_Box.l2.entry := by kernel_rfl
  have h2 : L = r22_Box.l2.entry := Option.some.inj (hL.symm.trans h1)
  subst h2
  by_cases hx0 : ∃ (x0 : Int) (x1 : Int) (x2 : Int) (x3 : Int) (x4 : Int), vs = [EV.ptr 0 [], EV.ptr 1 [], EV.int IntKind.i64 x0] ∧ H = [some (EV.agg [EV.int IntKind.u64 x1, EV.int IntKind.u64 x2]), some (EV.agg [EV.int IntKind.u64 x3, EV.int IntKind.u64 x4])]
  · obtain ⟨x0, x1, x2, x3, x4, rfl, rfl⟩ := hx0
    right; intro K
    exact exists_congr fun n => iff_of_eq (r22_Box.l2X.eq K n x0 x1 x2 x3 x4).symm
  left; intro K h
  simp only [r22_Box.l2.entry] at h
  split at h
  · exact hx0 ⟨_, _, _, _, _, rfl, rfl⟩
  · exact h
theorem X_r22_Box.eq (a0 : Int) (a1_0 : Int) (a1_1 : Int) (K : EV → Heap → Prop) : evFn E_r22_Box Tryd.f56 false [.int .u8 a0, .agg [.int .u64 a1_0, .int .u64 a1_1]] [] K = r22_Box a0 a1_0 a1_1 (fun y0 y1 => K (EV.agg [EV.int IntKind.u64 y0, EV.int IntKind.u64 y1]) []) := by
  rw [r22_Box.is]; exact (evFnQ_eq _ _ _ _ _ _).symm.trans (by kernel_rfl)
theorem X_r22_Box.ok : SoundE Tryd.prog gl 56 e_r22_Box := by
  refine fnOK (E := E_r22_Box) (fn := Tryd.f56) rfl tys_ok rfl (show AllL _ l_r22_Box from ⟨X_r22_Width.ok, X_r22_with.ok, trivial⟩) mixed (by kernel_rfl) (by kernel_rfl) (by kernel_rfl) 1 (by kernel_rfl) false ⟨r22_Box.l2X.ok, trivial⟩ ?_
  intro args H
  by_cases hx : ∃ (a0 : Int) (a1_0 : Int) (a1_1 : Int), args = [.int .u8 a0, .agg [.int .u64 a1_0, .int .u64 a1_1]] ∧ H = []
  · obtain ⟨a0, a1_0, a1_1, rfl, rfl⟩ := hx
    right; intro K
    exact iff_of_eq (X_r22_Box.eq a0 a1_0 a1_1 K).symm
  · left; intro K h
    simp only [e_r22_Box] at h
    split at h
    · exact hx ⟨_, _, _, rfl, rfl⟩
    · exact h
end Go.Ev.S
