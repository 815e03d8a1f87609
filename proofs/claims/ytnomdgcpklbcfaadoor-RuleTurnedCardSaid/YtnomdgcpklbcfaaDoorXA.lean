/- The functions of the seat: that the evaluator has them as they are. -/
import Derived.Test.YtnomdgcpklbcfaaDoorProg
import Derived.Test.YtnomdgcpklbcfaaDoorEvC
import Derived.Test.YtnomdgcpklbcfaaDoorDA
import Derived.KernelRfl
set_option maxRecDepth 100000
set_option linter.unusedVariables false
set_option linter.unusedSimpArgs false
namespace Go.Ev.S
open Go Go.Proofs Go.Ev
def tys : List (Nat × TI) := [
 (1, ⟨.func, 1, 8, .nilFunc⟩),
 (2, ⟨.int .i64, 1, 8, .int .i64 0⟩),
 (3, ⟨.int .i64, 1, 8, .int .i64 0⟩),
 (4, ⟨.bool, 1, 1, .bool false⟩),
 (5, ⟨.int .u8, 1, 1, .int .u8 0⟩),
 (6, ⟨.int .u8, 1, 1, .int .u8 0⟩),
 (7, ⟨.struct [(0, 2), (1, 3), (2, 4), (3, 6)], 4, 24, .agg [.int .i64 0, .int .i64 0, .bool false, .int .u8 0]⟩),
 (8, ⟨.struct [(0, 2), (1, 3), (2, 4), (3, 6)], 4, 24, .agg [.int .i64 0, .int .i64 0, .bool false, .int .u8 0]⟩),
 (9, ⟨.str, 1, 16, .str []⟩),
 (10, ⟨.str, 1, 16, .str []⟩),
 (11, ⟨.str, 1, 16, .str []⟩),
 (12, ⟨.int .u64, 1, 8, .int .u64 0⟩),
 (15, ⟨.ptr, 1, 8, .nilPtr⟩),
 (16, ⟨.ptr, 1, 8, .nilPtr⟩),
 (17, ⟨.ptr, 1, 8, .nilPtr⟩),
 (21, ⟨.int .i32, 1, 4, .int .i32 0⟩),
 (22, ⟨.int .u8, 1, 1, .int .u8 0⟩),
 (23, ⟨.int .u8, 1, 1, .int .u8 0⟩),
 (24, ⟨.str, 1, 16, .str []⟩),
 (25, ⟨.struct [(0, 4), (1, 24), (2, 24), (3, 3)], 4, 48, .agg [.bool false, .str [], .str [], .int .i64 0]⟩),
 (26, ⟨.struct [(0, 4), (1, 24), (2, 24), (3, 3)], 4, 48, .agg [.bool false, .str [], .str [], .int .i64 0]⟩),
 (27, ⟨.func, 1, 8, .nilFunc⟩),
 (28, ⟨.func, 1, 8, .nilFunc⟩),
 (29, ⟨.func, 1, 8, .nilFunc⟩),
 (30, ⟨.func, 1, 8, .nilFunc⟩),
 (31, ⟨.func, 1, 8, .nilFunc⟩),
 (32, ⟨.int .u64, 1, 8, .int .u64 0⟩),
 (33, ⟨.struct [(0, 32), (1, 32)], 2, 16, .agg [.int .u64 0, .int .u64 0]⟩),
 (34, ⟨.struct [(0, 32), (1, 32)], 2, 16, .agg [.int .u64 0, .int .u64 0]⟩),
 (35, ⟨.int .u8, 1, 1, .int .u8 0⟩),
 (36, ⟨.int .i64, 1, 8, .int .i64 0⟩),
 (38, ⟨.func, 1, 8, .nilFunc⟩),
 (39, ⟨.func, 1, 8, .nilFunc⟩),
 (40, ⟨.func, 1, 8, .nilFunc⟩),
 (41, ⟨.func, 1, 8, .nilFunc⟩),
 (42, ⟨.func, 1, 8, .nilFunc⟩),
 (43, ⟨.func, 1, 8, .nilFunc⟩),
 (44, ⟨.func, 1, 8, .nilFunc⟩),
 (45, ⟨.func, 1, 8, .nilFunc⟩),
 (46, ⟨.func, 1, 8, .nilFunc⟩),
 (47, ⟨.struct [(0, 26), (4, 4)], 5, 56, .agg [.agg [.bool false, .str [], .str [], .int .i64 0], .bool false]⟩),
 (48, ⟨.struct [(0, 26), (4, 4)], 5, 56, .agg [.agg [.bool false, .str [], .str [], .int .i64 0], .bool false]⟩),
 (49, ⟨.func, 1, 8, .nilFunc⟩),
 (50, ⟨.func, 1, 8, .nilFunc⟩),
 (51, ⟨.func, 1, 8, .nilFunc⟩),
 (53, ⟨.func, 1, 8, .nilFunc⟩),
 (54, ⟨.func, 1, 8, .nilFunc⟩),
 (55, ⟨.func, 1, 8, .nilFunc⟩),
 (56, ⟨.func, 1, 8, .nilFunc⟩),
 (58, ⟨.func, 1, 8, .nilFunc⟩),
 (59, ⟨.func, 1, 8, .nilFunc⟩),
 (60, ⟨.func, 1, 8, .nilFunc⟩),
 (61, ⟨.func, 1, 8, .nilFunc⟩),
 (62, ⟨.func, 1, 8, .nilFunc⟩),
 (64, ⟨.func, 1, 8, .nilFunc⟩),
 (65, ⟨.func, 1, 8, .nilFunc⟩),
 (67, ⟨.func, 1, 8, .nilFunc⟩),
 (69, ⟨.func, 1, 8, .nilFunc⟩),
 (70, ⟨.func, 1, 8, .nilFunc⟩),
 (71, ⟨.int .u64, 1, 8, .int .u64 0⟩),
 (72, ⟨.func, 1, 8, .nilFunc⟩),
 (73, ⟨.func, 1, 8, .nilFunc⟩),
 (74, ⟨.func, 1, 8, .nilFunc⟩),
 (76, ⟨.func, 1, 8, .nilFunc⟩),
 (77, ⟨.slice 5, 1, 24, .nilSlice⟩),
 (78, ⟨.func, 1, 8, .nilFunc⟩),
 (79, ⟨.func, 1, 8, .nilFunc⟩),
 (80, ⟨.func, 1, 8, .nilFunc⟩),
 (81, ⟨.func, 1, 8, .nilFunc⟩),
 (82, ⟨.slice 107, 1, 24, .nilSlice⟩),
 (83, ⟨.func, 1, 8, .nilFunc⟩),
 (85, ⟨.func, 1, 8, .nilFunc⟩),
 (86, ⟨.func, 1, 8, .nilFunc⟩),
 (88, ⟨.func, 1, 8, .nilFunc⟩),
 (90, ⟨.func, 1, 8, .nilFunc⟩),
 (91, ⟨.func, 1, 8, .nilFunc⟩),
 (92, ⟨.func, 1, 8, .nilFunc⟩),
 (94, ⟨.func, 1, 8, .nilFunc⟩),
 (96, ⟨.func, 1, 8, .nilFunc⟩),
 (97, ⟨.func, 1, 8, .nilFunc⟩),
 (98, ⟨.array 6 32, 6, 48, .arr .u64 6 (fun _ => 0)⟩),
 (99, ⟨.array 6 32, 6, 48, .arr .u64 6 (fun _ => 0)⟩),
 (101, ⟨.func, 1, 8, .nilFunc⟩),
 (102, ⟨.func, 1, 8, .nilFunc⟩),
 (103, ⟨.func, 1, 8, .nilFunc⟩),
 (104, ⟨.func, 1, 8, .nilFunc⟩),
 (105, ⟨.func, 1, 8, .nilFunc⟩),
 (106, ⟨.func, 1, 8, .nilFunc⟩),
 (107, ⟨.int .u32, 1, 4, .int .u32 0⟩),
 (108, ⟨.func, 1, 8, .nilFunc⟩),
 (109, ⟨.func, 1, 8, .nilFunc⟩),
 (110, ⟨.func, 1, 8, .nilFunc⟩),
 (111, ⟨.struct [(0, 3), (1, 3), (2, 3), (3, 9)], 4, 40, .agg [.int .i64 0, .int .i64 0, .int .i64 0, .str []]⟩),
 (112, ⟨.array 4 111, 16, 160, .agg [.agg [.int .i64 0, .int .i64 0, .int .i64 0, .str []], .agg [.int .i64 0, .int .i64 0, .int .i64 0, .str []], .agg [.int .i64 0, .int .i64 0, .int .i64 0, .str []], .agg [.int .i64 0, .int .i64 0, .int .i64 0, .str []]]⟩),
 (113, ⟨.func, 1, 8, .nilFunc⟩),
 (114, ⟨.func, 1, 8, .nilFunc⟩),
 (115, ⟨.func, 1, 8, .nilFunc⟩),
 (116, ⟨.func, 1, 8, .nilFunc⟩),
 (117, ⟨.func, 1, 8, .nilFunc⟩),
 (118, ⟨.func, 1, 8, .nilFunc⟩),
 (119, ⟨.func, 1, 8, .nilFunc⟩),
 (120, ⟨.func, 1, 8, .nilFunc⟩),
 (122, ⟨.func, 1, 8, .nilFunc⟩),
 (123, ⟨.func, 1, 8, .nilFunc⟩),
 (124, ⟨.func, 1, 8, .nilFunc⟩),
 (125, ⟨.func, 1, 8, .nilFunc⟩),
 (126, ⟨.func, 1, 8, .nilFunc⟩),
 (127, ⟨.func, 1, 8, .nilFunc⟩),
 (128, ⟨.func, 1, 8, .nilFunc⟩),
 (129, ⟨.array 64 5, 64, 64, .arr .u8 64 (fun _ => 0)⟩),
 (130, ⟨.func, 1, 8, .nilFunc⟩),
 (133, ⟨.array 0 16, 0, 0, .agg []⟩),
 (136, ⟨.int .u8, 1, 1, .int .u8 0⟩),
 (137, ⟨.int .u8, 1, 1, .int .u8 0⟩),
 (138, ⟨.func, 1, 8, .nilFunc⟩),
 (139, ⟨.ptr, 1, 8, .nilPtr⟩),
 (140, ⟨.int .i32, 1, 4, .int .i32 0⟩),
 (141, ⟨.int .i32, 1, 4, .int .i32 0⟩)]
theorem tys_ok : AllL (OkTI Tryd.prog) tys :=
 ⟨.of (by kernel_rfl) (by kernel_rfl), .of (by kernel_rfl) (by kernel_rfl), .of (by kernel_rfl) (by kernel_rfl), .of (by kernel_rfl) (by kernel_rfl), .of (by kernel_rfl) (by kernel_rfl), .of (by kernel_rfl) (by kernel_rfl), .of (by kernel_rfl) (by kernel_rfl), .of (by kernel_rfl) (by kernel_rfl), .of (by kernel_rfl) (by kernel_rfl), .of (by kernel_rfl) (by kernel_rfl), .of (by kernel_rfl) (by kernel_rfl), .of (by kernel_rfl) (by kernel_rfl), .of (by kernel_rfl) (by kernel_rfl), .of (by kernel_rfl) (by kernel_rfl), .of (by kernel_rfl) (by kernel_rfl), .of (by kernel_rfl) (by kernel_rfl), .of (by kernel_rfl) (by kernel_rfl), .of (by kernel_rfl) (by kernel_rfl), .of (by kernel_rfl) (by kernel_rfl), .of (by kernel_rfl) (by kernel_rfl), .of (by kernel_rfl) (by kernel_rfl), .of (by kernel_rfl) (by kernel_rfl), .of (by kernel_rfl) (by kernel_rfl), .of (by kernel_rfl) (by kernel_rfl), .of (by kernel_rfl) (by kernel_rfl), .of (by kernel_rfl) (by kernel_rfl), .of (by kernel_rfl) (by kernel_rfl), .of (by kernel_rfl) (by kernel_rfl), .of (by kernel_rfl) (by kernel_rfl), .of (by kernel_rfl) (by kernel_rfl), .of (by kernel_rfl) (by kernel_rfl), .of (by kernel_rfl) (by kernel_rfl), .of (by kernel_rfl) (by kernel_rfl), .of (by kernel_rfl) (by kernel_rfl), .of (by kernel_rfl) (by kernel_rfl), .of (by kernel_rfl) (by kernel_rfl), .of (by kernel_rfl) (by kernel_rfl), .of (by kernel_rfl) (by kernel_rfl), .of (by kernel_rfl) (by kernel_rfl), .of (by kernel_rfl) (by kernel_rfl), .of (by kernel_rfl) (by kernel_rfl), .of (by kernel_rfl) (by kernel_rfl), .of (by kernel_rfl) (by kernel_rfl), .of (by kernel_rfl) (by kernel_rfl), .of (by kernel_rfl) (by kernel_rfl), .of (by kernel_rfl) (by kernel_rfl), .of (by kernel_rfl) (by kernel_rfl), .of (by kernel_rfl) (by kernel_rfl), .of (by kernel_rfl) (by kernel_rfl), .of (by kernel_rfl) (by kernel_rfl), .of (by kernel_rfl) (by kernel_rfl), .of (by kernel_rfl) (by kernel_rfl), .of (by kernel_rfl) (by kernel_rfl), .of (by kernel_rfl) (by kernel_rfl), .of (by kernel_rfl) (by kernel_rfl), .of (by kernel_rfl) (by kernel_rfl), .of (by kernel_rfl) (by kernel_rfl), .of (by kernel_rfl) (by kernel_rfl), .of (by kernel_rfl) (by kernel_rfl), .of (by kernel_rfl) (by kernel_rfl), .of (by kernel_rfl) (by kernel_rfl), .of (by kernel_rfl) (by kernel_rfl), .of (by kernel_rfl) (by kernel_rfl), .of (by kernel_rfl) (by kernel_rfl), .of (by kernel_rfl) (by kernel_rfl), .of (by kernel_rfl) (by kernel_rfl), .of (by kernel_rfl) (by kernel_rfl), .of (by kernel_rfl) (by kernel_rfl), .of (by kernel_rfl) (by kernel_rfl), .of (by kernel_rfl) (by kernel_rfl), .of (by kernel_rfl) (by kernel_rfl), .of (by kernel_rfl) (by kernel_rfl), .of (by kernel_rfl) (by kernel_rfl), .of (by kernel_rfl) (by kernel_rfl), .of (by kernel_rfl) (by kernel_rfl), .of (by kernel_rfl) (by kernel_rfl), .of (by kernel_rfl) (by kernel_rfl), .of (by kernel_rfl) (by kernel_rfl), .of (by kernel_rfl) (by kernel_rfl), .of (by kernel_rfl) (by kernel_rfl), .of (by kernel_rfl) (by kernel_rfl), .of (by kernel_rfl) (by kernel_rfl), .of (by kernel_rfl) (by kernel_rfl), .of (by kernel_rfl) (by kernel_rfl), .of (by kernel_rfl) (by kernel_rfl), .of (by kernel_rfl) (by kernel_rfl), .of (by kernel_rfl) (by kernel_rfl), .of (by kernel_rfl) (by kernel_rfl), .of (by kernel_rfl) (by kernel_rfl), .of (by kernel_rfl) (by kernel_rfl), .of (by kernel_rfl) (by kernel_rfl), .of (by kernel_rfl) (by kernel_rfl), .of (by kernel_rfl) (by kernel_rfl), .of (by kernel_rfl) (by kernel_rfl), .of (by kernel_rfl) (by kernel_rfl), .of (by kernel_rfl) (by kernel_rfl), .of (by kernel_rfl) (by kernel_rfl), .of (by kernel_rfl) (by kernel_rfl), .of (by kernel_rfl) (by kernel_rfl), .of (by kernel_rfl) (by kernel_rfl), .of (by kernel_rfl) (by kernel_rfl), .of (by kernel_rfl) (by kernel_rfl), .of (by kernel_rfl) (by kernel_rfl), .of (by kernel_rfl) (by kernel_rfl), .of (by kernel_rfl) (by kernel_rfl), .of (by kernel_rfl) (by kernel_rfl), .of (by kernel_rfl) (by kernel_rfl), .of (by kernel_rfl) (by kernel_rfl), .of (by kernel_rfl) (by kernel_rfl), .of (by kernel_rfl) (by kernel_rfl), .of (by kernel_rfl) (by kernel_rfl), .of (by kernel_rfl) (by kernel_rfl), .of (by kernel_rfl) (by kernel_rfl), .of (by kernel_rfl) (by kernel_rfl), .of (by kernel_rfl) (by kernel_rfl), .of (by kernel_rfl) (by kernel_rfl), .of (by kernel_rfl) (by kernel_rfl), .of (by kernel_rfl) (by kernel_rfl), trivial⟩
theorem mixed : Tryd.prog.follows .mixedOrders = true := by kernel_rfl
noncomputable def gl : Nat → Option EV := look [(0, .arr .u8 64 tab_deBruijn64tab)]
noncomputable def e_zas : Entry := ⟨[none], false, fun args H K => match args, H with
 | [.agg [.bool a0_0, .str a0_1, .str a0_2, .int .i64 a0_3]], [] => zas a0_0 a0_1 a0_2 a0_3 (fun y0 => K (EV.bool y0) [])
 | _, _ => False⟩
noncomputable def E_zas : Env := ⟨look tys, look [], look [], gl, lookL [], false⟩
theorem X_zas.eq (a0_0 : Bool) (a0_1 : List UInt8) (a0_2 : List UInt8) (a0_3 : Int) (K : EV → Heap → Prop) : evFn E_zas Tryd.f4 false [.agg [.bool a0_0, .str a0_1, .str a0_2, .int .i64 a0_3]] [] K = zas a0_0 a0_1 a0_2 a0_3 (fun y0 => K (EV.bool y0) []) := by
 rw [zas.is]; exact (evFnQ_eq _ _ _ _ _ _).symm.trans (by kernel_rfl)
theorem X_zas.ok : SoundE Tryd.prog gl 4 e_zas := by
 refine fnOK (E := E_zas) (fn := Tryd.f4) rfl tys_ok rfl (show AllL _ [] from trivial) mixed (by kernel_rfl) (by kernel_rfl) (by kernel_rfl) 0 (by kernel_rfl) false trivial ?_
 intro args H
 by_cases hx : ∃ (a0_0 : Bool) (a0_1 : List UInt8) (a0_2 : List UInt8) (a0_3 : Int), args = [.agg [.bool a0_0, .str a0_1, .str a0_2, .int .i64 a0_3]] ∧ H = []
 ·obtain ⟨a0_0, a0_1, a0_2, a0_3, rfl, rfl⟩ := hx
  right; intro K
  exact iff_of_eq (X_zas.eq a0_0 a0_1 a0_2 a0_3 K).symm
 ·left; intro K h
  simp only [e_zas] at h
  split at h
  ·exact hx ⟨_, _, _, _, rfl, rfl⟩
  ·exact h
noncomputable def e_zcc : Entry := ⟨[none], false, fun args H K => match args, H with
 | [.str a0], [] => zcc a0 (fun y0 => K (EV.bool y0) [])
 | _, _ => False⟩
noncomputable def E_zcc : Env := ⟨look tys, look [], look [], gl, lookL [], false⟩
theorem X_zcc.eq (a0 : List UInt8) (K : EV → Heap → Prop) : evFn E_zcc Tryd.f13 false [.str a0] [] K = zcc a0 (fun y0 => K (EV.bool y0) []) := by
 rw [zcc.is]; exact (evFnQ_eq _ _ _ _ _ _).symm.trans (by kernel_rfl)
theorem X_zcc.ok : SoundE Tryd.prog gl 13 e_zcc := by
 refine fnOK (E := E_zcc) (fn := Tryd.f13) rfl tys_ok rfl (show AllL _ [] from trivial) mixed (by kernel_rfl) (by kernel_rfl) (by kernel_rfl) 0 (by kernel_rfl) false trivial ?_
 intro args H
 by_cases hx : ∃ (a0 : List UInt8), args = [.str a0] ∧ H = []
 ·obtain ⟨a0, rfl, rfl⟩ := hx
  right; intro K
  exact iff_of_eq (X_zcc.eq a0 K).symm
 ·left; intro K h
  simp only [e_zcc] at h
  split at h
  ·exact hx ⟨_, rfl, rfl⟩
  ·exact h
noncomputable def e_zcl : Entry := ⟨[none], false, fun args H K => match args, H with
 | [.str a0], [] => zcl a0 (fun y0 => K (EV.bool y0) [])
 | _, _ => False⟩
noncomputable def E_zcl : Env := ⟨look tys, look [], look [], gl, lookL [], false⟩
theorem X_zcl.eq (a0 : List UInt8) (K : EV → Heap → Prop) : evFn E_zcl Tryd.f14 false [.str a0] [] K = zcl a0 (fun y0 => K (EV.bool y0) []) := by
 rw [zcl.is]; exact (evFnQ_eq _ _ _ _ _ _).symm.trans (by kernel_rfl)
theorem X_zcl.ok : SoundE Tryd.prog gl 14 e_zcl := by
 refine fnOK (E := E_zcl) (fn := Tryd.f14) rfl tys_ok rfl (show AllL _ [] from trivial) mixed (by kernel_rfl) (by kernel_rfl) (by kernel_rfl) 0 (by kernel_rfl) false trivial ?_
 intro args H
 by_cases hx : ∃ (a0 : List UInt8), args = [.str a0] ∧ H = []
 ·obtain ⟨a0, rfl, rfl⟩ := hx
  right; intro K
  exact iff_of_eq (X_zcl.eq a0 K).symm
 ·left; intro K h
  simp only [e_zcl] at h
  split at h
  ·exact hx ⟨_, rfl, rfl⟩
  ·exact h
noncomputable def e_zck : Entry := ⟨[], false, fun args H K => match args, H with
 | [], [] => zck  (fun y0 y1 y2 y3 => K (EV.agg [EV.bool y0, EV.str y1, EV.str y2, EV.int IntKind.i64 y3]) [])
 | _, _ => False⟩
noncomputable def E_zck : Env := ⟨look tys, look [], look [], gl, lookL [], false⟩
theorem X_zck.eq (K : EV → Heap → Prop) : evFn E_zck Tryd.f15 false [] [] K = zck  (fun y0 y1 y2 y3 => K (EV.agg [EV.bool y0, EV.str y1, EV.str y2, EV.int IntKind.i64 y3]) []) := by
 rw [zck.is]; exact (evFnQ_eq _ _ _ _ _ _).symm.trans (by kernel_rfl)
theorem X_zck.ok : SoundE Tryd.prog gl 15 e_zck := by
 refine fnOK (E := E_zck) (fn := Tryd.f15) rfl tys_ok rfl (show AllL _ [] from trivial) mixed (by kernel_rfl) (by kernel_rfl) (by kernel_rfl) 0 (by kernel_rfl) false trivial ?_
 intro args H
 by_cases hx : args = [] ∧ H = []
 ·obtain ⟨rfl, rfl⟩ := hx
  right; intro K
  exact iff_of_eq (X_zck.eq  K).symm
 ·left; intro K h
  simp only [e_zck] at h
  split at h
  ·exact hx ⟨rfl, rfl⟩
  ·exact h
noncomputable def e_zbx : Entry := ⟨[none, none], false, fun args H K => match args, H with
 | [.str a0, .str a1], [] => zbx a0 a1 (fun y0 => K (EV.int IntKind.i64 y0) [])
 | _, _ => False⟩
noncomputable def E_zbx : Env := ⟨look tys, look [], look [], gl, lookL [], false⟩
theorem X_zbx.eq (a0 : List UInt8) (a1 : List UInt8) (K : EV → Heap → Prop) : evFn E_zbx Tryd.f43 false [.str a0, .str a1] [] K = zbx a0 a1 (fun y0 => K (EV.int IntKind.i64 y0) []) := by
 rw [zbx.is]; exact (evFnQ_eq _ _ _ _ _ _).symm.trans (by kernel_rfl)
theorem X_zbx.ok : SoundE Tryd.prog gl 43 e_zbx := by
 refine fnOK (E := E_zbx) (fn := Tryd.f43) rfl tys_ok rfl (show AllL _ [] from trivial) mixed (by kernel_rfl) (by kernel_rfl) (by kernel_rfl) 0 (by kernel_rfl) false trivial ?_
 intro args H
 by_cases hx : ∃ (a0 : List UInt8) (a1 : List UInt8), args = [.str a0, .str a1] ∧ H = []
 ·obtain ⟨a0, a1, rfl, rfl⟩ := hx
  right; intro K
  exact iff_of_eq (X_zbx.eq a0 a1 K).symm
 ·left; intro K h
  simp only [e_zbx] at h
  split at h
  ·exact hx ⟨_, _, rfl, rfl⟩
  ·exact h
noncomputable def e_zbu : Entry := ⟨[none, none], false, fun args H K => match args, H with
 | [.int .u64 a0, .int .i64 a1], [] => zbu a0 a1 (fun y0 => K (EV.bool y0) [])
 | _, _ => False⟩
noncomputable def E_zbu : Env := ⟨look tys, look [], look [], gl, lookL [], false⟩
theorem X_zbu.eq (a0 : Int) (a1 : Int) (K : EV → Heap → Prop) : evFn E_zbu Tryd.f93 false [.int .u64 a0, .int .i64 a1] [] K = zbu a0 a1 (fun y0 => K (EV.bool y0) []) := by
 rw [zbu.is]; exact (evFnQ_eq _ _ _ _ _ _).symm.trans (by kernel_rfl)
theorem X_zbu.ok : SoundE Tryd.prog gl 93 e_zbu := by
 refine fnOK (E := E_zbu) (fn := Tryd.f93) rfl tys_ok rfl (show AllL _ [] from trivial) mixed (by kernel_rfl) (by kernel_rfl) (by kernel_rfl) 0 (by kernel_rfl) false trivial ?_
 intro args H
 by_cases hx : ∃ (a0 : Int) (a1 : Int), args = [.int .u64 a0, .int .i64 a1] ∧ H = []
 ·obtain ⟨a0, a1, rfl, rfl⟩ := hx
  right; intro K
  exact iff_of_eq (X_zbu.eq a0 a1 K).symm
 ·left; intro K h
  simp only [e_zbu] at h
  split at h
  ·exact hx ⟨_, _, rfl, rfl⟩
  ·exact h
noncomputable def e_zbv : Entry := ⟨[none], false, fun args H K => match args, H with
 | [.int .u64 a0], [] => zbv a0 (fun y0 => K (EV.int IntKind.i64 y0) [])
 | _, _ => False⟩
noncomputable def l_zbv : List (Nat × Entry) := [(93, e_zbu)]
noncomputable def E_zbv : Env := ⟨look tys, look l_zbv, look [(3, zbv.l3.entry)], gl, lookL [], false⟩
theorem zbv.l3X.stepEq (R : List EV → Heap → Prop) (K : Ex → List EV → Heap → Prop) (x0 : Int) (x1 : Int) (x2 : Int) : loopStep (evCode E_zbv (loopAt Tryd.f71 0) { (LV.mk 8 [(0, 8)] 4 0 false) with nx := live (.loop (loopAt Tryd.f71 0)) (LV.mk 8 [(0, 8)] 4 0 false) }) (live (.loop (loopAt Tryd.f71 0)) (LV.mk 8 [(0, 8)] 4 0 false)) (LV.mk 8 [(0, 8)] 4 0 false) 0 15 R [EV.int IntKind.u64 x0, EV.int IntKind.i64 x1, EV.int IntKind.i64 x2] [] K = zbv.l3.step (fun x0 x1 x2 => R [EV.int IntKind.u64 x0, EV.int IntKind.i64 x1, EV.int IntKind.i64 x2] []) (fun y0 => K (.exit 0) [EV.int IntKind.i64 y0] []) x0 x1 x2 := (stepQ_eq _ _ _ _ _ _ _ _ _ _ _).symm.trans (by kernel_rfl)
theorem zbv.l3X.eq (K : Ex → List EV → Heap → Prop) : ∀ (n : Nat) (x0 : Int) (x1 : Int) (x2 : Int), loopE E_zbv (loopAt Tryd.f71 0) (LV.mk 8 [(0, 8)] 4 0 false) 0 15 K n [EV.int IntKind.u64 x0, EV.int IntKind.i64 x1, EV.int IntKind.i64 x2] [] = zbv.l3 (fun y0 => K (.exit 0) [EV.int IntKind.i64 y0] []) n x0 x1 x2
 | 0, _, _, _ => rfl
 | n + 1, x0, x1, x2 => by
  have ih : (fun (x0 : Int) (x1 : Int) (x2 : Int) => loopE E_zbv (loopAt Tryd.f71 0) (LV.mk 8 [(0, 8)] 4 0 false) 0 15 K n [EV.int IntKind.u64 x0, EV.int IntKind.i64 x1, EV.int IntKind.i64 x2] []) = zbv.l3 (fun y0 => K (.exit 0) [EV.int IntKind.i64 y0] []) n := by funext x0 x1 x2; exact zbv.l3X.eq K n x0 x1 x2
  show loopStep _ _ _ _ _ (loopE E_zbv (loopAt Tryd.f71 0) (LV.mk 8 [(0, 8)] 4 0 false) 0 15 K n) [EV.int IntKind.u64 x0, EV.int IntKind.i64 x1, EV.int IntKind.i64 x2] [] K = zbv.l3.step (zbv.l3 (fun y0 => K (.exit 0) [EV.int IntKind.i64 y0] []) n) (fun y0 => K (.exit 0) [EV.int IntKind.i64 y0] []) x0 x1 x2
  rw [← ih]
  exact zbv.l3X.stepEq _ K x0 x1 x2
theorem zbv.l3X.ok : LoopEq E_zbv (loopAt Tryd.f71 0) := by
 intro L hL vs H
 have h1 : E_zbv.lp (firstRegion (loopAt Tryd.f71 0)) = some zbv.l3.entry := by kernel_rfl
 have h2 : L = zbv.l3.entry := Option.some.inj (hL.symm.trans h1)
 subst h2
 by_cases hx : ∃ (x0 : Int) (x1 : Int) (x2 : Int), vs = [EV.int IntKind.u64 x0, EV.int IntKind.i64 x1, EV.int IntKind.i64 x2] ∧ H = []
 ·obtain ⟨x0, x1, x2, rfl, rfl⟩ := hx
  right; intro K
  exact exists_congr fun n => iff_of_eq (zbv.l3X.eq K n x0 x1 x2).symm
 ·left; intro K h
  simp only [zbv.l3.entry] at h
  split at h
  ·exact hx ⟨_, _, _, rfl, rfl⟩
  ·exact h
theorem X_zbv.eq (a0 : Int) (K : EV → Heap → Prop) : evFn E_zbv Tryd.f71 false [.int .u64 a0] [] K = zbv a0 (fun y0 => K (EV.int IntKind.i64 y0) []) := by
 rw [zbv.is]; exact (evFnQ_eq _ _ _ _ _ _).symm.trans (by kernel_rfl)
theorem X_zbv.ok : SoundE Tryd.prog gl 71 e_zbv := by
 refine fnOK (E := E_zbv) (fn := Tryd.f71) rfl tys_ok rfl (show AllL _ l_zbv from ⟨X_zbu.ok, trivial⟩) mixed (by kernel_rfl) (by kernel_rfl) (by kernel_rfl) 1 (by kernel_rfl) false ⟨zbv.l3X.ok, trivial⟩ ?_
 intro args H
 by_cases hx : ∃ (a0 : Int), args = [.int .u64 a0] ∧ H = []
 ·obtain ⟨a0, rfl, rfl⟩ := hx
  right; intro K
  exact iff_of_eq (X_zbv.eq a0 K).symm
 ·left; intro K h
  simp only [e_zbv] at h
  split at h
  ·exact hx ⟨_, rfl, rfl⟩
  ·exact h
noncomputable def e_zca : Entry := ⟨[none], false, fun args H K => match args, H with
 | [.str a0], [] => zca a0 (fun y0 => K (EV.int IntKind.i64 y0) [])
 | _, _ => False⟩
noncomputable def l_zca : List (Nat × Entry) := [(13, e_zcc), (71, e_zbv)]
noncomputable def E_zca : Env := ⟨look tys, look l_zca, look [], gl, lookL [], false⟩
theorem X_zca.eq (a0 : List UInt8) (K : EV → Heap → Prop) : evFn E_zca Tryd.f44 false [.str a0] [] K = zca a0 (fun y0 => K (EV.int IntKind.i64 y0) []) := by
 rw [zca.is]; exact (evFnQ_eq _ _ _ _ _ _).symm.trans (by kernel_rfl)
theorem X_zca.ok : SoundE Tryd.prog gl 44 e_zca := by
 refine fnOK (E := E_zca) (fn := Tryd.f44) rfl tys_ok rfl (show AllL _ l_zca from ⟨X_zcc.ok, X_zbv.ok, trivial⟩) mixed (by kernel_rfl) (by kernel_rfl) (by kernel_rfl) 0 (by kernel_rfl) false trivial ?_
 intro args H
 by_cases hx : ∃ (a0 : List UInt8), args = [.str a0] ∧ H = []
 ·obtain ⟨a0, rfl, rfl⟩ := hx
  right; intro K
  exact iff_of_eq (X_zca.eq a0 K).symm
 ·left; intro K h
  simp only [e_zca] at h
  split at h
  ·exact hx ⟨_, rfl, rfl⟩
  ·exact h
noncomputable def e_zch : Entry := ⟨[some .u8], false, fun args H K => match args, H with
 | [.rsI .u8 a0n a0], [] => zch a0n a0 (fun y0 => K (EV.str y0) [])
 | _, _ => False⟩
noncomputable def E_zch : Env := ⟨look tys, look [], look [(2, zch.l2.entry), (6, zch.l6.entry)], gl, lookL [], false⟩
theorem zch.l2X.stepEq (R : List EV → Heap → Prop) (K : Ex → List EV → Heap → Prop) (x0 : Nat) (x1 : Nat → Int) (x2 : Int) : loopStep (evCode E_zch (loopAt Tryd.f49 0) { (LV.mk 9 [(0, 9)] 4 0 false) with nx := live (.loop (loopAt Tryd.f49 0)) (LV.mk 9 [(0, 9)] 4 0 false) }) (live (.loop (loopAt Tryd.f49 0)) (LV.mk 9 [(0, 9)] 4 0 false)) (LV.mk 9 [(0, 9)] 4 0 false) 0 39 R [EV.rsI IntKind.u8 x0 x1, EV.int IntKind.i64 x2] [] K = zch.l2.step (fun x0 x1 x2 => R [EV.rsI IntKind.u8 x0 x1, EV.int IntKind.i64 x2] []) (fun y0 y1 y2 => K (.exit 0) [EV.rsI IntKind.u8 y0 y1, EV.int IntKind.i64 y2] []) x0 x1 x2 := (stepQ_eq _ _ _ _ _ _ _ _ _ _ _).symm.trans (by kernel_rfl)
theorem zch.l2X.eq (K : Ex → List EV → Heap → Prop) : ∀ (n : Nat) (x0 : Nat) (x1 : Nat → Int) (x2 : Int), loopE E_zch (loopAt Tryd.f49 0) (LV.mk 9 [(0, 9)] 4 0 false) 0 39 K n [EV.rsI IntKind.u8 x0 x1, EV.int IntKind.i64 x2] [] = zch.l2 (fun y0 y1 y2 => K (.exit 0) [EV.rsI IntKind.u8 y0 y1, EV.int IntKind.i64 y2] []) n x0 x1 x2
 | 0, _, _, _ => rfl
 | n + 1, x0, x1, x2 => by
  have ih : (fun (x0 : Nat) (x1 : Nat → Int) (x2 : Int) => loopE E_zch (loopAt Tryd.f49 0) (LV.mk 9 [(0, 9)] 4 0 false) 0 39 K n [EV.rsI IntKind.u8 x0 x1, EV.int IntKind.i64 x2] []) = zch.l2 (fun y0 y1 y2 => K (.exit 0) [EV.rsI IntKind.u8 y0 y1, EV.int IntKind.i64 y2] []) n := by funext x0 x1 x2; exact zch.l2X.eq K n x0 x1 x2
  show loopStep _ _ _ _ _ (loopE E_zch (loopAt Tryd.f49 0) (LV.mk 9 [(0, 9)] 4 0 false) 0 39 K n) [EV.rsI IntKind.u8 x0 x1, EV.int IntKind.i64 x2] [] K = zch.l2.step (zch.l2 (fun y0 y1 y2 => K (.exit 0) [EV.rsI IntKind.u8 y0 y1, EV.int IntKind.i64 y2] []) n) (fun y0 y1 y2 => K (.exit 0) [EV.rsI IntKind.u8 y0 y1, EV.int IntKind.i64 y2] []) x0 x1 x2
  rw [← ih]
  exact zch.l2X.stepEq _ K x0 x1 x2
theorem zch.l2X.ok : LoopEq E_zch (loopAt Tryd.f49 0) := by
 intro L hL vs H
 have h1 : E_zch.lp (firstRegion (loopAt Tryd.f49 0)) = some zch.l2.entry := by kernel_rfl
 have h2 : L = zch.l2.entry := Option.some.inj (hL.symm.trans h1)
 subst h2
 by_cases hx : ∃ (x0 : Nat) (x1 : Nat → Int) (x2 : Int), vs = [EV.rsI IntKind.u8 x0 x1, EV.int IntKind.i64 x2] ∧ H = []
 ·obtain ⟨x0, x1, x2, rfl, rfl⟩ := hx
  right; intro K
  exact exists_congr fun n => iff_of_eq (zch.l2X.eq K n x0 x1 x2).symm
 ·left; intro K h
  simp only [zch.l2.entry] at h
  split at h
  ·exact hx ⟨_, _, _, rfl, rfl⟩
  ·exact h
theorem zch.l6X.stepEq (R : List EV → Heap → Prop) (K : Ex → List EV → Heap → Prop) (x0 : Nat) (x1 : Nat → Int) (x2 : Int) (x3 : Nat) (x4 : Nat) (x5 : Int) (x6 : Nat) (x7 : Nat → Int) : loopStep (evCode E_zch (loopAt Tryd.f49 1) { (LV.mk 16 [(2, 16)] 4 0 false) with nx := live (.loop (loopAt Tryd.f49 1)) (LV.mk 16 [(2, 16)] 4 0 false) }) (live (.loop (loopAt Tryd.f49 1)) (LV.mk 16 [(2, 16)] 4 0 false)) (LV.mk 16 [(2, 16)] 4 0 false) 0 39 R [EV.rsI IntKind.u8 x0 x1, EV.int IntKind.i64 x2, EV.slice 0 0 x3 (some x4) 1, EV.int IntKind.i64 x5] [some (EV.arr IntKind.u8 x6 x7)] K = zch.l6.step (fun x0 x1 x2 x3 x4 x5 x6 x7 => R [EV.rsI IntKind.u8 x0 x1, EV.int IntKind.i64 x2, EV.slice 0 0 x3 (some x4) 1, EV.int IntKind.i64 x5] [some (EV.arr IntKind.u8 x6 x7)]) (fun y0 y1 y2 y3 => K (.exit 2) [EV.slice 0 0 y0 (some y1) 1] [some (EV.arr IntKind.u8 y2 y3)]) x0 x1 x2 x3 x4 x5 x6 x7 := (stepQ_eq _ _ _ _ _ _ _ _ _ _ _).symm.trans (by kernel_rfl)
theorem zch.l6X.eq (K : Ex → List EV → Heap → Prop) : ∀ (n : Nat) (x0 : Nat) (x1 : Nat → Int) (x2 : Int) (x3 : Nat) (x4 : Nat) (x5 : Int) (x6 : Nat) (x7 : Nat → Int), loopE E_zch (loopAt Tryd.f49 1) (LV.mk 16 [(2, 16)] 4 0 false) 0 39 K n [EV.rsI IntKind.u8 x0 x1, EV.int IntKind.i64 x2, EV.slice 0 0 x3 (some x4) 1, EV.int IntKind.i64 x5] [some (EV.arr IntKind.u8 x6 x7)] = zch.l6 (fun y0 y1 y2 y3 => K (.exit 2) [EV.slice 0 0 y0 (some y1) 1] [some (EV.arr IntKind.u8 y2 y3)]) n x0 x1 x2 x3 x4 x5 x6 x7
 | 0, _, _, _, _, _, _, _, _ => rfl
 | n + 1, x0, x1, x2, x3, x4, x5, x6, x7 => by
  have ih : (fun (x0 : Nat) (x1 : Nat → Int) (x2 : Int) (x3 : Nat) (x4 : Nat) (x5 : Int) (x6 : Nat) (x7 : Nat → Int) => loopE E_zch (loopAt Tryd.f49 1) (LV.mk 16 [(2, 16)] 4 0 false) 0 39 K n [EV.rsI IntKind.u8 x0 x1, EV.int IntKind.i64 x2, EV.slice 0 0 x3 (some x4) 1, EV.int IntKind.i64 x5] [some (EV.arr IntKind.u8 x6 x7)]) = zch.l6 (fun y0 y1 y2 y3 => K (.exit 2) [EV.slice 0 0 y0 (some y1) 1] [some (EV.arr IntKind.u8 y2 y3)]) n := by funext x0 x1 x2 x3 x4 x5 x6 x7; exact zch.l6X.eq K n x0 x1 x2 x3 x4 x5 x6 x7
  show loopStep _ _ _ _ _ (loopE E_zch (loopAt Tryd.f49 1) (LV.mk 16 [(2, 16)] 4 0 false) 0 39 K n) [EV.rsI IntKind.u8 x0 x1, EV.int IntKind.i64 x2, EV.slice 0 0 x3 (some x4) 1, EV.int IntKind.i64 x5] [some (EV.arr IntKind.u8 x6 x7)] K = zch.l6.step (zch.l6 (fun y0 y1 y2 y3 => K (.exit 2) [EV.slice 0 0 y0 (some y1) 1] [some (EV.arr IntKind.u8 y2 y3)]) n) (fun y0 y1 y2 y3 => K (.exit 2) [EV.slice 0 0 y0 (some y1) 1] [some (EV.arr IntKind.u8 y2 y3)]) x0 x1 x2 x3 x4 x5 x6 x7
  rw [← ih]
  exact zch.l6X.stepEq _ K x0 x1 x2 x3 x4 x5 x6 x7
theorem zch.l6X.ok : LoopEq E_zch (loopAt Tryd.f49 1) := by
 intro L hL vs H
 have h1 : E_zch.lp (firstRegion (loopAt Tryd.f49 1)) = some zch.l6.entry := by kernel_rfl
 have h2 : L = zch.l6.entry := Option.some.inj (hL.symm.trans h1)
 subst h2
 by_cases hx : ∃ (x0 : Nat) (x1 : Nat → Int) (x2 : Int) (x3 : Nat) (x4 : Nat) (x5 : Int) (x6 : Nat) (x7 : Nat → Int), vs = [EV.rsI IntKind.u8 x0 x1, EV.int IntKind.i64 x2, EV.slice 0 0 x3 (some x4) 1, EV.int IntKind.i64 x5] ∧ H = [some (EV.arr IntKind.u8 x6 x7)]
 ·obtain ⟨x0, x1, x2, x3, x4, x5, x6, x7, rfl, rfl⟩ := hx
  right; intro K
  exact exists_congr fun n => iff_of_eq (zch.l6X.eq K n x0 x1 x2 x3 x4 x5 x6 x7).symm
 ·left; intro K h
  simp only [zch.l6.entry] at h
  split at h
  ·exact hx ⟨_, _, _, _, _, _, _, _, rfl, rfl⟩
  ·exact h
theorem X_zch.eq (a0n : Nat) (a0 : Nat → Int) (K : EV → Heap → Prop) : evFn E_zch Tryd.f49 false [.rsI .u8 a0n a0] [] K = zch a0n a0 (fun y0 => K (EV.str y0) []) := by
 rw [zch.is]; exact (evFnQ_eq _ _ _ _ _ _).symm.trans (by kernel_rfl)
theorem X_zch.ok : SoundE Tryd.prog gl 49 e_zch := by
 refine fnOK (E := E_zch) (fn := Tryd.f49) rfl tys_ok rfl (show AllL _ [] from trivial) mixed (by kernel_rfl) (by kernel_rfl) (by kernel_rfl) 2 (by kernel_rfl) false ⟨zch.l2X.ok, zch.l6X.ok, trivial⟩ ?_
 intro args H
 by_cases hx : ∃ (a0n : Nat) (a0 : Nat → Int), args = [.rsI .u8 a0n a0] ∧ H = []
 ·obtain ⟨a0n, a0, rfl, rfl⟩ := hx
  right; intro K
  exact iff_of_eq (X_zch.eq a0n a0 K).symm
 ·left; intro K h
  simp only [e_zch] at h
  split at h
  ·exact hx ⟨_, _, rfl, rfl⟩
  ·exact h
noncomputable def e_zce : Entry := ⟨[none, none], false, fun args H K => match args, H with
 | [.str a0, .int .i64 a1], [] => zce a0 a1 (fun y0 => K (EV.int IntKind.i64 y0) [])
 | _, _ => False⟩
noncomputable def E_zce : Env := ⟨look tys, look [], look [], gl, lookL [], false⟩
theorem X_zce.eq (a0 : List UInt8) (a1 : Int) (K : EV → Heap → Prop) : evFn E_zce Tryd.f73 false [.str a0, .int .i64 a1] [] K = zce a0 a1 (fun y0 => K (EV.int IntKind.i64 y0) []) := by
 rw [zce.is]; exact (evFnQ_eq _ _ _ _ _ _).symm.trans (by kernel_rfl)
theorem X_zce.ok : SoundE Tryd.prog gl 73 e_zce := by
 refine fnOK (E := E_zce) (fn := Tryd.f73) rfl tys_ok rfl (show AllL _ [] from trivial) mixed (by kernel_rfl) (by kernel_rfl) (by kernel_rfl) 0 (by kernel_rfl) false trivial ?_
 intro args H
 by_cases hx : ∃ (a0 : List UInt8) (a1 : Int), args = [.str a0, .int .i64 a1] ∧ H = []
 ·obtain ⟨a0, a1, rfl, rfl⟩ := hx
  right; intro K
  exact iff_of_eq (X_zce.eq a0 a1 K).symm
 ·left; intro K h
  simp only [e_zce] at h
  split at h
  ·exact hx ⟨_, _, rfl, rfl⟩
  ·exact h
noncomputable def e_zbw : Entry := ⟨[none], false, fun args H K => match args, H with
 | [.int .u64 a0], [] => zbw a0 (fun y0 => K (EV.int IntKind.i64 y0) [])
 | _, _ => False⟩
noncomputable def l_zbw : List (Nat × Entry) := [(93, e_zbu)]
noncomputable def E_zbw : Env := ⟨look tys, look l_zbw, look [(2, zbw.l2.entry)], gl, lookL [], false⟩
theorem zbw.l2X.stepEq (R : List EV → Heap → Prop) (K : Ex → List EV → Heap → Prop) (x0 : Int) (x1 : Int) : loopStep (evCode E_zbw (loopAt Tryd.f94 0) { (LV.mk 0 [(0, 0)] 4 0 false) with nx := live (.loop (loopAt Tryd.f94 0)) (LV.mk 0 [(0, 0)] 4 0 false) }) (live (.loop (loopAt Tryd.f94 0)) (LV.mk 0 [(0, 0)] 4 0 false)) (LV.mk 0 [(0, 0)] 4 0 false) 0 12 R [EV.int IntKind.u64 x0, EV.int IntKind.i64 x1] [] K = zbw.l2.step (fun x0 x1 => R [EV.int IntKind.u64 x0, EV.int IntKind.i64 x1] []) (fun y0 => K .ret [EV.int IntKind.i64 y0] []) (K (.exit 0) [] []) x0 x1 := (stepQ_eq _ _ _ _ _ _ _ _ _ _ _).symm.trans (by kernel_rfl)
theorem zbw.l2X.eq (K : Ex → List EV → Heap → Prop) : ∀ (n : Nat) (x0 : Int) (x1 : Int), loopE E_zbw (loopAt Tryd.f94 0) (LV.mk 0 [(0, 0)] 4 0 false) 0 12 K n [EV.int IntKind.u64 x0, EV.int IntKind.i64 x1] [] = zbw.l2 (fun y0 => K .ret [EV.int IntKind.i64 y0] []) (K (.exit 0) [] []) n x0 x1
 | 0, _, _ => rfl
 | n + 1, x0, x1 => by
  have ih : (fun (x0 : Int) (x1 : Int) => loopE E_zbw (loopAt Tryd.f94 0) (LV.mk 0 [(0, 0)] 4 0 false) 0 12 K n [EV.int IntKind.u64 x0, EV.int IntKind.i64 x1] []) = zbw.l2 (fun y0 => K .ret [EV.int IntKind.i64 y0] []) (K (.exit 0) [] []) n := by funext x0 x1; exact zbw.l2X.eq K n x0 x1
  show loopStep _ _ _ _ _ (loopE E_zbw (loopAt Tryd.f94 0) (LV.mk 0 [(0, 0)] 4 0 false) 0 12 K n) [EV.int IntKind.u64 x0, EV.int IntKind.i64 x1] [] K = zbw.l2.step (zbw.l2 (fun y0 => K .ret [EV.int IntKind.i64 y0] []) (K (.exit 0) [] []) n) (fun y0 => K .ret [EV.int IntKind.i64 y0] []) (K (.exit 0) [] []) x0 x1
  rw [← ih]
  exact zbw.l2X.stepEq _ K x0 x1
theorem zbw.l2X.ok : LoopEq E_zbw (loopAt Tryd.f94 0) := by
 intro L hL vs H
 have h1 : E_zbw.lp (firstRegion (loopAt Tryd.f94 0)) = some zbw.l2.entry := by kernel_rfl
 have h2 : L = zbw.l2.entry := Option.some.inj (hL.symm.trans h1)
 subst h2
 by_cases hx : ∃ (x0 : Int) (x1 : Int), vs = [EV.int IntKind.u64 x0, EV.int IntKind.i64 x1] ∧ H = []
 ·obtain ⟨x0, x1, rfl, rfl⟩ := hx
  right; intro K
  exact exists_congr fun n => iff_of_eq (zbw.l2X.eq K n x0 x1).symm
 ·left; intro K h
  simp only [zbw.l2.entry] at h
  split at h
  ·exact hx ⟨_, _, rfl, rfl⟩
  ·exact h
theorem X_zbw.eq (a0 : Int) (K : EV → Heap → Prop) : evFn E_zbw Tryd.f94 false [.int .u64 a0] [] K = zbw a0 (fun y0 => K (EV.int IntKind.i64 y0) []) := by
 rw [zbw.is]; exact (evFnQ_eq _ _ _ _ _ _).symm.trans (by kernel_rfl)
theorem X_zbw.ok : SoundE Tryd.prog gl 94 e_zbw := by
 refine fnOK (E := E_zbw) (fn := Tryd.f94) rfl tys_ok rfl (show AllL _ l_zbw from ⟨X_zbu.ok, trivial⟩) mixed (by kernel_rfl) (by kernel_rfl) (by kernel_rfl) 1 (by kernel_rfl) false ⟨zbw.l2X.ok, trivial⟩ ?_
 intro args H
 by_cases hx : ∃ (a0 : Int), args = [.int .u64 a0] ∧ H = []
 ·obtain ⟨a0, rfl, rfl⟩ := hx
  right; intro K
  exact iff_of_eq (X_zbw.eq a0 K).symm
 ·left; intro K h
  simp only [e_zbw] at h
  split at h
  ·exact hx ⟨_, rfl, rfl⟩
  ·exact h
noncomputable def e_zcb : Entry := ⟨[none], false, fun args H K => match args, H with
 | [.str a0], [] => zcb a0 (fun y0 => K (EV.int IntKind.i64 y0) [])
 | _, _ => False⟩
noncomputable def l_zcb : List (Nat × Entry) := [(13, e_zcc), (73, e_zce), (94, e_zbw)]
noncomputable def E_zcb : Env := ⟨look tys, look l_zcb, look [(4, zcb.l4.entry)], gl, lookL [], false⟩
theorem zcb.l4X.stepEq (R : List EV → Heap → Prop) (K : Ex → List EV → Heap → Prop) (x0 : List UInt8) (x1 : Int) : loopStep (evCode E_zcb (loopAt Tryd.f72 0) { (LV.mk 0 [(0, 0)] 4 0 false) with nx := live (.loop (loopAt Tryd.f72 0)) (LV.mk 0 [(0, 0)] 4 0 false) }) (live (.loop (loopAt Tryd.f72 0)) (LV.mk 0 [(0, 0)] 4 0 false)) (LV.mk 0 [(0, 0)] 4 0 false) 0 25 R [EV.str x0, EV.int IntKind.i64 x1] [] K = zcb.l4.step (fun x0 x1 => R [EV.str x0, EV.int IntKind.i64 x1] []) (fun y0 => K .ret [EV.int IntKind.i64 y0] []) (K (.exit 0) [] []) x0 x1 := (stepQ_eq _ _ _ _ _ _ _ _ _ _ _).symm.trans (by kernel_rfl)
theorem zcb.l4X.eq (K : Ex → List EV → Heap → Prop) : ∀ (n : Nat) (x0 : List UInt8) (x1 : Int), loopE E_zcb (loopAt Tryd.f72 0) (LV.mk 0 [(0, 0)] 4 0 false) 0 25 K n [EV.str x0, EV.int IntKind.i64 x1] [] = zcb.l4 (fun y0 => K .ret [EV.int IntKind.i64 y0] []) (K (.exit 0) [] []) n x0 x1
 | 0, _, _ => rfl
 | n + 1, x0, x1 => by
  have ih : (fun (x0 : List UInt8) (x1 : Int) => loopE E_zcb (loopAt Tryd.f72 0) (LV.mk 0 [(0, 0)] 4 0 false) 0 25 K n [EV.str x0, EV.int IntKind.i64 x1] []) = zcb.l4 (fun y0 => K .ret [EV.int IntKind.i64 y0] []) (K (.exit 0) [] []) n := by funext x0 x1; exact zcb.l4X.eq K n x0 x1
  show loopStep _ _ _ _ _ (loopE E_zcb (loopAt Tryd.f72 0) (LV.mk 0 [(0, 0)] 4 0 false) 0 25 K n) [EV.str x0, EV.int IntKind.i64 x1] [] K = zcb.l4.step (zcb.l4 (fun y0 => K .ret [EV.int IntKind.i64 y0] []) (K (.exit 0) [] []) n) (fun y0 => K .ret [EV.int IntKind.i64 y0] []) (K (.exit 0) [] []) x0 x1
  rw [← ih]
  exact zcb.l4X.stepEq _ K x0 x1
theorem zcb.l4X.ok : LoopEq E_zcb (loopAt Tryd.f72 0) := by
 intro L hL vs H
 have h1 : E_zcb.lp (firstRegion (loopAt Tryd.f72 0)) = some zcb.l4.entry := by kernel_rfl
 have h2 : L = zcb.l4.entry := Option.some.inj (hL.symm.trans h1)
 subst h2
 by_cases hx : ∃ (x0 : List UInt8) (x1 : Int), vs = [EV.str x0, EV.int IntKind.i64 x1] ∧ H = []
 ·obtain ⟨x0, x1, rfl, rfl⟩ := hx
  right; intro K
  exact exists_congr fun n => iff_of_eq (zcb.l4X.eq K n x0 x1).symm
 ·left; intro K h
  simp only [zcb.l4.entry] at h
  split at h
  ·exact hx ⟨_, _, rfl, rfl⟩
  ·exact h
theorem X_zcb.eq (a0 : List UInt8) (K : EV → Heap → Prop) : evFn E_zcb Tryd.f72 false [.str a0] [] K = zcb a0 (fun y0 => K (EV.int IntKind.i64 y0) []) := by
 rw [zcb.is]; exact (evFnQ_eq _ _ _ _ _ _).symm.trans (by kernel_rfl)
theorem X_zcb.ok : SoundE Tryd.prog gl 72 e_zcb := by
 refine fnOK (E := E_zcb) (fn := Tryd.f72) rfl tys_ok rfl (show AllL _ l_zcb from ⟨X_zcc.ok, X_zce.ok, X_zbw.ok, trivial⟩) mixed (by kernel_rfl) (by kernel_rfl) (by kernel_rfl) 1 (by kernel_rfl) false ⟨zcb.l4X.ok, trivial⟩ ?_
 intro args H
 by_cases hx : ∃ (a0 : List UInt8), args = [.str a0] ∧ H = []
 ·obtain ⟨a0, rfl, rfl⟩ := hx
  right; intro K
  exact iff_of_eq (X_zcb.eq a0 K).symm
 ·left; intro K h
  simp only [e_zcb] at h
  split at h
  ·exact hx ⟨_, rfl, rfl⟩
  ·exact h
noncomputable def e_zcd : Entry := ⟨[none, none], false, fun args H K => match args, H with
 | [.str a0, .int .i64 a1], [] => zcd a0 a1 (fun y0 y1 y2 => K (EV.tuple [EV.str y0, EV.bool y1, EV.int IntKind.i64 y2]) [])
 | _, _ => False⟩
noncomputable def l_zcd : List (Nat × Entry) := [(49, e_zch), (72, e_zcb), (73, e_zce)]
noncomputable def E_zcd : Env := ⟨look tys, look l_zcd, look [(11, zcd.l11.entry)], gl, lookL [], false⟩
theorem zcd.l11X.stepEq (R : List EV → Heap → Prop) (K : Ex → List EV → Heap → Prop) (x0 : List UInt8) (x1 : Int) (x2 : Bool) (x3 : Int) (x4 : Nat) (x5 : Nat) (x6 : Int) (x7 : Nat) (x8 : Nat → Int) : loopStep (evCode E_zcd (loopAt Tryd.f45 0) { (LV.mk 640 [(0, 640)] 112 0 false) with nx := live (.loop (loopAt Tryd.f45 0)) (LV.mk 640 [(0, 640)] 112 0 false) }) (live (.loop (loopAt Tryd.f45 0)) (LV.mk 640 [(0, 640)] 112 0 false)) (LV.mk 640 [(0, 640)] 112 0 false) 0 65 R [EV.str x0, EV.int IntKind.i64 x1, EV.bool x2, EV.int IntKind.i64 x3, EV.slice 0 0 x4 (some x5) 1, EV.int IntKind.i64 x6] [some (EV.arr IntKind.u8 x7 x8)] K = zcd.l11.step (fun x0 x1 x2 x3 x4 x5 x6 x7 x8 => R [EV.str x0, EV.int IntKind.i64 x1, EV.bool x2, EV.int IntKind.i64 x3, EV.slice 0 0 x4 (some x5) 1, EV.int IntKind.i64 x6] [some (EV.arr IntKind.u8 x7 x8)]) (fun y0 y1 y2 y3 y4 => K (.exit 0) [EV.bool y0, EV.slice 0 0 y1 (some y2) 1] [some (EV.arr IntKind.u8 y3 y4)]) x0 x1 x2 x3 x4 x5 x6 x7 x8 := (stepQ_eq _ _ _ _ _ _ _ _ _ _ _).symm.trans (by kernel_rfl)
theorem zcd.l11X.eq (K : Ex → List EV → Heap → Prop) : ∀ (n : Nat) (x0 : List UInt8) (x1 : Int) (x2 : Bool) (x3 : Int) (x4 : Nat) (x5 : Nat) (x6 : Int) (x7 : Nat) (x8 : Nat → Int), loopE E_zcd (loopAt Tryd.f45 0) (LV.mk 640 [(0, 640)] 112 0 false) 0 65 K n [EV.str x0, EV.int IntKind.i64 x1, EV.bool x2, EV.int IntKind.i64 x3, EV.slice 0 0 x4 (some x5) 1, EV.int IntKind.i64 x6] [some (EV.arr IntKind.u8 x7 x8)] = zcd.l11 (fun y0 y1 y2 y3 y4 => K (.exit 0) [EV.bool y0, EV.slice 0 0 y1 (some y2) 1] [some (EV.arr IntKind.u8 y3 y4)]) n x0 x1 x2 x3 x4 x5 x6 x7 x8
 | 0, _, _, _, _, _, _, _, _, _ => rfl
 | n + 1, x0, x1, x2, x3, x4, x5, x6, x7, x8 => by
  have ih : (fun (x0 : List UInt8) (x1 : Int) (x2 : Bool) (x3 : Int) (x4 : Nat) (x5 : Nat) (x6 : Int) (x7 : Nat) (x8 : Nat → Int) => loopE E_zcd (loopAt Tryd.f45 0) (LV.mk 640 [(0, 640)] 112 0 false) 0 65 K n [EV.str x0, EV.int IntKind.i64 x1, EV.bool x2, EV.int IntKind.i64 x3, EV.slice 0 0 x4 (some x5) 1, EV.int IntKind.i64 x6] [some (EV.arr IntKind.u8 x7 x8)]) = zcd.l11 (fun y0 y1 y2 y3 y4 => K (.exit 0) [EV.bool y0, EV.slice 0 0 y1 (some y2) 1] [some (EV.arr IntKind.u8 y3 y4)]) n := by funext x0 x1 x2 x3 x4 x5 x6 x7 x8; exact zcd.l11X.eq K n x0 x1 x2 x3 x4 x5 x6 x7 x8
  show loopStep _ _ _ _ _ (loopE E_zcd (loopAt Tryd.f45 0) (LV.mk 640 [(0, 640)] 112 0 false) 0 65 K n) [EV.str x0, EV.int IntKind.i64 x1, EV.bool x2, EV.int IntKind.i64 x3, EV.slice 0 0 x4 (some x5) 1, EV.int IntKind.i64 x6] [some (EV.arr IntKind.u8 x7 x8)] K = zcd.l11.step (zcd.l11 (fun y0 y1 y2 y3 y4 => K (.exit 0) [EV.bool y0, EV.slice 0 0 y1 (some y2) 1] [some (EV.arr IntKind.u8 y3 y4)]) n) (fun y0 y1 y2 y3 y4 => K (.exit 0) [EV.bool y0, EV.slice 0 0 y1 (some y2) 1] [some (EV.arr IntKind.u8 y3 y4)]) x0 x1 x2 x3 x4 x5 x6 x7 x8
  rw [← ih]
  exact zcd.l11X.stepEq _ K x0 x1 x2 x3 x4 x5 x6 x7 x8
theorem zcd.l11X.ok : LoopEq E_zcd (loopAt Tryd.f45 0) := by
 intro L hL vs H
 have h1 : E_zcd.lp (firstRegion (loopAt Tryd.f45 0)) = some zcd.l11.entry := by kernel_rfl
 have h2 : L = zcd.l11.entry := Option.some.inj (hL.symm.trans h1)
 subst h2
 by_cases hx : ∃ (x0 : List UInt8) (x1 : Int) (x2 : Bool) (x3 : Int) (x4 : Nat) (x5 : Nat) (x6 : Int) (x7 : Nat) (x8 : Nat → Int), vs = [EV.str x0, EV.int IntKind.i64 x1, EV.bool x2, EV.int IntKind.i64 x3, EV.slice 0 0 x4 (some x5) 1, EV.int IntKind.i64 x6] ∧ H = [some (EV.arr IntKind.u8 x7 x8)]
 ·obtain ⟨x0, x1, x2, x3, x4, x5, x6, x7, x8, rfl, rfl⟩ := hx
  right; intro K
  exact exists_congr fun n => iff_of_eq (zcd.l11X.eq K n x0 x1 x2 x3 x4 x5 x6 x7 x8).symm
 ·left; intro K h
  simp only [zcd.l11.entry] at h
  split at h
  ·exact hx ⟨_, _, _, _, _, _, _, _, _, rfl, rfl⟩
  ·exact h
theorem X_zcd.eq (a0 : List UInt8) (a1 : Int) (K : EV → Heap → Prop) : evFn E_zcd Tryd.f45 false [.str a0, .int .i64 a1] [] K = zcd a0 a1 (fun y0 y1 y2 => K (EV.tuple [EV.str y0, EV.bool y1, EV.int IntKind.i64 y2]) []) := by
 rw [zcd.is]; exact (evFnQ_eq _ _ _ _ _ _).symm.trans (by kernel_rfl)
theorem X_zcd.ok : SoundE Tryd.prog gl 45 e_zcd := by
 refine fnOK (E := E_zcd) (fn := Tryd.f45) rfl tys_ok rfl (show AllL _ l_zcd from ⟨X_zch.ok, X_zcb.ok, X_zce.ok, trivial⟩) mixed (by kernel_rfl) (by kernel_rfl) (by kernel_rfl) 1 (by kernel_rfl) false ⟨zcd.l11X.ok, trivial⟩ ?_
 intro args H
 by_cases hx : ∃ (a0 : List UInt8) (a1 : Int), args = [.str a0, .int .i64 a1] ∧ H = []
 ·obtain ⟨a0, a1, rfl, rfl⟩ := hx
  right; intro K
  exact iff_of_eq (X_zcd.eq a0 a1 K).symm
 ·left; intro K h
  simp only [e_zcd] at h
  split at h
  ·exact hx ⟨_, _, rfl, rfl⟩
  ·exact h
noncomputable def e_zcg : Entry := ⟨[none, none], false, fun args H K => match args, H with
 | [.str a0, .int .i64 a1], [] => zcg a0 a1 (fun y0 => K (EV.str y0) [])
 | _, _ => False⟩
noncomputable def l_zcg : List (Nat × Entry) := [(49, e_zch), (73, e_zce)]
noncomputable def E_zcg : Env := ⟨look tys, look l_zcg, look [(4, zcg.l4.entry)], gl, lookL [], false⟩
theorem zcg.l4X.stepEq (R : List EV → Heap → Prop) (K : Ex → List EV → Heap → Prop) (x0 : List UInt8) (x1 : Nat) (x2 : Nat) (x3 : Int) (x4 : Int) (x5 : Nat) (x6 : Nat → Int) : loopStep (evCode E_zcg (loopAt Tryd.f46 0) { (LV.mk 32 [(0, 32)] 16 0 false) with nx := live (.loop (loopAt Tryd.f46 0)) (LV.mk 32 [(0, 32)] 16 0 false) }) (live (.loop (loopAt Tryd.f46 0)) (LV.mk 32 [(0, 32)] 16 0 false)) (LV.mk 32 [(0, 32)] 16 0 false) 0 34 R [EV.str x0, EV.slice 0 0 x1 (some x2) 1, EV.int IntKind.i64 x3, EV.int IntKind.i64 x4] [some (EV.arr IntKind.u8 x5 x6)] K = zcg.l4.step (fun x0 x1 x2 x3 x4 x5 x6 => R [EV.str x0, EV.slice 0 0 x1 (some x2) 1, EV.int IntKind.i64 x3, EV.int IntKind.i64 x4] [some (EV.arr IntKind.u8 x5 x6)]) (fun y0 y1 y2 y3 => K (.exit 0) [EV.slice 0 0 y0 (some y1) 1] [some (EV.arr IntKind.u8 y2 y3)]) x0 x1 x2 x3 x4 x5 x6 := (stepQ_eq _ _ _ _ _ _ _ _ _ _ _).symm.trans (by kernel_rfl)
theorem zcg.l4X.eq (K : Ex → List EV → Heap → Prop) : ∀ (n : Nat) (x0 : List UInt8) (x1 : Nat) (x2 : Nat) (x3 : Int) (x4 : Int) (x5 : Nat) (x6 : Nat → Int), loopE E_zcg (loopAt Tryd.f46 0) (LV.mk 32 [(0, 32)] 16 0 false) 0 34 K n [EV.str x0, EV.slice 0 0 x1 (some x2) 1, EV.int IntKind.i64 x3, EV.int IntKind.i64 x4] [some (EV.arr IntKind.u8 x5 x6)] = zcg.l4 (fun y0 y1 y2 y3 => K (.exit 0) [EV.slice 0 0 y0 (some y1) 1] [some (EV.arr IntKind.u8 y2 y3)]) n x0 x1 x2 x3 x4 x5 x6
 | 0, _, _, _, _, _, _, _ => rfl
 | n + 1, x0, x1, x2, x3, x4, x5, x6 => by
  have ih : (fun (x0 : List UInt8) (x1 : Nat) (x2 : Nat) (x3 : Int) (x4 : Int) (x5 : Nat) (x6 : Nat → Int) => loopE E_zcg (loopAt Tryd.f46 0) (LV.mk 32 [(0, 32)] 16 0 false) 0 34 K n [EV.str x0, EV.slice 0 0 x1 (some x2) 1, EV.int IntKind.i64 x3, EV.int IntKind.i64 x4] [some (EV.arr IntKind.u8 x5 x6)]) = zcg.l4 (fun y0 y1 y2 y3 => K (.exit 0) [EV.slice 0 0 y0 (some y1) 1] [some (EV.arr IntKind.u8 y2 y3)]) n := by funext x0 x1 x2 x3 x4 x5 x6; exact zcg.l4X.eq K n x0 x1 x2 x3 x4 x5 x6
  show loopStep _ _ _ _ _ (loopE E_zcg (loopAt Tryd.f46 0) (LV.mk 32 [(0, 32)] 16 0 false) 0 34 K n) [EV.str x0, EV.slice 0 0 x1 (some x2) 1, EV.int IntKind.i64 x3, EV.int IntKind.i64 x4] [some (EV.arr IntKind.u8 x5 x6)] K = zcg.l4.step (zcg.l4 (fun y0 y1 y2 y3 => K (.exit 0) [EV.slice 0 0 y0 (some y1) 1] [some (EV.arr IntKind.u8 y2 y3)]) n) (fun y0 y1 y2 y3 => K (.exit 0) [EV.slice 0 0 y0 (some y1) 1] [some (EV.arr IntKind.u8 y2 y3)]) x0 x1 x2 x3 x4 x5 x6
  rw [← ih]
  exact zcg.l4X.stepEq _ K x0 x1 x2 x3 x4 x5 x6
theorem zcg.l4X.ok : LoopEq E_zcg (loopAt Tryd.f46 0) := by
 intro L hL vs H
 have h1 : E_zcg.lp (firstRegion (loopAt Tryd.f46 0)) = some zcg.l4.entry := by kernel_rfl
 have h2 : L = zcg.l4.entry := Option.some.inj (hL.symm.trans h1)
 subst h2
 by_cases hx : ∃ (x0 : List UInt8) (x1 : Nat) (x2 : Nat) (x3 : Int) (x4 : Int) (x5 : Nat) (x6 : Nat → Int), vs = [EV.str x0, EV.slice 0 0 x1 (some x2) 1, EV.int IntKind.i64 x3, EV.int IntKind.i64 x4] ∧ H = [some (EV.arr IntKind.u8 x5 x6)]
 ·obtain ⟨x0, x1, x2, x3, x4, x5, x6, rfl, rfl⟩ := hx
  right; intro K
  exact exists_congr fun n => iff_of_eq (zcg.l4X.eq K n x0 x1 x2 x3 x4 x5 x6).symm
 ·left; intro K h
  simp only [zcg.l4.entry] at h
  split at h
  ·exact hx ⟨_, _, _, _, _, _, _, rfl, rfl⟩
  ·exact h
theorem X_zcg.eq (a0 : List UInt8) (a1 : Int) (K : EV → Heap → Prop) : evFn E_zcg Tryd.f46 false [.str a0, .int .i64 a1] [] K = zcg a0 a1 (fun y0 => K (EV.str y0) []) := by
 rw [zcg.is]; exact (evFnQ_eq _ _ _ _ _ _).symm.trans (by kernel_rfl)
theorem X_zcg.ok : SoundE Tryd.prog gl 46 e_zcg := by
 refine fnOK (E := E_zcg) (fn := Tryd.f46) rfl tys_ok rfl (show AllL _ l_zcg from ⟨X_zch.ok, X_zce.ok, trivial⟩) mixed (by kernel_rfl) (by kernel_rfl) (by kernel_rfl) 1 (by kernel_rfl) false ⟨zcg.l4X.ok, trivial⟩ ?_
 intro args H
 by_cases hx : ∃ (a0 : List UInt8) (a1 : Int), args = [.str a0, .int .i64 a1] ∧ H = []
 ·obtain ⟨a0, a1, rfl, rfl⟩ := hx
  right; intro K
  exact iff_of_eq (X_zcg.eq a0 a1 K).symm
 ·left; intro K h
  simp only [e_zcg] at h
  split at h
  ·exact hx ⟨_, _, rfl, rfl⟩
  ·exact h
noncomputable def e_zcf : Entry := ⟨[none, none], false, fun args H K => match args, H with
 | [.str a0, .int .i64 a1], [] => zcf a0 a1 (fun y0 => K (EV.int IntKind.i64 y0) [])
 | _, _ => False⟩
noncomputable def l_zcf : List (Nat × Entry) := [(73, e_zce)]
noncomputable def E_zcf : Env := ⟨look tys, look l_zcf, look [], gl, lookL [], false⟩
theorem X_zcf.eq (a0 : List UInt8) (a1 : Int) (K : EV → Heap → Prop) : evFn E_zcf Tryd.f47 false [.str a0, .int .i64 a1] [] K = zcf a0 a1 (fun y0 => K (EV.int IntKind.i64 y0) []) := by
 rw [zcf.is]; exact (evFnQ_eq _ _ _ _ _ _).symm.trans (by kernel_rfl)
theorem X_zcf.ok : SoundE Tryd.prog gl 47 e_zcf := by
 refine fnOK (E := E_zcf) (fn := Tryd.f47) rfl tys_ok rfl (show AllL _ l_zcf from ⟨X_zce.ok, trivial⟩) mixed (by kernel_rfl) (by kernel_rfl) (by kernel_rfl) 0 (by kernel_rfl) false trivial ?_
 intro args H
 by_cases hx : ∃ (a0 : List UInt8) (a1 : Int), args = [.str a0, .int .i64 a1] ∧ H = []
 ·obtain ⟨a0, a1, rfl, rfl⟩ := hx
  right; intro K
  exact iff_of_eq (X_zcf.eq a0 a1 K).symm
 ·left; intro K h
  simp only [e_zcf] at h
  split at h
  ·exact hx ⟨_, _, rfl, rfl⟩
  ·exact h
noncomputable def e_zci : Entry := ⟨[none, none], false, fun args H K => match args, H with
 | [.str a0, .str a1], [] => zci a0 a1 (fun y0 => K (EV.str y0) [])
 | _, _ => False⟩
noncomputable def l_zci : List (Nat × Entry) := [(49, e_zch), (73, e_zce)]
noncomputable def E_zci : Env := ⟨look tys, look l_zci, look [(4, zci.l4.entry)], gl, lookL [], false⟩
theorem zci.l4X.stepEq (R : List EV → Heap → Prop) (K : Ex → List EV → Heap → Prop) (x0 : List UInt8) (x1 : List UInt8) (x2 : Nat) (x3 : Nat) (x4 : Int) (x5 : Int) (x6 : Nat) (x7 : Nat → Int) : loopStep (evCode E_zci (loopAt Tryd.f48 0) { (LV.mk 32 [(0, 32)] 16 0 false) with nx := live (.loop (loopAt Tryd.f48 0)) (LV.mk 32 [(0, 32)] 16 0 false) }) (live (.loop (loopAt Tryd.f48 0)) (LV.mk 32 [(0, 32)] 16 0 false)) (LV.mk 32 [(0, 32)] 16 0 false) 0 35 R [EV.str x0, EV.str x1, EV.slice 0 0 x2 (some x3) 1, EV.int IntKind.i64 x4, EV.int IntKind.i64 x5] [some (EV.arr IntKind.u8 x6 x7)] K = zci.l4.step (fun x0 x1 x2 x3 x4 x5 x6 x7 => R [EV.str x0, EV.str x1, EV.slice 0 0 x2 (some x3) 1, EV.int IntKind.i64 x4, EV.int IntKind.i64 x5] [some (EV.arr IntKind.u8 x6 x7)]) (fun y0 y1 y2 y3 => K (.exit 0) [EV.slice 0 0 y0 (some y1) 1] [some (EV.arr IntKind.u8 y2 y3)]) x0 x1 x2 x3 x4 x5 x6 x7 := (stepQ_eq _ _ _ _ _ _ _ _ _ _ _).symm.trans (by kernel_rfl)
theorem zci.l4X.eq (K : Ex → List EV → Heap → Prop) : ∀ (n : Nat) (x0 : List UInt8) (x1 : List UInt8) (x2 : Nat) (x3 : Nat) (x4 : Int) (x5 : Int) (x6 : Nat) (x7 : Nat → Int), loopE E_zci (loopAt Tryd.f48 0) (LV.mk 32 [(0, 32)] 16 0 false) 0 35 K n [EV.str x0, EV.str x1, EV.slice 0 0 x2 (some x3) 1, EV.int IntKind.i64 x4, EV.int IntKind.i64 x5] [some (EV.arr IntKind.u8 x6 x7)] = zci.l4 (fun y0 y1 y2 y3 => K (.exit 0) [EV.slice 0 0 y0 (some y1) 1] [some (EV.arr IntKind.u8 y2 y3)]) n x0 x1 x2 x3 x4 x5 x6 x7
 | 0, _, _, _, _, _, _, _, _ => rfl
 | n + 1, x0, x1, x2, x3, x4, x5, x6, x7 => by
  have ih : (fun (x0 : List UInt8) (x1 : List UInt8) (x2 : Nat) (x3 : Nat) (x4 : Int) (x5 : Int) (x6 : Nat) (x7 : Nat → Int) => loopE E_zci (loopAt Tryd.f48 0) (LV.mk 32 [(0, 32)] 16 0 false) 0 35 K n [EV.str x0, EV.str x1, EV.slice 0 0 x2 (some x3) 1, EV.int IntKind.i64 x4, EV.int IntKind.i64 x5] [some (EV.arr IntKind.u8 x6 x7)]) = zci.l4 (fun y0 y1 y2 y3 => K (.exit 0) [EV.slice 0 0 y0 (some y1) 1] [some (EV.arr IntKind.u8 y2 y3)]) n := by funext x0 x1 x2 x3 x4 x5 x6 x7; exact zci.l4X.eq K n x0 x1 x2 x3 x4 x5 x6 x7
  show loopStep _ _ _ _ _ (loopE E_zci (loopAt Tryd.f48 0) (LV.mk 32 [(0, 32)] 16 0 false) 0 35 K n) [EV.str x0, EV.str x1, EV.slice 0 0 x2 (some x3) 1, EV.int IntKind.i64 x4, EV.int IntKind.i64 x5] [some (EV.arr IntKind.u8 x6 x7)] K = zci.l4.step (zci.l4 (fun y0 y1 y2 y3 => K (.exit 0) [EV.slice 0 0 y0 (some y1) 1] [some (EV.arr IntKind.u8 y2 y3)]) n) (fun y0 y1 y2 y3 => K (.exit 0) [EV.slice 0 0 y0 (some y1) 1] [some (EV.arr IntKind.u8 y2 y3)]) x0 x1 x2 x3 x4 x5 x6 x7
  rw [← ih]
  exact zci.l4X.stepEq _ K x0 x1 x2 x3 x4 x5 x6 x7
theorem zci.l4X.ok : LoopEq E_zci (loopAt Tryd.f48 0) := by
 intro L hL vs H
 have h1 : E_zci.lp (firstRegion (loopAt Tryd.f48 0)) = some zci.l4.entry := by kernel_rfl
 have h2 : L = zci.l4.entry := Option.some.inj (hL.symm.trans h1)
 subst h2
 by_cases hx : ∃ (x0 : List UInt8) (x1 : List UInt8) (x2 : Nat) (x3 : Nat) (x4 : Int) (x5 : Int) (x6 : Nat) (x7 : Nat → Int), vs = [EV.str x0, EV.str x1, EV.slice 0 0 x2 (some x3) 1, EV.int IntKind.i64 x4, EV.int IntKind.i64 x5] ∧ H = [some (EV.arr IntKind.u8 x6 x7)]
 ·obtain ⟨x0, x1, x2, x3, x4, x5, x6, x7, rfl, rfl⟩ := hx
  right; intro K
  exact exists_congr fun n => iff_of_eq (zci.l4X.eq K n x0 x1 x2 x3 x4 x5 x6 x7).symm
 ·left; intro K h
  simp only [zci.l4.entry] at h
  split at h
  ·exact hx ⟨_, _, _, _, _, _, _, _, rfl, rfl⟩
  ·exact h
theorem X_zci.eq (a0 : List UInt8) (a1 : List UInt8) (K : EV → Heap → Prop) : evFn E_zci Tryd.f48 false [.str a0, .str a1] [] K = zci a0 a1 (fun y0 => K (EV.str y0) []) := by
 rw [zci.is]; exact (evFnQ_eq _ _ _ _ _ _).symm.trans (by kernel_rfl)
theorem X_zci.ok : SoundE Tryd.prog gl 48 e_zci := by
 refine fnOK (E := E_zci) (fn := Tryd.f48) rfl tys_ok rfl (show AllL _ l_zci from ⟨X_zch.ok, X_zce.ok, trivial⟩) mixed (by kernel_rfl) (by kernel_rfl) (by kernel_rfl) 1 (by kernel_rfl) false ⟨zci.l4X.ok, trivial⟩ ?_
 intro args H
 by_cases hx : ∃ (a0 : List UInt8) (a1 : List UInt8), args = [.str a0, .str a1] ∧ H = []
 ·obtain ⟨a0, a1, rfl, rfl⟩ := hx
  right; intro K
  exact iff_of_eq (X_zci.eq a0 a1 K).symm
 ·left; intro K h
  simp only [e_zci] at h
  split at h
  ·exact hx ⟨_, _, rfl, rfl⟩
  ·exact h
noncomputable def e_zby : Entry := ⟨[none, none], false, fun args H K => match args, H with
 | [.str a0, .str a1], [] => zby a0 a1 (fun y0 y1 y2 => K (EV.tuple [EV.str y0, EV.str y1, EV.int IntKind.i64 y2]) [])
 | _, _ => False⟩
noncomputable def l_zby : List (Nat × Entry) := [(43, e_zbx), (44, e_zca), (45, e_zcd), (46, e_zcg), (47, e_zcf), (48, e_zci), (49, e_zch)]
noncomputable def E_zby : Env := ⟨look tys, look l_zby, look [(10, zby.l10.entry)], gl, lookL [], false⟩
theorem zby.l10X.stepEq (R : List EV → Heap → Prop) (K : Ex → List EV → Heap → Prop) (x0 : List UInt8) (x1 : List UInt8) (x2 : List UInt8) (x3 : Nat) (x4 : Nat) (x5 : Int) (x6 : Nat) (x7 : Nat → Int) : loopStep (evCode E_zby (loopAt Tryd.f23 0) { (LV.mk 4608 [(0, 4608)] 112 0 false) with nx := live (.loop (loopAt Tryd.f23 0)) (LV.mk 4608 [(0, 4608)] 112 0 false) }) (live (.loop (loopAt Tryd.f23 0)) (LV.mk 4608 [(0, 4608)] 112 0 false)) (LV.mk 4608 [(0, 4608)] 112 0 false) 0 76 R [EV.str x0, EV.str x1, EV.str x2, EV.slice 0 0 x3 (some x4) 1, EV.int IntKind.i64 x5] [some (EV.arr IntKind.u8 x6 x7)] K = zby.l10.step (fun x0 x1 x2 x3 x4 x5 x6 x7 => R [EV.str x0, EV.str x1, EV.str x2, EV.slice 0 0 x3 (some x4) 1, EV.int IntKind.i64 x5] [some (EV.arr IntKind.u8 x6 x7)]) (fun y0 y1 y2 y3 y4 => K (.exit 0) [EV.str y0, EV.slice 0 0 y1 (some y2) 1] [some (EV.arr IntKind.u8 y3 y4)]) x0 x1 x2 x3 x4 x5 x6 x7 := (stepQ_eq _ _ _ _ _ _ _ _ _ _ _).symm.trans (by kernel_rfl)
theorem zby.l10X.eq (K : Ex → List EV → Heap → Prop) : ∀ (n : Nat) (x0 : List UInt8) (x1 : List UInt8) (x2 : List UInt8) (x3 : Nat) (x4 : Nat) (x5 : Int) (x6 : Nat) (x7 : Nat → Int), loopE E_zby (loopAt Tryd.f23 0) (LV.mk 4608 [(0, 4608)] 112 0 false) 0 76 K n [EV.str x0, EV.str x1, EV.str x2, EV.slice 0 0 x3 (some x4) 1, EV.int IntKind.i64 x5] [some (EV.arr IntKind.u8 x6 x7)] = zby.l10 (fun y0 y1 y2 y3 y4 => K (.exit 0) [EV.str y0, EV.slice 0 0 y1 (some y2) 1] [some (EV.arr IntKind.u8 y3 y4)]) n x0 x1 x2 x3 x4 x5 x6 x7
 | 0, _, _, _, _, _, _, _, _ => rfl
 | n + 1, x0, x1, x2, x3, x4, x5, x6, x7 => by
  have ih : (fun (x0 : List UInt8) (x1 : List UInt8) (x2 : List UInt8) (x3 : Nat) (x4 : Nat) (x5 : Int) (x6 : Nat) (x7 : Nat → Int) => loopE E_zby (loopAt Tryd.f23 0) (LV.mk 4608 [(0, 4608)] 112 0 false) 0 76 K n [EV.str x0, EV.str x1, EV.str x2, EV.slice 0 0 x3 (some x4) 1, EV.int IntKind.i64 x5] [some (EV.arr IntKind.u8 x6 x7)]) = zby.l10 (fun y0 y1 y2 y3 y4 => K (.exit 0) [EV.str y0, EV.slice 0 0 y1 (some y2) 1] [some (EV.arr IntKind.u8 y3 y4)]) n := by funext x0 x1 x2 x3 x4 x5 x6 x7; exact zby.l10X.eq K n x0 x1 x2 x3 x4 x5 x6 x7
  show loopStep _ _ _ _ _ (loopE E_zby (loopAt Tryd.f23 0) (LV.mk 4608 [(0, 4608)] 112 0 false) 0 76 K n) [EV.str x0, EV.str x1, EV.str x2, EV.slice 0 0 x3 (some x4) 1, EV.int IntKind.i64 x5] [some (EV.arr IntKind.u8 x6 x7)] K = zby.l10.step (zby.l10 (fun y0 y1 y2 y3 y4 => K (.exit 0) [EV.str y0, EV.slice 0 0 y1 (some y2) 1] [some (EV.arr IntKind.u8 y3 y4)]) n) (fun y0 y1 y2 y3 y4 => K (.exit 0) [EV.str y0, EV.slice 0 0 y1 (some y2) 1] [some (EV.arr IntKind.u8 y3 y4)]) x0 x1 x2 x3 x4 x5 x6 x7
  rw [← ih]
  exact zby.l10X.stepEq _ K x0 x1 x2 x3 x4 x5 x6 x7
theorem zby.l10X.ok : LoopEq E_zby (loopAt Tryd.f23 0) := by
 intro L hL vs H
 have h1 : E_zby.lp (firstRegion (loopAt Tryd.f23 0)) = some zby.l10.entry := by kernel_rfl
 have h2 : L = zby.l10.entry := Option.some.inj (hL.symm.trans h1)
 subst h2
 by_cases hx : ∃ (x0 : List UInt8) (x1 : List UInt8) (x2 : List UInt8) (x3 : Nat) (x4 : Nat) (x5 : Int) (x6 : Nat) (x7 : Nat → Int), vs = [EV.str x0, EV.str x1, EV.str x2, EV.slice 0 0 x3 (some x4) 1, EV.int IntKind.i64 x5] ∧ H = [some (EV.arr IntKind.u8 x6 x7)]
 ·obtain ⟨x0, x1, x2, x3, x4, x5, x6, x7, rfl, rfl⟩ := hx
  right; intro K
  exact exists_congr fun n => iff_of_eq (zby.l10X.eq K n x0 x1 x2 x3 x4 x5 x6 x7).symm
 ·left; intro K h
  simp only [zby.l10.entry] at h
  split at h
  ·exact hx ⟨_, _, _, _, _, _, _, _, rfl, rfl⟩
  ·exact h
theorem X_zby.eq (a0 : List UInt8) (a1 : List UInt8) (K : EV → Heap → Prop) : evFn E_zby Tryd.f23 false [.str a0, .str a1] [] K = zby a0 a1 (fun y0 y1 y2 => K (EV.tuple [EV.str y0, EV.str y1, EV.int IntKind.i64 y2]) []) := by
 rw [zby.is]; exact (evFnQ_eq _ _ _ _ _ _).symm.trans (by kernel_rfl)
theorem X_zby.ok : SoundE Tryd.prog gl 23 e_zby := by
 refine fnOK (E := E_zby) (fn := Tryd.f23) rfl tys_ok rfl (show AllL _ l_zby from ⟨X_zbx.ok, X_zca.ok, X_zcd.ok, X_zcg.ok, X_zcf.ok, X_zci.ok, X_zch.ok, trivial⟩) mixed (by kernel_rfl) (by kernel_rfl) (by kernel_rfl) 1 (by kernel_rfl) false ⟨zby.l10X.ok, trivial⟩ ?_
 intro args H
 by_cases hx : ∃ (a0 : List UInt8) (a1 : List UInt8), args = [.str a0, .str a1] ∧ H = []
 ·obtain ⟨a0, a1, rfl, rfl⟩ := hx
  right; intro K
  exact iff_of_eq (X_zby.eq a0 a1 K).symm
 ·left; intro K h
  simp only [e_zby] at h
  split at h
  ·exact hx ⟨_, _, rfl, rfl⟩
  ·exact h
noncomputable def e_zbz : Entry := ⟨[none, none], false, fun args H K => match args, H with
 | [.str a0, .str a1], [] => zbz a0 a1 (fun y0 => K (EV.str y0) [])
 | _, _ => False⟩
noncomputable def l_zbz : List (Nat × Entry) := [(23, e_zby)]
noncomputable def E_zbz : Env := ⟨look tys, look l_zbz, look [(1, zbz.l1.entry)], gl, lookL [], false⟩
theorem zbz.l1X.stepEq (R : List EV → Heap → Prop) (K : Ex → List EV → Heap → Prop) (x0 : List UInt8) (x1 : List UInt8) : loopStep (evCode E_zbz (loopAt Tryd.f16 0) { (LV.mk 1 [(0, 1)] 16 0 false) with nx := live (.loop (loopAt Tryd.f16 0)) (LV.mk 1 [(0, 1)] 16 0 false) }) (live (.loop (loopAt Tryd.f16 0)) (LV.mk 1 [(0, 1)] 16 0 false)) (LV.mk 1 [(0, 1)] 16 0 false) 0 20 R [EV.str x0, EV.str x1] [] K = zbz.l1.step (fun x0 x1 => R [EV.str x0, EV.str x1] []) (fun y0 => K (.exit 0) [EV.str y0] []) x0 x1 := (stepQ_eq _ _ _ _ _ _ _ _ _ _ _).symm.trans (by kernel_rfl)
theorem zbz.l1X.eq (K : Ex → List EV → Heap → Prop) : ∀ (n : Nat) (x0 : List UInt8) (x1 : List UInt8), loopE E_zbz (loopAt Tryd.f16 0) (LV.mk 1 [(0, 1)] 16 0 false) 0 20 K n [EV.str x0, EV.str x1] [] = zbz.l1 (fun y0 => K (.exit 0) [EV.str y0] []) n x0 x1
 | 0, _, _ => rfl
 | n + 1, x0, x1 => by
  have ih : (fun (x0 : List UInt8) (x1 : List UInt8) => loopE E_zbz (loopAt Tryd.f16 0) (LV.mk 1 [(0, 1)] 16 0 false) 0 20 K n [EV.str x0, EV.str x1] []) = zbz.l1 (fun y0 => K (.exit 0) [EV.str y0] []) n := by funext x0 x1; exact zbz.l1X.eq K n x0 x1
  show loopStep _ _ _ _ _ (loopE E_zbz (loopAt Tryd.f16 0) (LV.mk 1 [(0, 1)] 16 0 false) 0 20 K n) [EV.str x0, EV.str x1] [] K = zbz.l1.step (zbz.l1 (fun y0 => K (.exit 0) [EV.str y0] []) n) (fun y0 => K (.exit 0) [EV.str y0] []) x0 x1
  rw [← ih]
  exact zbz.l1X.stepEq _ K x0 x1
theorem zbz.l1X.ok : LoopEq E_zbz (loopAt Tryd.f16 0) := by
 intro L hL vs H
 have h1 : E_zbz.lp (firstRegion (loopAt Tryd.f16 0)) = some zbz.l1.entry := by kernel_rfl
 have h2 : L = zbz.l1.entry := Option.some.inj (hL.symm.trans h1)
 subst h2
 by_cases hx : ∃ (x0 : List UInt8) (x1 : List UInt8), vs = [EV.str x0, EV.str x1] ∧ H = []
 ·obtain ⟨x0, x1, rfl, rfl⟩ := hx
  right; intro K
  exact exists_congr fun n => iff_of_eq (zbz.l1X.eq K n x0 x1).symm
 ·left; intro K h
  simp only [zbz.l1.entry] at h
  split at h
  ·exact hx ⟨_, _, rfl, rfl⟩
  ·exact h
theorem X_zbz.eq (a0 : List UInt8) (a1 : List UInt8) (K : EV → Heap → Prop) : evFn E_zbz Tryd.f16 false [.str a0, .str a1] [] K = zbz a0 a1 (fun y0 => K (EV.str y0) []) := by
 rw [zbz.is]; exact (evFnQ_eq _ _ _ _ _ _).symm.trans (by kernel_rfl)
theorem X_zbz.ok : SoundE Tryd.prog gl 16 e_zbz := by
 refine fnOK (E := E_zbz) (fn := Tryd.f16) rfl tys_ok rfl (show AllL _ l_zbz from ⟨X_zby.ok, trivial⟩) mixed (by kernel_rfl) (by kernel_rfl) (by kernel_rfl) 1 (by kernel_rfl) false ⟨zbz.l1X.ok, trivial⟩ ?_
 intro args H
 by_cases hx : ∃ (a0 : List UInt8) (a1 : List UInt8), args = [.str a0, .str a1] ∧ H = []
 ·obtain ⟨a0, a1, rfl, rfl⟩ := hx
  right; intro K
  exact iff_of_eq (X_zbz.eq a0 a1 K).symm
 ·left; intro K h
  simp only [e_zbz] at h
  split at h
  ·exact hx ⟨_, _, rfl, rfl⟩
  ·exact h
noncomputable def e_zcj : Entry := ⟨[none], false, fun args H K => match args, H with
 | [.agg [.bool a0_0, .str a0_1, .str a0_2, .int .i64 a0_3]], [] => zcj a0_0 a0_1 a0_2 a0_3 (fun y0 => K (EV.bool y0) [])
 | _, _ => False⟩
noncomputable def l_zcj : List (Nat × Entry) := [(13, e_zcc), (14, e_zcl), (15, e_zck), (16, e_zbz)]
noncomputable def E_zcj : Env := ⟨look tys, look l_zcj, look [], gl, lookL [], false⟩
theorem X_zcj.eq (a0_0 : Bool) (a0_1 : List UInt8) (a0_2 : List UInt8) (a0_3 : Int) (K : EV → Heap → Prop) : evFn E_zcj Tryd.f5 false [.agg [.bool a0_0, .str a0_1, .str a0_2, .int .i64 a0_3]] [] K = zcj a0_0 a0_1 a0_2 a0_3 (fun y0 => K (EV.bool y0) []) := by
 rw [zcj.is]; exact (evFnQ_eq _ _ _ _ _ _).symm.trans (by kernel_rfl)
theorem X_zcj.ok : SoundE Tryd.prog gl 5 e_zcj := by
 refine fnOK (E := E_zcj) (fn := Tryd.f5) rfl tys_ok rfl (show AllL _ l_zcj from ⟨X_zcc.ok, X_zcl.ok, X_zck.ok, X_zbz.ok, trivial⟩) mixed (by kernel_rfl) (by kernel_rfl) (by kernel_rfl) 0 (by kernel_rfl) false trivial ?_
 intro args H
 by_cases hx : ∃ (a0_0 : Bool) (a0_1 : List UInt8) (a0_2 : List UInt8) (a0_3 : Int), args = [.agg [.bool a0_0, .str a0_1, .str a0_2, .int .i64 a0_3]] ∧ H = []
 ·obtain ⟨a0_0, a0_1, a0_2, a0_3, rfl, rfl⟩ := hx
  right; intro K
  exact iff_of_eq (X_zcj.eq a0_0 a0_1 a0_2 a0_3 K).symm
 ·left; intro K h
  simp only [e_zcj] at h
  split at h
  ·exact hx ⟨_, _, _, _, rfl, rfl⟩
  ·exact h
noncomputable def e_zcm : Entry := ⟨[none], false, fun args H K => match args, H with
 | [.int .u8 a0], [] => zcm a0 (fun y0 => K (EV.bool y0) [])
 | _, _ => False⟩
noncomputable def E_zcm : Env := ⟨look tys, look [], look [], gl, lookL [], false⟩
theorem X_zcm.eq (a0 : Int) (K : EV → Heap → Prop) : evFn E_zcm Tryd.f6 false [.int .u8 a0] [] K = zcm a0 (fun y0 => K (EV.bool y0) []) := by
 rw [zcm.is]; exact (evFnQ_eq _ _ _ _ _ _).symm.trans (by kernel_rfl)
theorem X_zcm.ok : SoundE Tryd.prog gl 6 e_zcm := by
 refine fnOK (E := E_zcm) (fn := Tryd.f6) rfl tys_ok rfl (show AllL _ [] from trivial) mixed (by kernel_rfl) (by kernel_rfl) (by kernel_rfl) 0 (by kernel_rfl) false trivial ?_
 intro args H
 by_cases hx : ∃ (a0 : Int), args = [.int .u8 a0] ∧ H = []
 ·obtain ⟨a0, rfl, rfl⟩ := hx
  right; intro K
  exact iff_of_eq (X_zcm.eq a0 K).symm
 ·left; intro K h
  simp only [e_zcm] at h
  split at h
  ·exact hx ⟨_, rfl, rfl⟩
  ·exact h
noncomputable def e_zcn : Entry := ⟨[none], false, fun args H K => match args, H with
 | [.int .u8 a0], [] => zcn a0 (fun y0 => K (EV.bool y0) [])
 | _, _ => False⟩
noncomputable def E_zcn : Env := ⟨look tys, look [], look [], gl, lookL [], false⟩
theorem X_zcn.eq (a0 : Int) (K : EV → Heap → Prop) : evFn E_zcn Tryd.f7 false [.int .u8 a0] [] K = zcn a0 (fun y0 => K (EV.bool y0) []) := by
 rw [zcn.is]; exact (evFnQ_eq _ _ _ _ _ _).symm.trans (by kernel_rfl)
theorem X_zcn.ok : SoundE Tryd.prog gl 7 e_zcn := by
 refine fnOK (E := E_zcn) (fn := Tryd.f7) rfl tys_ok rfl (show AllL _ [] from trivial) mixed (by kernel_rfl) (by kernel_rfl) (by kernel_rfl) 0 (by kernel_rfl) false trivial ?_
 intro args H
 by_cases hx : ∃ (a0 : Int), args = [.int .u8 a0] ∧ H = []
 ·obtain ⟨a0, rfl, rfl⟩ := hx
  right; intro K
  exact iff_of_eq (X_zcn.eq a0 K).symm
 ·left; intro K h
  simp only [e_zcn] at h
  split at h
  ·exact hx ⟨_, rfl, rfl⟩
  ·exact h
noncomputable def e_zau : Entry := ⟨[none], false, fun args H K => match args, H with
 | [.str a0], [] => zau a0 (fun y0 => K (EV.int IntKind.i64 y0) [])
 | _, _ => False⟩
noncomputable def E_zau : Env := ⟨look tys, look [], look [], gl, lookL [], false⟩
theorem X_zau.eq (a0 : List UInt8) (K : EV → Heap → Prop) : evFn E_zau Tryd.f24 false [.str a0] [] K = zau a0 (fun y0 => K (EV.int IntKind.i64 y0) []) := by
 rw [zau.is]; exact (evFnQ_eq _ _ _ _ _ _).symm.trans (by kernel_rfl)
theorem X_zau.ok : SoundE Tryd.prog gl 24 e_zau := by
 refine fnOK (E := E_zau) (fn := Tryd.f24) rfl tys_ok rfl (show AllL _ [] from trivial) mixed (by kernel_rfl) (by kernel_rfl) (by kernel_rfl) 0 (by kernel_rfl) false trivial ?_
 intro args H
 by_cases hx : ∃ (a0 : List UInt8), args = [.str a0] ∧ H = []
 ·obtain ⟨a0, rfl, rfl⟩ := hx
  right; intro K
  exact iff_of_eq (X_zau.eq a0 K).symm
 ·left; intro K h
  simp only [e_zau] at h
  split at h
  ·exact hx ⟨_, rfl, rfl⟩
  ·exact h
noncomputable def e_zak : Entry := ⟨[none], false, fun args H K => match args, H with
 | [.str a0], [] => zak a0 (fun y0 => K (EV.bool y0) [])
 | _, _ => False⟩
noncomputable def E_zak : Env := ⟨look tys, look [], look [], gl, lookL [], false⟩
theorem X_zak.eq (a0 : List UInt8) (K : EV → Heap → Prop) : evFn E_zak Tryd.f25 false [.str a0] [] K = zak a0 (fun y0 => K (EV.bool y0) []) := by
 rw [zak.is]; exact (evFnQ_eq _ _ _ _ _ _).symm.trans (by kernel_rfl)
theorem X_zak.ok : SoundE Tryd.prog gl 25 e_zak := by
 refine fnOK (E := E_zak) (fn := Tryd.f25) rfl tys_ok rfl (show AllL _ [] from trivial) mixed (by kernel_rfl) (by kernel_rfl) (by kernel_rfl) 0 (by kernel_rfl) false trivial ?_
 intro args H
 by_cases hx : ∃ (a0 : List UInt8), args = [.str a0] ∧ H = []
 ·obtain ⟨a0, rfl, rfl⟩ := hx
  right; intro K
  exact iff_of_eq (X_zak.eq a0 K).symm
 ·left; intro K h
  simp only [e_zak] at h
  split at h
  ·exact hx ⟨_, rfl, rfl⟩
  ·exact h
noncomputable def e_zam : Entry := ⟨[none], false, fun args H K => match args, H with
 | [.int .i64 a0], [] => zam a0 (fun y0 => K (EV.bool y0) [])
 | _, _ => False⟩
noncomputable def E_zam : Env := ⟨look tys, look [], look [], gl, lookL [], false⟩
theorem X_zam.eq (a0 : Int) (K : EV → Heap → Prop) : evFn E_zam Tryd.f26 false [.int .i64 a0] [] K = zam a0 (fun y0 => K (EV.bool y0) []) := by
 rw [zam.is]; exact (evFnQ_eq _ _ _ _ _ _).symm.trans (by kernel_rfl)
theorem X_zam.ok : SoundE Tryd.prog gl 26 e_zam := by
 refine fnOK (E := E_zam) (fn := Tryd.f26) rfl tys_ok rfl (show AllL _ [] from trivial) mixed (by kernel_rfl) (by kernel_rfl) (by kernel_rfl) 0 (by kernel_rfl) false trivial ?_
 intro args H
 by_cases hx : ∃ (a0 : Int), args = [.int .i64 a0] ∧ H = []
 ·obtain ⟨a0, rfl, rfl⟩ := hx
  right; intro K
  exact iff_of_eq (X_zam.eq a0 K).symm
 ·left; intro K h
  simp only [e_zam] at h
  split at h
  ·exact hx ⟨_, rfl, rfl⟩
  ·exact h
noncomputable def e_zaj : Entry := ⟨[], false, fun args H K => match args, H with
 | [], [] => zaj  (fun y0 y1 y2 y3 => K (EV.agg [EV.bool y0, EV.str y1, EV.str y2, EV.int IntKind.i64 y3]) [])
 | _, _ => False⟩
noncomputable def E_zaj : Env := ⟨look tys, look [], look [], gl, lookL [], false⟩
theorem X_zaj.eq (K : EV → Heap → Prop) : evFn E_zaj Tryd.f27 false [] [] K = zaj  (fun y0 y1 y2 y3 => K (EV.agg [EV.bool y0, EV.str y1, EV.str y2, EV.int IntKind.i64 y3]) []) := by
 rw [zaj.is]; exact (evFnQ_eq _ _ _ _ _ _).symm.trans (by kernel_rfl)
theorem X_zaj.ok : SoundE Tryd.prog gl 27 e_zaj := by
 refine fnOK (E := E_zaj) (fn := Tryd.f27) rfl tys_ok rfl (show AllL _ [] from trivial) mixed (by kernel_rfl) (by kernel_rfl) (by kernel_rfl) 0 (by kernel_rfl) false trivial ?_
 intro args H
 by_cases hx : args = [] ∧ H = []
 ·obtain ⟨rfl, rfl⟩ := hx
  right; intro K
  exact iff_of_eq (X_zaj.eq  K).symm
 ·left; intro K h
  simp only [e_zaj] at h
  split at h
  ·exact hx ⟨rfl, rfl⟩
  ·exact h
noncomputable def e_zbn : Entry := ⟨[none, none], false, fun args H K => match args, H with
 | [.str a0, .str a1], [] => zbn a0 a1 (fun y0 => K (EV.bool y0) [])
 | _, _ => False⟩
noncomputable def l_zbn : List (Nat × Entry) := [(24, e_zau)]
noncomputable def E_zbn : Env := ⟨look tys, look l_zbn, look [], gl, lookL [], false⟩
theorem X_zbn.eq (a0 : List UInt8) (a1 : List UInt8) (K : EV → Heap → Prop) : evFn E_zbn Tryd.f50 false [.str a0, .str a1] [] K = zbn a0 a1 (fun y0 => K (EV.bool y0) []) := by
 rw [zbn.is]; exact (evFnQ_eq _ _ _ _ _ _).symm.trans (by kernel_rfl)
theorem X_zbn.ok : SoundE Tryd.prog gl 50 e_zbn := by
 refine fnOK (E := E_zbn) (fn := Tryd.f50) rfl tys_ok rfl (show AllL _ l_zbn from ⟨X_zau.ok, trivial⟩) mixed (by kernel_rfl) (by kernel_rfl) (by kernel_rfl) 0 (by kernel_rfl) false trivial ?_
 intro args H
 by_cases hx : ∃ (a0 : List UInt8) (a1 : List UInt8), args = [.str a0, .str a1] ∧ H = []
 ·obtain ⟨a0, a1, rfl, rfl⟩ := hx
  right; intro K
  exact iff_of_eq (X_zbn.eq a0 a1 K).symm
 ·left; intro K h
  simp only [e_zbn] at h
  split at h
  ·exact hx ⟨_, _, rfl, rfl⟩
  ·exact h
noncomputable def e_zbt : Entry := ⟨[none], false, fun args H K => match args, H with
 | [.str a0], [] => zbt a0 (fun y0 y1 => K (EV.rsI IntKind.u32 y0 y1) [])
 | _, _ => False⟩
noncomputable def E_zbt : Env := ⟨look tys, look [], look [(3, zbt.l3.entry)], gl, lookL [], false⟩
theorem zbt.l3X.stepEq (R : List EV → Heap → Prop) (K : Ex → List EV → Heap → Prop) (x0 : List UInt8) (x1 : Nat) (x2 : Nat) (x3 : Int) (x4 : Int) (x5 : Nat) (x6 : Nat → Int) : loopStep (evCode E_zbt (loopAt Tryd.f51 0) { (LV.mk 8 [(0, 8)] 4 0 false) with nx := live (.loop (loopAt Tryd.f51 0)) (LV.mk 8 [(0, 8)] 4 0 false) }) (live (.loop (loopAt Tryd.f51 0)) (LV.mk 8 [(0, 8)] 4 0 false)) (LV.mk 8 [(0, 8)] 4 0 false) 0 37 R [EV.str x0, EV.slice 0 0 x1 (some x2) 1, EV.int IntKind.i64 x3, EV.int IntKind.i64 x4] [some (EV.arr IntKind.u32 x5 x6)] K = zbt.l3.step (fun x0 x1 x2 x3 x4 x5 x6 => R [EV.str x0, EV.slice 0 0 x1 (some x2) 1, EV.int IntKind.i64 x3, EV.int IntKind.i64 x4] [some (EV.arr IntKind.u32 x5 x6)]) (fun y0 y1 y2 y3 => K (.exit 0) [EV.slice 0 0 y0 (some y1) 1] [some (EV.arr IntKind.u32 y2 y3)]) x0 x1 x2 x3 x4 x5 x6 := (stepQ_eq _ _ _ _ _ _ _ _ _ _ _).symm.trans (by kernel_rfl)
theorem zbt.l3X.eq (K : Ex → List EV → Heap → Prop) : ∀ (n : Nat) (x0 : List UInt8) (x1 : Nat) (x2 : Nat) (x3 : Int) (x4 : Int) (x5 : Nat) (x6 : Nat → Int), loopE E_zbt (loopAt Tryd.f51 0) (LV.mk 8 [(0, 8)] 4 0 false) 0 37 K n [EV.str x0, EV.slice 0 0 x1 (some x2) 1, EV.int IntKind.i64 x3, EV.int IntKind.i64 x4] [some (EV.arr IntKind.u32 x5 x6)] = zbt.l3 (fun y0 y1 y2 y3 => K (.exit 0) [EV.slice 0 0 y0 (some y1) 1] [some (EV.arr IntKind.u32 y2 y3)]) n x0 x1 x2 x3 x4 x5 x6
 | 0, _, _, _, _, _, _, _ => rfl
 | n + 1, x0, x1, x2, x3, x4, x5, x6 => by
  have ih : (fun (x0 : List UInt8) (x1 : Nat) (x2 : Nat) (x3 : Int) (x4 : Int) (x5 : Nat) (x6 : Nat → Int) => loopE E_zbt (loopAt Tryd.f51 0) (LV.mk 8 [(0, 8)] 4 0 false) 0 37 K n [EV.str x0, EV.slice 0 0 x1 (some x2) 1, EV.int IntKind.i64 x3, EV.int IntKind.i64 x4] [some (EV.arr IntKind.u32 x5 x6)]) = zbt.l3 (fun y0 y1 y2 y3 => K (.exit 0) [EV.slice 0 0 y0 (some y1) 1] [some (EV.arr IntKind.u32 y2 y3)]) n := by funext x0 x1 x2 x3 x4 x5 x6; exact zbt.l3X.eq K n x0 x1 x2 x3 x4 x5 x6
  show loopStep _ _ _ _ _ (loopE E_zbt (loopAt Tryd.f51 0) (LV.mk 8 [(0, 8)] 4 0 false) 0 37 K n) [EV.str x0, EV.slice 0 0 x1 (some x2) 1, EV.int IntKind.i64 x3, EV.int IntKind.i64 x4] [some (EV.arr IntKind.u32 x5 x6)] K = zbt.l3.step (zbt.l3 (fun y0 y1 y2 y3 => K (.exit 0) [EV.slice 0 0 y0 (some y1) 1] [some (EV.arr IntKind.u32 y2 y3)]) n) (fun y0 y1 y2 y3 => K (.exit 0) [EV.slice 0 0 y0 (some y1) 1] [some (EV.arr IntKind.u32 y2 y3)]) x0 x1 x2 x3 x4 x5 x6
  rw [← ih]
  exact zbt.l3X.stepEq _ K x0 x1 x2 x3 x4 x5 x6
theorem zbt.l3X.ok : LoopEq E_zbt (loopAt Tryd.f51 0) := by
 intro L hL vs H
 have h1 : E_zbt.lp (firstRegion (loopAt Tryd.f51 0)) = some zbt.l3.entry := by kernel_rfl
 have h2 : L = zbt.l3.entry := Option.some.inj (hL.symm.trans h1)
 subst h2
 by_cases hx : ∃ (x0 : List UInt8) (x1 : Nat) (x2 : Nat) (x3 : Int) (x4 : Int) (x5 : Nat) (x6 : Nat → Int), vs = [EV.str x0, EV.slice 0 0 x1 (some x2) 1, EV.int IntKind.i64 x3, EV.int IntKind.i64 x4] ∧ H = [some (EV.arr IntKind.u32 x5 x6)]
 ·obtain ⟨x0, x1, x2, x3, x4, x5, x6, rfl, rfl⟩ := hx
  right; intro K
  exact exists_congr fun n => iff_of_eq (zbt.l3X.eq K n x0 x1 x2 x3 x4 x5 x6).symm
 ·left; intro K h
  simp only [zbt.l3.entry] at h
  split at h
  ·exact hx ⟨_, _, _, _, _, _, _, rfl, rfl⟩
  ·exact h
theorem X_zbt.eq (a0 : List UInt8) (K : EV → Heap → Prop) : evFn E_zbt Tryd.f51 false [.str a0] [] K = zbt a0 (fun y0 y1 => K (EV.rsI IntKind.u32 y0 y1) []) := by
 rw [zbt.is]; exact (evFnQ_eq _ _ _ _ _ _).symm.trans (by kernel_rfl)
theorem X_zbt.ok : SoundE Tryd.prog gl 51 e_zbt := by
 refine fnOK (E := E_zbt) (fn := Tryd.f51) rfl tys_ok rfl (show AllL _ [] from trivial) mixed (by kernel_rfl) (by kernel_rfl) (by kernel_rfl) 1 (by kernel_rfl) false ⟨zbt.l3X.ok, trivial⟩ ?_
 intro args H
 by_cases hx : ∃ (a0 : List UInt8), args = [.str a0] ∧ H = []
 ·obtain ⟨a0, rfl, rfl⟩ := hx
  right; intro K
  exact iff_of_eq (X_zbt.eq a0 K).symm
 ·left; intro K h
  simp only [e_zbt] at h
  split at h
  ·exact hx ⟨_, rfl, rfl⟩
  ·exact h
noncomputable def e_zaa : Entry := ⟨[none], false, fun args H K => match args, H with
 | [.int .u64 a0], [] => zaa a0 (fun y0 => K (EV.int IntKind.i64 y0) [])
 | _, _ => False⟩
noncomputable def E_zaa : Env := ⟨look tys, look [], look [], gl, lookL [], false⟩
theorem X_zaa.eq (a0 : Int) (K : EV → Heap → Prop) : evFn E_zaa Tryd.f84 false [.int .u64 a0] [] K = zaa a0 (fun y0 => K (EV.int IntKind.i64 y0) []) := by
 rw [zaa.is]; exact (evFnQ_eq _ _ _ _ _ _).symm.trans (by kernel_rfl)
theorem X_zaa.ok : SoundE Tryd.prog gl 84 e_zaa := by
 refine fnOK (E := E_zaa) (fn := Tryd.f84) rfl tys_ok rfl (show AllL _ [] from trivial) mixed (by kernel_rfl) (by kernel_rfl) (by kernel_rfl) 0 (by kernel_rfl) false trivial ?_
 intro args H
 by_cases hx : ∃ (a0 : Int), args = [.int .u64 a0] ∧ H = []
 ·obtain ⟨a0, rfl, rfl⟩ := hx
  right; intro K
  exact iff_of_eq (X_zaa.eq a0 K).symm
 ·left; intro K h
  simp only [e_zaa] at h
  split at h
  ·exact hx ⟨_, rfl, rfl⟩
  ·exact h
noncomputable def e_zdt : Entry := ⟨[none], false, fun args H K => match args, H with
 | [.int .u64 a0], [] => zdt a0 (fun y0 => K (EV.int IntKind.i64 y0) [])
 | _, _ => False⟩
noncomputable def l_zdt : List (Nat × Entry) := [(84, e_zaa)]
noncomputable def E_zdt : Env := ⟨look tys, look l_zdt, look [], gl, lookL [], false⟩
theorem X_zdt.eq (a0 : Int) (K : EV → Heap → Prop) : evFn E_zdt Tryd.f61 false [.int .u64 a0] [] K = zdt a0 (fun y0 => K (EV.int IntKind.i64 y0) []) := by
 rw [zdt.is]; exact (evFnQ_eq _ _ _ _ _ _).symm.trans (by kernel_rfl)
theorem X_zdt.ok : SoundE Tryd.prog gl 61 e_zdt := by
 refine fnOK (E := E_zdt) (fn := Tryd.f61) rfl tys_ok rfl (show AllL _ l_zdt from ⟨X_zaa.ok, trivial⟩) mixed (by kernel_rfl) (by kernel_rfl) (by kernel_rfl) 0 (by kernel_rfl) false trivial ?_
 intro args H
 by_cases hx : ∃ (a0 : Int), args = [.int .u64 a0] ∧ H = []
 ·obtain ⟨a0, rfl, rfl⟩ := hx
  right; intro K
  exact iff_of_eq (X_zdt.eq a0 K).symm
 ·left; intro K h
  simp only [e_zdt] at h
  split at h
  ·exact hx ⟨_, rfl, rfl⟩
  ·exact h
noncomputable def e_zbe : Entry := ⟨[some .u32, some .u32], false, fun args H K => match args, H with
 | [.rsI .u32 a0n a0, .rsI .u32 a1n a1], [] => zbe a0n a0 a1n a1 (fun y0 => K (EV.int IntKind.i64 y0) [])
 | _, _ => False⟩
noncomputable def E_zbe : Env := ⟨look tys, look [], look [(6, zbe.l6.entry)], gl, lookL [], false⟩
theorem zbe.l6X.stepEq (R : List EV → Heap → Prop) (K : Ex → List EV → Heap → Prop) (x0 : Nat) (x1 : Nat → Int) (x2 : Nat) (x3 : Nat → Int) (x4 : Int) : loopStep (evCode E_zbe (loopAt Tryd.f74 0) { (LV.mk 0 [(1, 0)] 16 0 false) with nx := live (.loop (loopAt Tryd.f74 0)) (LV.mk 0 [(1, 0)] 16 0 false) }) (live (.loop (loopAt Tryd.f74 0)) (LV.mk 0 [(1, 0)] 16 0 false)) (LV.mk 0 [(1, 0)] 16 0 false) 0 45 R [EV.rsI IntKind.u32 x0 x1, EV.rsI IntKind.u32 x2 x3, EV.int IntKind.i64 x4] [] K = zbe.l6.step (fun x0 x1 x2 x3 x4 => R [EV.rsI IntKind.u32 x0 x1, EV.rsI IntKind.u32 x2 x3, EV.int IntKind.i64 x4] []) (fun y0 => K .ret [EV.int IntKind.i64 y0] []) (K (.exit 1) [] []) x0 x1 x2 x3 x4 := (stepQ_eq _ _ _ _ _ _ _ _ _ _ _).symm.trans (by kernel_rfl)
theorem zbe.l6X.eq (K : Ex → List EV → Heap → Prop) : ∀ (n : Nat) (x0 : Nat) (x1 : Nat → Int) (x2 : Nat) (x3 : Nat → Int) (x4 : Int), loopE E_zbe (loopAt Tryd.f74 0) (LV.mk 0 [(1, 0)] 16 0 false) 0 45 K n [EV.rsI IntKind.u32 x0 x1, EV.rsI IntKind.u32 x2 x3, EV.int IntKind.i64 x4] [] = zbe.l6 (fun y0 => K .ret [EV.int IntKind.i64 y0] []) (K (.exit 1) [] []) n x0 x1 x2 x3 x4
 | 0, _, _, _, _, _ => rfl
 | n + 1, x0, x1, x2, x3, x4 => by
  have ih : (fun (x0 : Nat) (x1 : Nat → Int) (x2 : Nat) (x3 : Nat → Int) (x4 : Int) => loopE E_zbe (loopAt Tryd.f74 0) (LV.mk 0 [(1, 0)] 16 0 false) 0 45 K n [EV.rsI IntKind.u32 x0 x1, EV.rsI IntKind.u32 x2 x3, EV.int IntKind.i64 x4] []) = zbe.l6 (fun y0 => K .ret [EV.int IntKind.i64 y0] []) (K (.exit 1) [] []) n := by funext x0 x1 x2 x3 x4; exact zbe.l6X.eq K n x0 x1 x2 x3 x4
  show loopStep _ _ _ _ _ (loopE E_zbe (loopAt Tryd.f74 0) (LV.mk 0 [(1, 0)] 16 0 false) 0 45 K n) [EV.rsI IntKind.u32 x0 x1, EV.rsI IntKind.u32 x2 x3, EV.int IntKind.i64 x4] [] K = zbe.l6.step (zbe.l6 (fun y0 => K .ret [EV.int IntKind.i64 y0] []) (K (.exit 1) [] []) n) (fun y0 => K .ret [EV.int IntKind.i64 y0] []) (K (.exit 1) [] []) x0 x1 x2 x3 x4
  rw [← ih]
  exact zbe.l6X.stepEq _ K x0 x1 x2 x3 x4
theorem zbe.l6X.ok : LoopEq E_zbe (loopAt Tryd.f74 0) := by
 intro L hL vs H
 have h1 : E_zbe.lp (firstRegion (loopAt Tryd.f74 0)) = some zbe.l6.entry := by kernel_rfl
 have h2 : L = zbe.l6.entry := Option.some.inj (hL.symm.trans h1)
 subst h2
 by_cases hx : ∃ (x0 : Nat) (x1 : Nat → Int) (x2 : Nat) (x3 : Nat → Int) (x4 : Int), vs = [EV.rsI IntKind.u32 x0 x1, EV.rsI IntKind.u32 x2 x3, EV.int IntKind.i64 x4] ∧ H = []
 ·obtain ⟨x0, x1, x2, x3, x4, rfl, rfl⟩ := hx
  right; intro K
  exact exists_congr fun n => iff_of_eq (zbe.l6X.eq K n x0 x1 x2 x3 x4).symm
 ·left; intro K h
  simp only [zbe.l6.entry] at h
  split at h
  ·exact hx ⟨_, _, _, _, _, rfl, rfl⟩
  ·exact h
theorem X_zbe.eq (a0n : Nat) (a0 : Nat → Int) (a1n : Nat) (a1 : Nat → Int) (K : EV → Heap → Prop) : evFn E_zbe Tryd.f74 false [.rsI .u32 a0n a0, .rsI .u32 a1n a1] [] K = zbe a0n a0 a1n a1 (fun y0 => K (EV.int IntKind.i64 y0) []) := by
 rw [zbe.is]; exact (evFnQ_eq _ _ _ _ _ _).symm.trans (by kernel_rfl)
theorem X_zbe.ok : SoundE Tryd.prog gl 74 e_zbe := by
 refine fnOK (E := E_zbe) (fn := Tryd.f74) rfl tys_ok rfl (show AllL _ [] from trivial) mixed (by kernel_rfl) (by kernel_rfl) (by kernel_rfl) 1 (by kernel_rfl) false ⟨zbe.l6X.ok, trivial⟩ ?_
 intro args H
 by_cases hx : ∃ (a0n : Nat) (a0 : Nat → Int) (a1n : Nat) (a1 : Nat → Int), args = [.rsI .u32 a0n a0, .rsI .u32 a1n a1] ∧ H = []
 ·obtain ⟨a0n, a0, a1n, a1, rfl, rfl⟩ := hx
  right; intro K
  exact iff_of_eq (X_zbe.eq a0n a0 a1n a1 K).symm
 ·left; intro K h
  simp only [e_zbe] at h
  split at h
  ·exact hx ⟨_, _, _, _, rfl, rfl⟩
  ·exact h
noncomputable def e_zbh : Entry := ⟨[none], true, fun args H K => match args, H with
 | [.rsI .u32 a0n a0], [] => zbh a0n a0 (fun y0 y1 => K (EV.rsI IntKind.u32 y0 y1) [])
 | _, _ => False⟩
noncomputable def e_zbg : Entry := ⟨[none], true, fun args H K => match args, H with
 | [.slice 0 0 a0l (some a0c) 1], [some (.arr .u32 a0n a0)] => zbg a0l a0c a0n a0 (fun y0 y1 y2 y3 => K (EV.slice 0 0 y0 (some y1) 1) [some (EV.arr IntKind.u32 y2 y3)])
 | _, _ => False⟩
noncomputable def e_zbf : Entry := ⟨[none], true, fun args H K => match args, H with
 | [.slice 0 0 a0l none 1], [some (.arr .u32 a0n a0)] => zbf a0l a0n a0 (fun y0 y1 y2 => K (EV.slice 0 0 y0 none 1) [some (EV.arr IntKind.u32 y1 y2)])
 | _, _ => False⟩
noncomputable def e_nat_cut : Entry := Entry.pick (fun args H => match args, H with | [.rsI .u32 a0n a0], [] => true | _, _ => false) e_zbh (Entry.pick (fun args H => match args, H with | [.slice 0 0 a0l (some a0c) 1], [some (.arr .u32 a0n a0)] => true | _, _ => false) e_zbg (e_zbf))
noncomputable def E_zbh : Env := ⟨look tys, look [], look [(1, zbh.l1.entry)], gl, lookL [], false⟩
theorem zbh.l1X.stepEq (R : List EV → Heap → Prop) (K : Ex → List EV → Heap → Prop) (x0 : Nat) (x1 : Nat → Int) : loopStep (evCode E_zbh (loopAt Tryd.f75 0) { (LV.mk 1 [(0, 1)] 4 0 false) with nx := live (.loop (loopAt Tryd.f75 0)) (LV.mk 1 [(0, 1)] 4 0 false) }) (live (.loop (loopAt Tryd.f75 0)) (LV.mk 1 [(0, 1)] 4 0 false)) (LV.mk 1 [(0, 1)] 4 0 false) 0 21 R [EV.rsI IntKind.u32 x0 x1] [] K = zbh.l1.step (fun x0 x1 => R [EV.rsI IntKind.u32 x0 x1] []) (fun y0 y1 => K (.exit 0) [EV.rsI IntKind.u32 y0 y1] []) x0 x1 := (stepQ_eq _ _ _ _ _ _ _ _ _ _ _).symm.trans (by kernel_rfl)
theorem zbh.l1X.eq (K : Ex → List EV → Heap → Prop) : ∀ (n : Nat) (x0 : Nat) (x1 : Nat → Int), loopE E_zbh (loopAt Tryd.f75 0) (LV.mk 1 [(0, 1)] 4 0 false) 0 21 K n [EV.rsI IntKind.u32 x0 x1] [] = zbh.l1 (fun y0 y1 => K (.exit 0) [EV.rsI IntKind.u32 y0 y1] []) n x0 x1
 | 0, _, _ => rfl
 | n + 1, x0, x1 => by
  have ih : (fun (x0 : Nat) (x1 : Nat → Int) => loopE E_zbh (loopAt Tryd.f75 0) (LV.mk 1 [(0, 1)] 4 0 false) 0 21 K n [EV.rsI IntKind.u32 x0 x1] []) = zbh.l1 (fun y0 y1 => K (.exit 0) [EV.rsI IntKind.u32 y0 y1] []) n := by funext x0 x1; exact zbh.l1X.eq K n x0 x1
  show loopStep _ _ _ _ _ (loopE E_zbh (loopAt Tryd.f75 0) (LV.mk 1 [(0, 1)] 4 0 false) 0 21 K n) [EV.rsI IntKind.u32 x0 x1] [] K = zbh.l1.step (zbh.l1 (fun y0 y1 => K (.exit 0) [EV.rsI IntKind.u32 y0 y1] []) n) (fun y0 y1 => K (.exit 0) [EV.rsI IntKind.u32 y0 y1] []) x0 x1
  rw [← ih]
  exact zbh.l1X.stepEq _ K x0 x1
theorem zbh.l1X.ok : LoopEq E_zbh (loopAt Tryd.f75 0) := by
 intro L hL vs H
 have h1 : E_zbh.lp (firstRegion (loopAt Tryd.f75 0)) = some zbh.l1.entry := by kernel_rfl
 have h2 : L = zbh.l1.entry := Option.some.inj (hL.symm.trans h1)
 subst h2
 by_cases hx : ∃ (x0 : Nat) (x1 : Nat → Int), vs = [EV.rsI IntKind.u32 x0 x1] ∧ H = []
 ·obtain ⟨x0, x1, rfl, rfl⟩ := hx
  right; intro K
  exact exists_congr fun n => iff_of_eq (zbh.l1X.eq K n x0 x1).symm
 ·left; intro K h
  simp only [zbh.l1.entry] at h
  split at h
  ·exact hx ⟨_, _, rfl, rfl⟩
  ·exact h
theorem X_zbh.eq (a0n : Nat) (a0 : Nat → Int) (K : EV → Heap → Prop) : evFn E_zbh Tryd.f75 true [.rsI .u32 a0n a0] [] K = zbh a0n a0 (fun y0 y1 => K (EV.rsI IntKind.u32 y0 y1) []) := by
 rw [zbh.is]; exact (evFnQ_eq _ _ _ _ _ _).symm.trans (by kernel_rfl)
theorem X_zbh.ok : SoundE Tryd.prog gl 75 e_zbh := by
 refine fnOK (E := E_zbh) (fn := Tryd.f75) rfl tys_ok rfl (show AllL _ [] from trivial) mixed (by kernel_rfl) (by kernel_rfl) (by kernel_rfl) 1 (by kernel_rfl) true ⟨zbh.l1X.ok, trivial⟩ ?_
 intro args H
 by_cases hx : ∃ (a0n : Nat) (a0 : Nat → Int), args = [.rsI .u32 a0n a0] ∧ H = []
 ·obtain ⟨a0n, a0, rfl, rfl⟩ := hx
  right; intro K
  exact iff_of_eq (X_zbh.eq a0n a0 K).symm
 ·left; intro K h
  simp only [e_zbh] at h
  split at h
  ·exact hx ⟨_, _, rfl, rfl⟩
  ·exact h
noncomputable def E_zbg : Env := ⟨look tys, look [], look [(1, zbg.l1.entry)], gl, lookL [], false⟩
theorem zbg.l1X.stepEq (R : List EV → Heap → Prop) (K : Ex → List EV → Heap → Prop) (x0 : Nat) (x1 : Nat) (x2 : Nat) (x3 : Nat → Int) : loopStep (evCode E_zbg (loopAt Tryd.f75 0) { (LV.mk 1 [(0, 1)] 4 1 false) with nx := live (.loop (loopAt Tryd.f75 0)) (LV.mk 1 [(0, 1)] 4 1 false) }) (live (.loop (loopAt Tryd.f75 0)) (LV.mk 1 [(0, 1)] 4 1 false)) (LV.mk 1 [(0, 1)] 4 1 false) 1 21 R [EV.slice 0 0 x0 (some x1) 1] [some (EV.arr IntKind.u32 x2 x3)] K = zbg.l1.step (fun x0 x1 x2 x3 => R [EV.slice 0 0 x0 (some x1) 1] [some (EV.arr IntKind.u32 x2 x3)]) (fun y0 y1 y2 y3 => K (.exit 0) [EV.slice 0 0 y0 (some y1) 1] [some (EV.arr IntKind.u32 y2 y3)]) x0 x1 x2 x3 := (stepQ_eq _ _ _ _ _ _ _ _ _ _ _).symm.trans (by kernel_rfl)
theorem zbg.l1X.eq (K : Ex → List EV → Heap → Prop) : ∀ (n : Nat) (x0 : Nat) (x1 : Nat) (x2 : Nat) (x3 : Nat → Int), loopE E_zbg (loopAt Tryd.f75 0) (LV.mk 1 [(0, 1)] 4 1 false) 1 21 K n [EV.slice 0 0 x0 (some x1) 1] [some (EV.arr IntKind.u32 x2 x3)] = zbg.l1 (fun y0 y1 y2 y3 => K (.exit 0) [EV.slice 0 0 y0 (some y1) 1] [some (EV.arr IntKind.u32 y2 y3)]) n x0 x1 x2 x3
 | 0, _, _, _, _ => rfl
 | n + 1, x0, x1, x2, x3 => by
  have ih : (fun (x0 : Nat) (x1 : Nat) (x2 : Nat) (x3 : Nat → Int) => loopE E_zbg (loopAt Tryd.f75 0) (LV.mk 1 [(0, 1)] 4 1 false) 1 21 K n [EV.slice 0 0 x0 (some x1) 1] [some (EV.arr IntKind.u32 x2 x3)]) = zbg.l1 (fun y0 y1 y2 y3 => K (.exit 0) [EV.slice 0 0 y0 (some y1) 1] [some (EV.arr IntKind.u32 y2 y3)]) n := by funext x0 x1 x2 x3; exact zbg.l1X.eq K n x0 x1 x2 x3
  show loopStep _ _ _ _ _ (loopE E_zbg (loopAt Tryd.f75 0) (LV.mk 1 [(0, 1)] 4 1 false) 1 21 K n) [EV.slice 0 0 x0 (some x1) 1] [some (EV.arr IntKind.u32 x2 x3)] K = zbg.l1.step (zbg.l1 (fun y0 y1 y2 y3 => K (.exit 0) [EV.slice 0 0 y0 (some y1) 1] [some (EV.arr IntKind.u32 y2 y3)]) n) (fun y0 y1 y2 y3 => K (.exit 0) [EV.slice 0 0 y0 (some y1) 1] [some (EV.arr IntKind.u32 y2 y3)]) x0 x1 x2 x3
  rw [← ih]
  exact zbg.l1X.stepEq _ K x0 x1 x2 x3
theorem zbg.l1X.ok : LoopEq E_zbg (loopAt Tryd.f75 0) := by
 intro L hL vs H
 have h1 : E_zbg.lp (firstRegion (loopAt Tryd.f75 0)) = some zbg.l1.entry := by kernel_rfl
 have h2 : L = zbg.l1.entry := Option.some.inj (hL.symm.trans h1)
 subst h2
 by_cases hx : ∃ (x0 : Nat) (x1 : Nat) (x2 : Nat) (x3 : Nat → Int), vs = [EV.slice 0 0 x0 (some x1) 1] ∧ H = [some (EV.arr IntKind.u32 x2 x3)]
 ·obtain ⟨x0, x1, x2, x3, rfl, rfl⟩ := hx
  right; intro K
  exact exists_congr fun n => iff_of_eq (zbg.l1X.eq K n x0 x1 x2 x3).symm
 ·left; intro K h
  simp only [zbg.l1.entry] at h
  split at h
  ·exact hx ⟨_, _, _, _, rfl, rfl⟩
  ·exact h
theorem X_zbg.eq (a0l : Nat) (a0c : Nat) (a0n : Nat) (a0 : Nat → Int) (K : EV → Heap → Prop) : evFn E_zbg Tryd.f75 true [.slice 0 0 a0l (some a0c) 1] [some (.arr .u32 a0n a0)] K = zbg a0l a0c a0n a0 (fun y0 y1 y2 y3 => K (EV.slice 0 0 y0 (some y1) 1) [some (EV.arr IntKind.u32 y2 y3)]) := by
 rw [zbg.is]; exact (evFnQ_eq _ _ _ _ _ _).symm.trans (by kernel_rfl)
theorem X_zbg.ok : SoundE Tryd.prog gl 75 e_zbg := by
 refine fnOK (E := E_zbg) (fn := Tryd.f75) rfl tys_ok rfl (show AllL _ [] from trivial) mixed (by kernel_rfl) (by kernel_rfl) (by kernel_rfl) 1 (by kernel_rfl) true ⟨zbg.l1X.ok, trivial⟩ ?_
 intro args H
 by_cases hx : ∃ (a0l : Nat) (a0c : Nat) (a0n : Nat) (a0 : Nat → Int), args = [.slice 0 0 a0l (some a0c) 1] ∧ H = [some (.arr .u32 a0n a0)]
 ·obtain ⟨a0l, a0c, a0n, a0, rfl, rfl⟩ := hx
  right; intro K
  exact iff_of_eq (X_zbg.eq a0l a0c a0n a0 K).symm
 ·left; intro K h
  simp only [e_zbg] at h
  split at h
  ·exact hx ⟨_, _, _, _, rfl, rfl⟩
  ·exact h
noncomputable def E_zbf : Env := ⟨look tys, look [], look [(1, zbf.l1.entry)], gl, lookL [], false⟩
theorem zbf.l1X.stepEq (R : List EV → Heap → Prop) (K : Ex → List EV → Heap → Prop) (x0 : Nat) (x1 : Nat) (x2 : Nat → Int) : loopStep (evCode E_zbf (loopAt Tryd.f75 0) { (LV.mk 1 [(0, 1)] 4 1 false) with nx := live (.loop (loopAt Tryd.f75 0)) (LV.mk 1 [(0, 1)] 4 1 false) }) (live (.loop (loopAt Tryd.f75 0)) (LV.mk 1 [(0, 1)] 4 1 false)) (LV.mk 1 [(0, 1)] 4 1 false) 1 21 R [EV.slice 0 0 x0 none 1] [some (EV.arr IntKind.u32 x1 x2)] K = zbf.l1.step (fun x0 x1 x2 => R [EV.slice 0 0 x0 none 1] [some (EV.arr IntKind.u32 x1 x2)]) (fun y0 y1 y2 => K (.exit 0) [EV.slice 0 0 y0 none 1] [some (EV.arr IntKind.u32 y1 y2)]) x0 x1 x2 := (stepQ_eq _ _ _ _ _ _ _ _ _ _ _).symm.trans (by kernel_rfl)
theorem zbf.l1X.eq (K : Ex → List EV → Heap → Prop) : ∀ (n : Nat) (x0 : Nat) (x1 : Nat) (x2 : Nat → Int), loopE E_zbf (loopAt Tryd.f75 0) (LV.mk 1 [(0, 1)] 4 1 false) 1 21 K n [EV.slice 0 0 x0 none 1] [some (EV.arr IntKind.u32 x1 x2)] = zbf.l1 (fun y0 y1 y2 => K (.exit 0) [EV.slice 0 0 y0 none 1] [some (EV.arr IntKind.u32 y1 y2)]) n x0 x1 x2
 | 0, _, _, _ => rfl
 | n + 1, x0, x1, x2 => by
  have ih : (fun (x0 : Nat) (x1 : Nat) (x2 : Nat → Int) => loopE E_zbf (loopAt Tryd.f75 0) (LV.mk 1 [(0, 1)] 4 1 false) 1 21 K n [EV.slice 0 0 x0 none 1] [some (EV.arr IntKind.u32 x1 x2)]) = zbf.l1 (fun y0 y1 y2 => K (.exit 0) [EV.slice 0 0 y0 none 1] [some (EV.arr IntKind.u32 y1 y2)]) n := by funext x0 x1 x2; exact zbf.l1X.eq K n x0 x1 x2
  show loopStep _ _ _ _ _ (loopE E_zbf (loopAt Tryd.f75 0) (LV.mk 1 [(0, 1)] 4 1 false) 1 21 K n) [EV.slice 0 0 x0 none 1] [some (EV.arr IntKind.u32 x1 x2)] K = zbf.l1.step (zbf.l1 (fun y0 y1 y2 => K (.exit 0) [EV.slice 0 0 y0 none 1] [some (EV.arr IntKind.u32 y1 y2)]) n) (fun y0 y1 y2 => K (.exit 0) [EV.slice 0 0 y0 none 1] [some (EV.arr IntKind.u32 y1 y2)]) x0 x1 x2
  rw [← ih]
  exact zbf.l1X.stepEq _ K x0 x1 x2
theorem zbf.l1X.ok : LoopEq E_zbf (loopAt Tryd.f75 0) := by
 intro L hL vs H
 have h1 : E_zbf.lp (firstRegion (loopAt Tryd.f75 0)) = some zbf.l1.entry := by kernel_rfl
 have h2 : L = zbf.l1.entry := Option.some.inj (hL.symm.trans h1)
 subst h2
 by_cases hx : ∃ (x0 : Nat) (x1 : Nat) (x2 : Nat → Int), vs = [EV.slice 0 0 x0 none 1] ∧ H = [some (EV.arr IntKind.u32 x1 x2)]
 ·obtain ⟨x0, x1, x2, rfl, rfl⟩ := hx
  right; intro K
  exact exists_congr fun n => iff_of_eq (zbf.l1X.eq K n x0 x1 x2).symm
 ·left; intro K h
  simp only [zbf.l1.entry] at h
  split at h
  ·exact hx ⟨_, _, _, rfl, rfl⟩
  ·exact h
theorem X_zbf.eq (a0l : Nat) (a0n : Nat) (a0 : Nat → Int) (K : EV → Heap → Prop) : evFn E_zbf Tryd.f75 true [.slice 0 0 a0l none 1] [some (.arr .u32 a0n a0)] K = zbf a0l a0n a0 (fun y0 y1 y2 => K (EV.slice 0 0 y0 none 1) [some (EV.arr IntKind.u32 y1 y2)]) := by
 rw [zbf.is]; exact (evFnQ_eq _ _ _ _ _ _).symm.trans (by kernel_rfl)
theorem X_zbf.ok : SoundE Tryd.prog gl 75 e_zbf := by
 refine fnOK (E := E_zbf) (fn := Tryd.f75) rfl tys_ok rfl (show AllL _ [] from trivial) mixed (by kernel_rfl) (by kernel_rfl) (by kernel_rfl) 1 (by kernel_rfl) true ⟨zbf.l1X.ok, trivial⟩ ?_
 intro args H
 by_cases hx : ∃ (a0l : Nat) (a0n : Nat) (a0 : Nat → Int), args = [.slice 0 0 a0l none 1] ∧ H = [some (.arr .u32 a0n a0)]
 ·obtain ⟨a0l, a0n, a0, rfl, rfl⟩ := hx
  right; intro K
  exact iff_of_eq (X_zbf.eq a0l a0n a0 K).symm
 ·left; intro K h
  simp only [e_zbf] at h
  split at h
  ·exact hx ⟨_, _, _, rfl, rfl⟩
  ·exact h
theorem X_nat_cut.ok : SoundE Tryd.prog gl 75 e_nat_cut := SoundE.pick X_zbh.ok (SoundE.pick X_zbg.ok (X_zbf.ok))
noncomputable def e_zbr : Entry := ⟨[some .u32, none], true, fun args H K => match args, H with
 | [.rsI .u32 a0n a0, .int .i64 a1], [] => zbr a0n a0 a1 (K (EV.nilSlice) []) (fun y0 y1 y2 y3 => K (EV.slice 0 0 y0 (some y1) 1) [some (EV.arr IntKind.u32 y2 y3)])
 | _, _ => False⟩
noncomputable def l_zbr : List (Nat × Entry) := [(75, e_nat_cut)]
noncomputable def E_zbr : Env := ⟨look tys, look l_zbr, look [(5, zbr.l5.entry)], gl, lookL [], false⟩
theorem zbr.l5X.stepEq (R : List EV → Heap → Prop) (K : Ex → List EV → Heap → Prop) (x0 : Int) (x1 : Nat) (x2 : Nat) (x3 : Nat) (x4 : Nat → Int) (x5 : Int) (x6 : Int) (x7 : Nat) (x8 : Nat → Int) : loopStep (evCode E_zbr (loopAt Tryd.f76 0) { (LV.mk 32 [(0, 32)] 16 0 false) with nx := live (.loop (loopAt Tryd.f76 0)) (LV.mk 32 [(0, 32)] 16 0 false) }) (live (.loop (loopAt Tryd.f76 0)) (LV.mk 32 [(0, 32)] 16 0 false)) (LV.mk 32 [(0, 32)] 16 0 false) 0 59 R [EV.int IntKind.i64 x0, EV.slice 0 0 x1 (some x2) 1, EV.rsI IntKind.u32 x3 x4, EV.int IntKind.i64 x5, EV.int IntKind.i64 x6] [some (EV.arr IntKind.u32 x7 x8)] K = zbr.l5.step (fun x0 x1 x2 x3 x4 x5 x6 x7 x8 => R [EV.int IntKind.i64 x0, EV.slice 0 0 x1 (some x2) 1, EV.rsI IntKind.u32 x3 x4, EV.int IntKind.i64 x5, EV.int IntKind.i64 x6] [some (EV.arr IntKind.u32 x7 x8)]) (fun y0 y1 y2 y3 => K (.exit 0) [EV.slice 0 0 y0 (some y1) 1] [some (EV.arr IntKind.u32 y2 y3)]) x0 x1 x2 x3 x4 x5 x6 x7 x8 := (stepQ_eq _ _ _ _ _ _ _ _ _ _ _).symm.trans (by kernel_rfl)
theorem zbr.l5X.eq (K : Ex → List EV → Heap → Prop) : ∀ (n : Nat) (x0 : Int) (x1 : Nat) (x2 : Nat) (x3 : Nat) (x4 : Nat → Int) (x5 : Int) (x6 : Int) (x7 : Nat) (x8 : Nat → Int), loopE E_zbr (loopAt Tryd.f76 0) (LV.mk 32 [(0, 32)] 16 0 false) 0 59 K n [EV.int IntKind.i64 x0, EV.slice 0 0 x1 (some x2) 1, EV.rsI IntKind.u32 x3 x4, EV.int IntKind.i64 x5, EV.int IntKind.i64 x6] [some (EV.arr IntKind.u32 x7 x8)] = zbr.l5 (fun y0 y1 y2 y3 => K (.exit 0) [EV.slice 0 0 y0 (some y1) 1] [some (EV.arr IntKind.u32 y2 y3)]) n x0 x1 x2 x3 x4 x5 x6 x7 x8
 | 0, _, _, _, _, _, _, _, _, _ => rfl
 | n + 1, x0, x1, x2, x3, x4, x5, x6, x7, x8 => by
  have ih : (fun (x0 : Int) (x1 : Nat) (x2 : Nat) (x3 : Nat) (x4 : Nat → Int) (x5 : Int) (x6 : Int) (x7 : Nat) (x8 : Nat → Int) => loopE E_zbr (loopAt Tryd.f76 0) (LV.mk 32 [(0, 32)] 16 0 false) 0 59 K n [EV.int IntKind.i64 x0, EV.slice 0 0 x1 (some x2) 1, EV.rsI IntKind.u32 x3 x4, EV.int IntKind.i64 x5, EV.int IntKind.i64 x6] [some (EV.arr IntKind.u32 x7 x8)]) = zbr.l5 (fun y0 y1 y2 y3 => K (.exit 0) [EV.slice 0 0 y0 (some y1) 1] [some (EV.arr IntKind.u32 y2 y3)]) n := by funext x0 x1 x2 x3 x4 x5 x6 x7 x8; exact zbr.l5X.eq K n x0 x1 x2 x3 x4 x5 x6 x7 x8
  show loopStep _ _ _ _ _ (loopE E_zbr (loopAt Tryd.f76 0) (LV.mk 32 [(0, 32)] 16 0 false) 0 59 K n) [EV.int IntKind.i64 x0, EV.slice 0 0 x1 (some x2) 1, EV.rsI IntKind.u32 x3 x4, EV.int IntKind.i64 x5, EV.int IntKind.i64 x6] [some (EV.arr IntKind.u32 x7 x8)] K = zbr.l5.step (zbr.l5 (fun y0 y1 y2 y3 => K (.exit 0) [EV.slice 0 0 y0 (some y1) 1] [some (EV.arr IntKind.u32 y2 y3)]) n) (fun y0 y1 y2 y3 => K (.exit 0) [EV.slice 0 0 y0 (some y1) 1] [some (EV.arr IntKind.u32 y2 y3)]) x0 x1 x2 x3 x4 x5 x6 x7 x8
  rw [← ih]
  exact zbr.l5X.stepEq _ K x0 x1 x2 x3 x4 x5 x6 x7 x8
theorem zbr.l5X.ok : LoopEq E_zbr (loopAt Tryd.f76 0) := by
 intro L hL vs H
 have h1 : E_zbr.lp (firstRegion (loopAt Tryd.f76 0)) = some zbr.l5.entry := by kernel_rfl
 have h2 : L = zbr.l5.entry := Option.some.inj (hL.symm.trans h1)
 subst h2
 by_cases hx : ∃ (x0 : Int) (x1 : Nat) (x2 : Nat) (x3 : Nat) (x4 : Nat → Int) (x5 : Int) (x6 : Int) (x7 : Nat) (x8 : Nat → Int), vs = [EV.int IntKind.i64 x0, EV.slice 0 0 x1 (some x2) 1, EV.rsI IntKind.u32 x3 x4, EV.int IntKind.i64 x5, EV.int IntKind.i64 x6] ∧ H = [some (EV.arr IntKind.u32 x7 x8)]
 ·obtain ⟨x0, x1, x2, x3, x4, x5, x6, x7, x8, rfl, rfl⟩ := hx
  right; intro K
  exact exists_congr fun n => iff_of_eq (zbr.l5X.eq K n x0 x1 x2 x3 x4 x5 x6 x7 x8).symm
 ·left; intro K h
  simp only [zbr.l5.entry] at h
  split at h
  ·exact hx ⟨_, _, _, _, _, _, _, _, _, rfl, rfl⟩
  ·exact h
theorem X_zbr.eq (a0n : Nat) (a0 : Nat → Int) (a1 : Int) (K : EV → Heap → Prop) : evFn E_zbr Tryd.f76 true [.rsI .u32 a0n a0, .int .i64 a1] [] K = zbr a0n a0 a1 (K (EV.nilSlice) []) (fun y0 y1 y2 y3 => K (EV.slice 0 0 y0 (some y1) 1) [some (EV.arr IntKind.u32 y2 y3)]) := by
 rw [zbr.is]; exact (evFnQ_eq _ _ _ _ _ _).symm.trans (by kernel_rfl)
theorem X_zbr.ok : SoundE Tryd.prog gl 76 e_zbr := by
 refine fnOK (E := E_zbr) (fn := Tryd.f76) rfl tys_ok rfl (show AllL _ l_zbr from ⟨X_nat_cut.ok, trivial⟩) mixed (by kernel_rfl) (by kernel_rfl) (by kernel_rfl) 1 (by kernel_rfl) true ⟨zbr.l5X.ok, trivial⟩ ?_
 intro args H
 by_cases hx : ∃ (a0n : Nat) (a0 : Nat → Int) (a1 : Int), args = [.rsI .u32 a0n a0, .int .i64 a1] ∧ H = []
 ·obtain ⟨a0n, a0, a1, rfl, rfl⟩ := hx
  right; intro K
  exact iff_of_eq (X_zbr.eq a0n a0 a1 K).symm
 ·left; intro K h
  simp only [e_zbr] at h
  split at h
  ·exact hx ⟨_, _, _, rfl, rfl⟩
  ·exact h
noncomputable def e_nat_upN : Entry := Entry.nonil e_zbr
theorem X_nat_upN.ok : SoundE Tryd.prog gl 76 e_nat_upN := SoundE.nonil X_zbr.ok
noncomputable def e_zbi : Entry := ⟨[some .u32, none], false, fun args H K => match args, H with
 | [.rsI .u32 a0n a0, .int .i64 a1], [] => zbi a0n a0 a1 (fun y0 y1 => K (EV.rsI IntKind.u32 y0 y1) [])
 | _, _ => False⟩
noncomputable def l_zbi : List (Nat × Entry) := [(75, e_nat_cut)]
noncomputable def E_zbi : Env := ⟨look tys, look l_zbi, look [(5, zbi.l5.entry)], gl, lookL [], false⟩
theorem zbi.l5X.stepEq (R : List EV → Heap → Prop) (K : Ex → List EV → Heap → Prop) (x0 : Nat) (x1 : Nat → Int) (x2 : Int) (x3 : Nat) (x4 : Nat) (x5 : Int) (x6 : Int) (x7 : Nat) (x8 : Nat → Int) : loopStep (evCode E_zbi (loopAt Tryd.f77 0) { (LV.mk 32 [(0, 32)] 16 0 false) with nx := live (.loop (loopAt Tryd.f77 0)) (LV.mk 32 [(0, 32)] 16 0 false) }) (live (.loop (loopAt Tryd.f77 0)) (LV.mk 32 [(0, 32)] 16 0 false)) (LV.mk 32 [(0, 32)] 16 0 false) 0 64 R [EV.rsI IntKind.u32 x0 x1, EV.int IntKind.i64 x2, EV.slice 0 0 x3 (some x4) 1, EV.int IntKind.i64 x5, EV.int IntKind.i64 x6] [some (EV.arr IntKind.u32 x7 x8)] K = zbi.l5.step (fun x0 x1 x2 x3 x4 x5 x6 x7 x8 => R [EV.rsI IntKind.u32 x0 x1, EV.int IntKind.i64 x2, EV.slice 0 0 x3 (some x4) 1, EV.int IntKind.i64 x5, EV.int IntKind.i64 x6] [some (EV.arr IntKind.u32 x7 x8)]) (fun y0 y1 y2 y3 => K (.exit 0) [EV.slice 0 0 y0 (some y1) 1] [some (EV.arr IntKind.u32 y2 y3)]) x0 x1 x2 x3 x4 x5 x6 x7 x8 := (stepQ_eq _ _ _ _ _ _ _ _ _ _ _).symm.trans (by kernel_rfl)
theorem zbi.l5X.eq (K : Ex → List EV → Heap → Prop) : ∀ (n : Nat) (x0 : Nat) (x1 : Nat → Int) (x2 : Int) (x3 : Nat) (x4 : Nat) (x5 : Int) (x6 : Int) (x7 : Nat) (x8 : Nat → Int), loopE E_zbi (loopAt Tryd.f77 0) (LV.mk 32 [(0, 32)] 16 0 false) 0 64 K n [EV.rsI IntKind.u32 x0 x1, EV.int IntKind.i64 x2, EV.slice 0 0 x3 (some x4) 1, EV.int IntKind.i64 x5, EV.int IntKind.i64 x6] [some (EV.arr IntKind.u32 x7 x8)] = zbi.l5 (fun y0 y1 y2 y3 => K (.exit 0) [EV.slice 0 0 y0 (some y1) 1] [some (EV.arr IntKind.u32 y2 y3)]) n x0 x1 x2 x3 x4 x5 x6 x7 x8
 | 0, _, _, _, _, _, _, _, _, _ => rfl
 | n + 1, x0, x1, x2, x3, x4, x5, x6, x7, x8 => by
  have ih : (fun (x0 : Nat) (x1 : Nat → Int) (x2 : Int) (x3 : Nat) (x4 : Nat) (x5 : Int) (x6 : Int) (x7 : Nat) (x8 : Nat → Int) => loopE E_zbi (loopAt Tryd.f77 0) (LV.mk 32 [(0, 32)] 16 0 false) 0 64 K n [EV.rsI IntKind.u32 x0 x1, EV.int IntKind.i64 x2, EV.slice 0 0 x3 (some x4) 1, EV.int IntKind.i64 x5, EV.int IntKind.i64 x6] [some (EV.arr IntKind.u32 x7 x8)]) = zbi.l5 (fun y0 y1 y2 y3 => K (.exit 0) [EV.slice 0 0 y0 (some y1) 1] [some (EV.arr IntKind.u32 y2 y3)]) n := by funext x0 x1 x2 x3 x4 x5 x6 x7 x8; exact zbi.l5X.eq K n x0 x1 x2 x3 x4 x5 x6 x7 x8
  show loopStep _ _ _ _ _ (loopE E_zbi (loopAt Tryd.f77 0) (LV.mk 32 [(0, 32)] 16 0 false) 0 64 K n) [EV.rsI IntKind.u32 x0 x1, EV.int IntKind.i64 x2, EV.slice 0 0 x3 (some x4) 1, EV.int IntKind.i64 x5, EV.int IntKind.i64 x6] [some (EV.arr IntKind.u32 x7 x8)] K = zbi.l5.step (zbi.l5 (fun y0 y1 y2 y3 => K (.exit 0) [EV.slice 0 0 y0 (some y1) 1] [some (EV.arr IntKind.u32 y2 y3)]) n) (fun y0 y1 y2 y3 => K (.exit 0) [EV.slice 0 0 y0 (some y1) 1] [some (EV.arr IntKind.u32 y2 y3)]) x0 x1 x2 x3 x4 x5 x6 x7 x8
  rw [← ih]
  exact zbi.l5X.stepEq _ K x0 x1 x2 x3 x4 x5 x6 x7 x8
theorem zbi.l5X.ok : LoopEq E_zbi (loopAt Tryd.f77 0) := by
 intro L hL vs H
 have h1 : E_zbi.lp (firstRegion (loopAt Tryd.f77 0)) = some zbi.l5.entry := by kernel_rfl
 have h2 : L = zbi.l5.entry := Option.some.inj (hL.symm.trans h1)
 subst h2
 by_cases hx : ∃ (x0 : Nat) (x1 : Nat → Int) (x2 : Int) (x3 : Nat) (x4 : Nat) (x5 : Int) (x6 : Int) (x7 : Nat) (x8 : Nat → Int), vs = [EV.rsI IntKind.u32 x0 x1, EV.int IntKind.i64 x2, EV.slice 0 0 x3 (some x4) 1, EV.int IntKind.i64 x5, EV.int IntKind.i64 x6] ∧ H = [some (EV.arr IntKind.u32 x7 x8)]
 ·obtain ⟨x0, x1, x2, x3, x4, x5, x6, x7, x8, rfl, rfl⟩ := hx
  right; intro K
  exact exists_congr fun n => iff_of_eq (zbi.l5X.eq K n x0 x1 x2 x3 x4 x5 x6 x7 x8).symm
 ·left; intro K h
  simp only [zbi.l5.entry] at h
  split at h
  ·exact hx ⟨_, _, _, _, _, _, _, _, _, rfl, rfl⟩
  ·exact h
theorem X_zbi.eq (a0n : Nat) (a0 : Nat → Int) (a1 : Int) (K : EV → Heap → Prop) : evFn E_zbi Tryd.f77 false [.rsI .u32 a0n a0, .int .i64 a1] [] K = zbi a0n a0 a1 (fun y0 y1 => K (EV.rsI IntKind.u32 y0 y1) []) := by
 rw [zbi.is]; exact (evFnQ_eq _ _ _ _ _ _).symm.trans (by kernel_rfl)
theorem X_zbi.ok : SoundE Tryd.prog gl 77 e_zbi := by
 refine fnOK (E := E_zbi) (fn := Tryd.f77) rfl tys_ok rfl (show AllL _ l_zbi from ⟨X_nat_cut.ok, trivial⟩) mixed (by kernel_rfl) (by kernel_rfl) (by kernel_rfl) 1 (by kernel_rfl) false ⟨zbi.l5X.ok, trivial⟩ ?_
 intro args H
 by_cases hx : ∃ (a0n : Nat) (a0 : Nat → Int) (a1 : Int), args = [.rsI .u32 a0n a0, .int .i64 a1] ∧ H = []
 ·obtain ⟨a0n, a0, a1, rfl, rfl⟩ := hx
  right; intro K
  exact iff_of_eq (X_zbi.eq a0n a0 a1 K).symm
 ·left; intro K h
  simp only [e_zbi] at h
  split at h
  ·exact hx ⟨_, _, _, rfl, rfl⟩
  ·exact h
noncomputable def e_zbm : Entry := ⟨[some .u32, some .u32], false, fun args H K => match args, H with
 | [.rsI .u32 a0n a0, .rsI .u32 a1n a1], [] => zbm a0n a0 a1n a1 (fun y0 y1 y2 y3 => K (EV.tuple [EV.rsI IntKind.u32 y0 y1, EV.rsI IntKind.u32 y2 y3]) [])
 | _, _ => False⟩
noncomputable def l_zbm : List (Nat × Entry) := [(61, e_zdt), (74, e_zbe), (75, e_nat_cut), (76, e_nat_upN), (77, e_zbi)]
noncomputable def E_zbm : Env := ⟨look tys, look l_zbm, look [(7, zbm.l7.entry), (16, zbm.l16.entry), (20, zbm.l20.entry), (24, zbm.l24.entry), (31, zbm.l31.entry), (45, zbm.l45.entry)], gl, lookL [], true⟩
theorem zbm.l7X.stepEq (R : List EV → Heap → Prop) (K : Ex → List EV → Heap → Prop) (x0 : Nat) (x1 : Nat → Int) (x2 : Nat) (x3 : Nat → Int) (x4 : Nat) (x5 : Int) (x6 : Int) (x7 : Nat) (x8 : Nat → Int) : loopStep (evCode E_zbm (loopAt Tryd.f52 0) { (LV.mk 80 [(0, 80)] 48 0 true) with nx := live (.loop (loopAt Tryd.f52 0)) (LV.mk 80 [(0, 80)] 48 0 true) }) (live (.loop (loopAt Tryd.f52 0)) (LV.mk 80 [(0, 80)] 48 0 true)) (LV.mk 80 [(0, 80)] 48 0 true) 0 285 R [EV.rsI IntKind.u32 x0 x1, EV.rsI IntKind.u32 x2 x3, EV.slice 0 0 x4 none 1, EV.int IntKind.u64 x5, EV.int IntKind.i64 x6] [some (EV.arr IntKind.u32 x7 x8)] K = zbm.l7.step (fun x0 x1 x2 x3 x4 x5 x6 x7 x8 => R [EV.rsI IntKind.u32 x0 x1, EV.rsI IntKind.u32 x2 x3, EV.slice 0 0 x4 none 1, EV.int IntKind.u64 x5, EV.int IntKind.i64 x6] [some (EV.arr IntKind.u32 x7 x8)]) (fun y0 y1 y2 y3 => K (.exit 0) [EV.slice 0 0 y0 none 1, EV.int IntKind.u64 y1] [some (EV.arr IntKind.u32 y2 y3)]) x0 x1 x2 x3 x4 x5 x6 x7 x8 := (stepQ_eq _ _ _ _ _ _ _ _ _ _ _).symm.trans (by kernel_rfl)
theorem zbm.l7X.eq (K : Ex → List EV → Heap → Prop) : ∀ (n : Nat) (x0 : Nat) (x1 : Nat → Int) (x2 : Nat) (x3 : Nat → Int) (x4 : Nat) (x5 : Int) (x6 : Int) (x7 : Nat) (x8 : Nat → Int), loopE E_zbm (loopAt Tryd.f52 0) (LV.mk 80 [(0, 80)] 48 0 true) 0 285 K n [EV.rsI IntKind.u32 x0 x1, EV.rsI IntKind.u32 x2 x3, EV.slice 0 0 x4 none 1, EV.int IntKind.u64 x5, EV.int IntKind.i64 x6] [some (EV.arr IntKind.u32 x7 x8)] = zbm.l7 (fun y0 y1 y2 y3 => K (.exit 0) [EV.slice 0 0 y0 none 1, EV.int IntKind.u64 y1] [some (EV.arr IntKind.u32 y2 y3)]) n x0 x1 x2 x3 x4 x5 x6 x7 x8
 | 0, _, _, _, _, _, _, _, _, _ => rfl
 | n + 1, x0, x1, x2, x3, x4, x5, x6, x7, x8 => by
  have ih : (fun (x0 : Nat) (x1 : Nat → Int) (x2 : Nat) (x3 : Nat → Int) (x4 : Nat) (x5 : Int) (x6 : Int) (x7 : Nat) (x8 : Nat → Int) => loopE E_zbm (loopAt Tryd.f52 0) (LV.mk 80 [(0, 80)] 48 0 true) 0 285 K n [EV.rsI IntKind.u32 x0 x1, EV.rsI IntKind.u32 x2 x3, EV.slice 0 0 x4 none 1, EV.int IntKind.u64 x5, EV.int IntKind.i64 x6] [some (EV.arr IntKind.u32 x7 x8)]) = zbm.l7 (fun y0 y1 y2 y3 => K (.exit 0) [EV.slice 0 0 y0 none 1, EV.int IntKind.u64 y1] [some (EV.arr IntKind.u32 y2 y3)]) n := by funext x0 x1 x2 x3 x4 x5 x6 x7 x8; exact zbm.l7X.eq K n x0 x1 x2 x3 x4 x5 x6 x7 x8
  show loopStep _ _ _ _ _ (loopE E_zbm (loopAt Tryd.f52 0) (LV.mk 80 [(0, 80)] 48 0 true) 0 285 K n) [EV.rsI IntKind.u32 x0 x1, EV.rsI IntKind.u32 x2 x3, EV.slice 0 0 x4 none 1, EV.int IntKind.u64 x5, EV.int IntKind.i64 x6] [some (EV.arr IntKind.u32 x7 x8)] K = zbm.l7.step (zbm.l7 (fun y0 y1 y2 y3 => K (.exit 0) [EV.slice 0 0 y0 none 1, EV.int IntKind.u64 y1] [some (EV.arr IntKind.u32 y2 y3)]) n) (fun y0 y1 y2 y3 => K (.exit 0) [EV.slice 0 0 y0 none 1, EV.int IntKind.u64 y1] [some (EV.arr IntKind.u32 y2 y3)]) x0 x1 x2 x3 x4 x5 x6 x7 x8
  rw [← ih]
  exact zbm.l7X.stepEq _ K x0 x1 x2 x3 x4 x5 x6 x7 x8
theorem zbm.l7X.ok : LoopEq E_zbm (loopAt Tryd.f52 0) := by
 intro L hL vs H
 have h1 : E_zbm.lp (firstRegion (loopAt Tryd.f52 0)) = some zbm.l7.entry := by kernel_rfl
 have h2 : L = zbm.l7.entry := Option.some.inj (hL.symm.trans h1)
 subst h2
 by_cases hx : ∃ (x0 : Nat) (x1 : Nat → Int) (x2 : Nat) (x3 : Nat → Int) (x4 : Nat) (x5 : Int) (x6 : Int) (x7 : Nat) (x8 : Nat → Int), vs = [EV.rsI IntKind.u32 x0 x1, EV.rsI IntKind.u32 x2 x3, EV.slice 0 0 x4 none 1, EV.int IntKind.u64 x5, EV.int IntKind.i64 x6] ∧ H = [some (EV.arr IntKind.u32 x7 x8)]
 ·obtain ⟨x0, x1, x2, x3, x4, x5, x6, x7, x8, rfl, rfl⟩ := hx
  right; intro K
  exact exists_congr fun n => iff_of_eq (zbm.l7X.eq K n x0 x1 x2 x3 x4 x5 x6 x7 x8).symm
 ·left; intro K h
  simp only [zbm.l7.entry] at h
  split at h
  ·exact hx ⟨_, _, _, _, _, _, _, _, _, rfl, rfl⟩
  ·exact h
theorem zbm.l16X.stepEq (R : List EV → Heap → Prop) (K : Ex → List EV → Heap → Prop) (x0 : Nat) (x1 : Nat → Int) (x2 : Nat) (x3 : Int) (x4 : Nat) (x5 : Nat) (x6 : Nat) (x7 : Nat → Int) (x8 : Nat) (x9 : Nat → Int) (x10 : Nat) (x11 : Nat → Int) : loopStep (evCode E_zbm (loopAt Tryd.f52 1) { (LV.mk 1808 [(2, 1808)] 48 0 true) with nx := live (.loop (loopAt Tryd.f52 1)) (LV.mk 1808 [(2, 1808)] 48 0 true) }) (live (.loop (loopAt Tryd.f52 1)) (LV.mk 1808 [(2, 1808)] 48 0 true)) (LV.mk 1808 [(2, 1808)] 48 0 true) 0 285 R [EV.rsI IntKind.u32 x0 x1, EV.slice 0 0 x2 none 1, EV.int IntKind.i64 x3, EV.slice 1 0 x4 none 1, EV.slice 2 0 x5 none 1] [some (EV.arr IntKind.u32 x6 x7), some (EV.arr IntKind.u32 x8 x9), some (EV.arr IntKind.u32 x10 x11)] K = zbm.l16.step (fun x0 x1 x2 x3 x4 x5 x6 x7 x8 x9 x10 x11 => R [EV.rsI IntKind.u32 x0 x1, EV.slice 0 0 x2 none 1, EV.int IntKind.i64 x3, EV.slice 1 0 x4 none 1, EV.slice 2 0 x5 none 1] [some (EV.arr IntKind.u32 x6 x7), some (EV.arr IntKind.u32 x8 x9), some (EV.arr IntKind.u32 x10 x11)]) (fun y0 y1 y2 y3 y4 y5 y6 y7 y8 y9 => K (.exit 2) [EV.slice 0 0 y0 none 1, EV.int IntKind.i64 y1, EV.slice 1 0 y2 none 1, EV.slice 2 0 y3 none 1] [some (EV.arr IntKind.u32 y4 y5), some (EV.arr IntKind.u32 y6 y7), some (EV.arr IntKind.u32 y8 y9)]) x0 x1 x2 x3 x4 x5 x6 x7 x8 x9 x10 x11 := (stepQ_eq _ _ _ _ _ _ _ _ _ _ _).symm.trans (by kernel_rfl)
theorem zbm.l16X.eq (K : Ex → List EV → Heap → Prop) : ∀ (n : Nat) (x0 : Nat) (x1 : Nat → Int) (x2 : Nat) (x3 : Int) (x4 : Nat) (x5 : Nat) (x6 : Nat) (x7 : Nat → Int) (x8 : Nat) (x9 : Nat → Int) (x10 : Nat) (x11 : Nat → Int), loopE E_zbm (loopAt Tryd.f52 1) (LV.mk 1808 [(2, 1808)] 48 0 true) 0 285 K n [EV.rsI IntKind.u32 x0 x1, EV.slice 0 0 x2 none 1, EV.int IntKind.i64 x3, EV.slice 1 0 x4 none 1, EV.slice 2 0 x5 none 1] [some (EV.arr IntKind.u32 x6 x7), some (EV.arr IntKind.u32 x8 x9), some (EV.arr IntKind.u32 x10 x11)] = zbm.l16 (fun y0 y1 y2 y3 y4 y5 y6 y7 y8 y9 => K (.exit 2) [EV.slice 0 0 y0 none 1, EV.int IntKind.i64 y1, EV.slice 1 0 y2 none 1, EV.slice 2 0 y3 none 1] [some (EV.arr IntKind.u32 y4 y5), some (EV.arr IntKind.u32 y6 y7), some (EV.arr IntKind.u32 y8 y9)]) n x0 x1 x2 x3 x4 x5 x6 x7 x8 x9 x10 x11
 | 0, _, _, _, _, _, _, _, _, _, _, _, _ => rfl
 | n + 1, x0, x1, x2, x3, x4, x5, x6, x7, x8, x9, x10, x11 => by
  have ih : (fun (x0 : Nat) (x1 : Nat → Int) (x2 : Nat) (x3 : Int) (x4 : Nat) (x5 : Nat) (x6 : Nat) (x7 : Nat → Int) (x8 : Nat) (x9 : Nat → Int) (x10 : Nat) (x11 : Nat → Int) => loopE E_zbm (loopAt Tryd.f52 1) (LV.mk 1808 [(2, 1808)] 48 0 true) 0 285 K n [EV.rsI IntKind.u32 x0 x1, EV.slice 0 0 x2 none 1, EV.int IntKind.i64 x3, EV.slice 1 0 x4 none 1, EV.slice 2 0 x5 none 1] [some (EV.arr IntKind.u32 x6 x7), some (EV.arr IntKind.u32 x8 x9), some (EV.arr IntKind.u32 x10 x11)]) = zbm.l16 (fun y0 y1 y2 y3 y4 y5 y6 y7 y8 y9 => K (.exit 2) [EV.slice 0 0 y0 none 1, EV.int IntKind.i64 y1, EV.slice 1 0 y2 none 1, EV.slice 2 0 y3 none 1] [some (EV.arr IntKind.u32 y4 y5), some (EV.arr IntKind.u32 y6 y7), some (EV.arr IntKind.u32 y8 y9)]) n := by funext x0 x1 x2 x3 x4 x5 x6 x7 x8 x9 x10 x11; exact zbm.l16X.eq K n x0 x1 x2 x3 x4 x5 x6 x7 x8 x9 x10 x11
  show loopStep _ _ _ _ _ (loopE E_zbm (loopAt Tryd.f52 1) (LV.mk 1808 [(2, 1808)] 48 0 true) 0 285 K n) [EV.rsI IntKind.u32 x0 x1, EV.slice 0 0 x2 none 1, EV.int IntKind.i64 x3, EV.slice 1 0 x4 none 1, EV.slice 2 0 x5 none 1] [some (EV.arr IntKind.u32 x6 x7), some (EV.arr IntKind.u32 x8 x9), some (EV.arr IntKind.u32 x10 x11)] K = zbm.l16.step (zbm.l16 (fun y0 y1 y2 y3 y4 y5 y6 y7 y8 y9 => K (.exit 2) [EV.slice 0 0 y0 none 1, EV.int IntKind.i64 y1, EV.slice 1 0 y2 none 1, EV.slice 2 0 y3 none 1] [some (EV.arr IntKind.u32 y4 y5), some (EV.arr IntKind.u32 y6 y7), some (EV.arr IntKind.u32 y8 y9)]) n) (fun y0 y1 y2 y3 y4 y5 y6 y7 y8 y9 => K (.exit 2) [EV.slice 0 0 y0 none 1, EV.int IntKind.i64 y1, EV.slice 1 0 y2 none 1, EV.slice 2 0 y3 none 1] [some (EV.arr IntKind.u32 y4 y5), some (EV.arr IntKind.u32 y6 y7), some (EV.arr IntKind.u32 y8 y9)]) x0 x1 x2 x3 x4 x5 x6 x7 x8 x9 x10 x11
  rw [← ih]
  exact zbm.l16X.stepEq _ K x0 x1 x2 x3 x4 x5 x6 x7 x8 x9 x10 x11
theorem zbm.l16X.ok : LoopEq E_zbm (loopAt Tryd.f52 1) := by
 intro L hL vs H
 have h1 : E_zbm.lp (firstRegion (loopAt Tryd.f52 1)) = some zbm.l16.entry := by kernel_rfl
 have h2 : L = zbm.l16.entry := Option.some.inj (hL.symm.trans h1)
 subst h2
 by_cases hx : ∃ (x0 : Nat) (x1 : Nat → Int) (x2 : Nat) (x3 : Int) (x4 : Nat) (x5 : Nat) (x6 : Nat) (x7 : Nat → Int) (x8 : Nat) (x9 : Nat → Int) (x10 : Nat) (x11 : Nat → Int), vs = [EV.rsI IntKind.u32 x0 x1, EV.slice 0 0 x2 none 1, EV.int IntKind.i64 x3, EV.slice 1 0 x4 none 1, EV.slice 2 0 x5 none 1] ∧ H = [some (EV.arr IntKind.u32 x6 x7), some (EV.arr IntKind.u32 x8 x9), some (EV.arr IntKind.u32 x10 x11)]
 ·obtain ⟨x0, x1, x2, x3, x4, x5, x6, x7, x8, x9, x10, x11, rfl, rfl⟩ := hx
  right; intro K
  exact exists_congr fun n => iff_of_eq (zbm.l16X.eq K n x0 x1 x2 x3 x4 x5 x6 x7 x8 x9 x10 x11).symm
 ·left; intro K h
  simp only [zbm.l16.entry] at h
  split at h
  ·exact hx ⟨_, _, _, _, _, _, _, _, _, _, _, _, rfl, rfl⟩
  ·exact h
theorem zbm.l20X.stepEq (R : List EV → Heap → Prop) (K : Ex → List EV → Heap → Prop) (x0 : Nat) (x1 : Int) (x2 : Nat) (x3 : Nat) (x4 : Int) (x5 : Int) (x6 : Nat) (x7 : Nat → Int) (x8 : Nat) (x9 : Nat → Int) (x10 : Nat) (x11 : Nat → Int) : loopStep (evCode E_zbm (loopAt Tryd.f52 2) { (LV.mk 1296 [(4, 1296)] 48 0 true) with nx := live (.loop (loopAt Tryd.f52 2)) (LV.mk 1296 [(4, 1296)] 48 0 true) }) (live (.loop (loopAt Tryd.f52 2)) (LV.mk 1296 [(4, 1296)] 48 0 true)) (LV.mk 1296 [(4, 1296)] 48 0 true) 0 285 R [EV.slice 0 0 x0 none 1, EV.int IntKind.i64 x1, EV.slice 1 0 x2 none 1, EV.slice 2 0 x3 none 1, EV.int IntKind.i64 x4, EV.int IntKind.i64 x5] [some (EV.arr IntKind.u32 x6 x7), some (EV.arr IntKind.u32 x8 x9), some (EV.arr IntKind.u32 x10 x11)] K = zbm.l20.step (fun x0 x1 x2 x3 x4 x5 x6 x7 x8 x9 x10 x11 => R [EV.slice 0 0 x0 none 1, EV.int IntKind.i64 x1, EV.slice 1 0 x2 none 1, EV.slice 2 0 x3 none 1, EV.int IntKind.i64 x4, EV.int IntKind.i64 x5] [some (EV.arr IntKind.u32 x6 x7), some (EV.arr IntKind.u32 x8 x9), some (EV.arr IntKind.u32 x10 x11)]) (fun y0 y1 y2 y3 y4 y5 y6 => K (.exit 4) [EV.slice 0 0 y0 none 1, EV.int IntKind.i64 y1, EV.slice 1 0 y2 none 1] [some (EV.arr IntKind.u32 y3 y4), some (EV.arr IntKind.u32 y5 y6)]) x0 x1 x2 x3 x4 x5 x6 x7 x8 x9 x10 x11 := (stepQ_eq _ _ _ _ _ _ _ _ _ _ _).symm.trans (by kernel_rfl)
theorem zbm.l20X.eq (K : Ex → List EV → Heap → Prop) : ∀ (n : Nat) (x0 : Nat) (x1 : Int) (x2 : Nat) (x3 : Nat) (x4 : Int) (x5 : Int) (x6 : Nat) (x7 : Nat → Int) (x8 : Nat) (x9 : Nat → Int) (x10 : Nat) (x11 : Nat → Int), loopE E_zbm (loopAt Tryd.f52 2) (LV.mk 1296 [(4, 1296)] 48 0 true) 0 285 K n [EV.slice 0 0 x0 none 1, EV.int IntKind.i64 x1, EV.slice 1 0 x2 none 1, EV.slice 2 0 x3 none 1, EV.int IntKind.i64 x4, EV.int IntKind.i64 x5] [some (EV.arr IntKind.u32 x6 x7), some (EV.arr IntKind.u32 x8 x9), some (EV.arr IntKind.u32 x10 x11)] = zbm.l20 (fun y0 y1 y2 y3 y4 y5 y6 => K (.exit 4) [EV.slice 0 0 y0 none 1, EV.int IntKind.i64 y1, EV.slice 1 0 y2 none 1] [some (EV.arr IntKind.u32 y3 y4), some (EV.arr IntKind.u32 y5 y6)]) n x0 x1 x2 x3 x4 x5 x6 x7 x8 x9 x10 x11
 | 0, _, _, _, _, _, _, _, _, _, _, _, _ => rfl
 | n + 1, x0, x1, x2, x3, x4, x5, x6, x7, x8, x9, x10, x11 => by
  have ih : (fun (x0 : Nat) (x1 : Int) (x2 : Nat) (x3 : Nat) (x4 : Int) (x5 : Int) (x6 : Nat) (x7 : Nat → Int) (x8 : Nat) (x9 : Nat → Int) (x10 : Nat) (x11 : Nat → Int) => loopE E_zbm (loopAt Tryd.f52 2) (LV.mk 1296 [(4, 1296)] 48 0 true) 0 285 K n [EV.slice 0 0 x0 none 1, EV.int IntKind.i64 x1, EV.slice 1 0 x2 none 1, EV.slice 2 0 x3 none 1, EV.int IntKind.i64 x4, EV.int IntKind.i64 x5] [some (EV.arr IntKind.u32 x6 x7), some (EV.arr IntKind.u32 x8 x9), some (EV.arr IntKind.u32 x10 x11)]) = zbm.l20 (fun y0 y1 y2 y3 y4 y5 y6 => K (.exit 4) [EV.slice 0 0 y0 none 1, EV.int IntKind.i64 y1, EV.slice 1 0 y2 none 1] [some (EV.arr IntKind.u32 y3 y4), some (EV.arr IntKind.u32 y5 y6)]) n := by funext x0 x1 x2 x3 x4 x5 x6 x7 x8 x9 x10 x11; exact zbm.l20X.eq K n x0 x1 x2 x3 x4 x5 x6 x7 x8 x9 x10 x11
  show loopStep _ _ _ _ _ (loopE E_zbm (loopAt Tryd.f52 2) (LV.mk 1296 [(4, 1296)] 48 0 true) 0 285 K n) [EV.slice 0 0 x0 none 1, EV.int IntKind.i64 x1, EV.slice 1 0 x2 none 1, EV.slice 2 0 x3 none 1, EV.int IntKind.i64 x4, EV.int IntKind.i64 x5] [some (EV.arr IntKind.u32 x6 x7), some (EV.arr IntKind.u32 x8 x9), some (EV.arr IntKind.u32 x10 x11)] K = zbm.l20.step (zbm.l20 (fun y0 y1 y2 y3 y4 y5 y6 => K (.exit 4) [EV.slice 0 0 y0 none 1, EV.int IntKind.i64 y1, EV.slice 1 0 y2 none 1] [some (EV.arr IntKind.u32 y3 y4), some (EV.arr IntKind.u32 y5 y6)]) n) (fun y0 y1 y2 y3 y4 y5 y6 => K (.exit 4) [EV.slice 0 0 y0 none 1, EV.int IntKind.i64 y1, EV.slice 1 0 y2 none 1] [some (EV.arr IntKind.u32 y3 y4), some (EV.arr IntKind.u32 y5 y6)]) x0 x1 x2 x3 x4 x5 x6 x7 x8 x9 x10 x11
  rw [← ih]
  exact zbm.l20X.stepEq _ K x0 x1 x2 x3 x4 x5 x6 x7 x8 x9 x10 x11
theorem zbm.l20X.ok : LoopEq E_zbm (loopAt Tryd.f52 2) := by
 intro L hL vs H
 have h1 : E_zbm.lp (firstRegion (loopAt Tryd.f52 2)) = some zbm.l20.entry := by kernel_rfl
 have h2 : L = zbm.l20.entry := Option.some.inj (hL.symm.trans h1)
 subst h2
 by_cases hx : ∃ (x0 : Nat) (x1 : Int) (x2 : Nat) (x3 : Nat) (x4 : Int) (x5 : Int) (x6 : Nat) (x7 : Nat → Int) (x8 : Nat) (x9 : Nat → Int) (x10 : Nat) (x11 : Nat → Int), vs = [EV.slice 0 0 x0 none 1, EV.int IntKind.i64 x1, EV.slice 1 0 x2 none 1, EV.slice 2 0 x3 none 1, EV.int IntKind.i64 x4, EV.int IntKind.i64 x5] ∧ H = [some (EV.arr IntKind.u32 x6 x7), some (EV.arr IntKind.u32 x8 x9), some (EV.arr IntKind.u32 x10 x11)]
 ·obtain ⟨x0, x1, x2, x3, x4, x5, x6, x7, x8, x9, x10, x11, rfl, rfl⟩ := hx
  right; intro K
  exact exists_congr fun n => iff_of_eq (zbm.l20X.eq K n x0 x1 x2 x3 x4 x5 x6 x7 x8 x9 x10 x11).symm
 ·left; intro K h
  simp only [zbm.l20.entry] at h
  split at h
  ·exact hx ⟨_, _, _, _, _, _, _, _, _, _, _, _, rfl, rfl⟩
  ·exact h
theorem zbm.l24X.stepEq (R : List EV → Heap → Prop) (K : Ex → List EV → Heap → Prop) (x0 : Nat) (x1 : Int) (x2 : Nat) (x3 : Nat) (x4 : Int) (x5 : Int) (x6 : Int) (x7 : Int) (x8 : Nat) (x9 : Nat → Int) (x10 : Nat) (x11 : Nat → Int) (x12 : Nat) (x13 : Nat → Int) : loopStep (evCode E_zbm (loopAt Tryd.f52 3) { (LV.mk 24336 [(6, 24336), (5, 7952), (4, 1296)] 48 0 true) with nx := live (.loop (loopAt Tryd.f52 3)) (LV.mk 24336 [(6, 24336), (5, 7952), (4, 1296)] 48 0 true) }) (live (.loop (loopAt Tryd.f52 3)) (LV.mk 24336 [(6, 24336), (5, 7952), (4, 1296)] 48 0 true)) (LV.mk 24336 [(6, 24336), (5, 7952), (4, 1296)] 48 0 true) 0 285 R [EV.slice 0 0 x0 none 1, EV.int IntKind.i64 x1, EV.slice 1 0 x2 none 1, EV.slice 2 0 x3 none 1, EV.int IntKind.i64 x4, EV.int IntKind.i64 x5, EV.int IntKind.u64 x6, EV.int IntKind.u64 x7] [some (EV.arr IntKind.u32 x8 x9), some (EV.arr IntKind.u32 x10 x11), some (EV.arr IntKind.u32 x12 x13)] K = zbm.l24.step (fun x0 x1 x2 x3 x4 x5 x6 x7 x8 x9 x10 x11 x12 x13 => R [EV.slice 0 0 x0 none 1, EV.int IntKind.i64 x1, EV.slice 1 0 x2 none 1, EV.slice 2 0 x3 none 1, EV.int IntKind.i64 x4, EV.int IntKind.i64 x5, EV.int IntKind.u64 x6, EV.int IntKind.u64 x7] [some (EV.arr IntKind.u32 x8 x9), some (EV.arr IntKind.u32 x10 x11), some (EV.arr IntKind.u32 x12 x13)]) (fun y0 y1 y2 y3 y4 y5 y6 y7 y8 y9 y10 y11 y12 => K (.exit 6) [EV.slice 0 0 y0 none 1, EV.int IntKind.i64 y1, EV.slice 1 0 y2 none 1, EV.slice 2 0 y3 none 1, EV.int IntKind.i64 y4, EV.int IntKind.i64 y5, EV.int IntKind.u64 y6] [some (EV.arr IntKind.u32 y7 y8), some (EV.arr IntKind.u32 y9 y10), some (EV.arr IntKind.u32 y11 y12)]) x0 x1 x2 x3 x4 x5 x6 x7 x8 x9 x10 x11 x12 x13 := (stepQ_eq _ _ _ _ _ _ _ _ _ _ _).symm.trans (by kernel_rfl)
theorem zbm.l24X.eq (K : Ex → List EV → Heap → Prop) : ∀ (n : Nat) (x0 : Nat) (x1 : Int) (x2 : Nat) (x3 : Nat) (x4 : Int) (x5 : Int) (x6 : Int) (x7 : Int) (x8 : Nat) (x9 : Nat → Int) (x10 : Nat) (x11 : Nat → Int) (x12 : Nat) (x13 : Nat → Int), loopE E_zbm (loopAt Tryd.f52 3) (LV.mk 24336 [(6, 24336), (5, 7952), (4, 1296)] 48 0 true) 0 285 K n [EV.slice 0 0 x0 none 1, EV.int IntKind.i64 x1, EV.slice 1 0 x2 none 1, EV.slice 2 0 x3 none 1, EV.int IntKind.i64 x4, EV.int IntKind.i64 x5, EV.int IntKind.u64 x6, EV.int IntKind.u64 x7] [some (EV.arr IntKind.u32 x8 x9), some (EV.arr IntKind.u32 x10 x11), some (EV.arr IntKind.u32 x12 x13)] = zbm.l24 (fun y0 y1 y2 y3 y4 y5 y6 y7 y8 y9 y10 y11 y12 => K (.exit 6) [EV.slice 0 0 y0 none 1, EV.int IntKind.i64 y1, EV.slice 1 0 y2 none 1, EV.slice 2 0 y3 none 1, EV.int IntKind.i64 y4, EV.int IntKind.i64 y5, EV.int IntKind.u64 y6] [some (EV.arr IntKind.u32 y7 y8), some (EV.arr IntKind.u32 y9 y10), some (EV.arr IntKind.u32 y11 y12)]) n x0 x1 x2 x3 x4 x5 x6 x7 x8 x9 x10 x11 x12 x13
 | 0, _, _, _, _, _, _, _, _, _, _, _, _, _, _ => rfl
 | n + 1, x0, x1, x2, x3, x4, x5, x6, x7, x8, x9, x10, x11, x12, x13 => by
  have ih : (fun (x0 : Nat) (x1 : Int) (x2 : Nat) (x3 : Nat) (x4 : Int) (x5 : Int) (x6 : Int) (x7 : Int) (x8 : Nat) (x9 : Nat → Int) (x10 : Nat) (x11 : Nat → Int) (x12 : Nat) (x13 : Nat → Int) => loopE E_zbm (loopAt Tryd.f52 3) (LV.mk 24336 [(6, 24336), (5, 7952), (4, 1296)] 48 0 true) 0 285 K n [EV.slice 0 0 x0 none 1, EV.int IntKind.i64 x1, EV.slice 1 0 x2 none 1, EV.slice 2 0 x3 none 1, EV.int IntKind.i64 x4, EV.int IntKind.i64 x5, EV.int IntKind.u64 x6, EV.int IntKind.u64 x7] [some (EV.arr IntKind.u32 x8 x9), some (EV.arr IntKind.u32 x10 x11), some (EV.arr IntKind.u32 x12 x13)]) = zbm.l24 (fun y0 y1 y2 y3 y4 y5 y6 y7 y8 y9 y10 y11 y12 => K (.exit 6) [EV.slice 0 0 y0 none 1, EV.int IntKind.i64 y1, EV.slice 1 0 y2 none 1, EV.slice 2 0 y3 none 1, EV.int IntKind.i64 y4, EV.int IntKind.i64 y5, EV.int IntKind.u64 y6] [some (EV.arr IntKind.u32 y7 y8), some (EV.arr IntKind.u32 y9 y10), some (EV.arr IntKind.u32 y11 y12)]) n := by funext x0 x1 x2 x3 x4 x5 x6 x7 x8 x9 x10 x11 x12 x13; exact zbm.l24X.eq K n x0 x1 x2 x3 x4 x5 x6 x7 x8 x9 x10 x11 x12 x13
  show loopStep _ _ _ _ _ (loopE E_zbm (loopAt Tryd.f52 3) (LV.mk 24336 [(6, 24336), (5, 7952), (4, 1296)] 48 0 true) 0 285 K n) [EV.slice 0 0 x0 none 1, EV.int IntKind.i64 x1, EV.slice 1 0 x2 none 1, EV.slice 2 0 x3 none 1, EV.int IntKind.i64 x4, EV.int IntKind.i64 x5, EV.int IntKind.u64 x6, EV.int IntKind.u64 x7] [some (EV.arr IntKind.u32 x8 x9), some (EV.arr IntKind.u32 x10 x11), some (EV.arr IntKind.u32 x12 x13)] K = zbm.l24.step (zbm.l24 (fun y0 y1 y2 y3 y4 y5 y6 y7 y8 y9 y10 y11 y12 => K (.exit 6) [EV.slice 0 0 y0 none 1, EV.int IntKind.i64 y1, EV.slice 1 0 y2 none 1, EV.slice 2 0 y3 none 1, EV.int IntKind.i64 y4, EV.int IntKind.i64 y5, EV.int IntKind.u64 y6] [some (EV.arr IntKind.u32 y7 y8), some (EV.arr IntKind.u32 y9 y10), some (EV.arr IntKind.u32 y11 y12)]) n) (fun y0 y1 y2 y3 y4 y5 y6 y7 y8 y9 y10 y11 y12 => K (.exit 6) [EV.slice 0 0 y0 none 1, EV.int IntKind.i64 y1, EV.slice 1 0 y2 none 1, EV.slice 2 0 y3 none 1, EV.int IntKind.i64 y4, EV.int IntKind.i64 y5, EV.int IntKind.u64 y6] [some (EV.arr IntKind.u32 y7 y8), some (EV.arr IntKind.u32 y9 y10), some (EV.arr IntKind.u32 y11 y12)]) x0 x1 x2 x3 x4 x5 x6 x7 x8 x9 x10 x11 x12 x13
  rw [← ih]
  exact zbm.l24X.stepEq _ K x0 x1 x2 x3 x4 x5 x6 x7 x8 x9 x10 x11 x12 x13
theorem zbm.l24X.ok : LoopEq E_zbm (loopAt Tryd.f52 3) := by
 intro L hL vs H
 have h1 : E_zbm.lp (firstRegion (loopAt Tryd.f52 3)) = some zbm.l24.entry := by kernel_rfl
 have h2 : L = zbm.l24.entry := Option.some.inj (hL.symm.trans h1)
 subst h2
 by_cases hx : ∃ (x0 : Nat) (x1 : Int) (x2 : Nat) (x3 : Nat) (x4 : Int) (x5 : Int) (x6 : Int) (x7 : Int) (x8 : Nat) (x9 : Nat → Int) (x10 : Nat) (x11 : Nat → Int) (x12 : Nat) (x13 : Nat → Int), vs = [EV.slice 0 0 x0 none 1, EV.int IntKind.i64 x1, EV.slice 1 0 x2 none 1, EV.slice 2 0 x3 none 1, EV.int IntKind.i64 x4, EV.int IntKind.i64 x5, EV.int IntKind.u64 x6, EV.int IntKind.u64 x7] ∧ H = [some (EV.arr IntKind.u32 x8 x9), some (EV.arr IntKind.u32 x10 x11), some (EV.arr IntKind.u32 x12 x13)]
 ·obtain ⟨x0, x1, x2, x3, x4, x5, x6, x7, x8, x9, x10, x11, x12, x13, rfl, rfl⟩ := hx
  right; intro K
  exact exists_congr fun n => iff_of_eq (zbm.l24X.eq K n x0 x1 x2 x3 x4 x5 x6 x7 x8 x9 x10 x11 x12 x13).symm
 ·left; intro K h
  simp only [zbm.l24.entry] at h
  split at h
  ·exact hx ⟨_, _, _, _, _, _, _, _, _, _, _, _, _, _, rfl, rfl⟩
  ·exact h
theorem zbm.l31X.stepEq (R : List EV → Heap → Prop) (K : Ex → List EV → Heap → Prop) (x0 : Nat) (x1 : Int) (x2 : Nat) (x3 : Nat) (x4 : Int) (x5 : Int) (x6 : Int) (x7 : Int) (x8 : Int) (x9 : Int) (x10 : Int) (x11 : Nat) (x12 : Nat → Int) (x13 : Nat) (x14 : Nat → Int) (x15 : Nat) (x16 : Nat → Int) : loopStep (evCode E_zbm (loopAt Tryd.f52 4) { (LV.mk 220944 [(8, 220944), (5, 7952), (4, 1296)] 48 0 true) with nx := live (.loop (loopAt Tryd.f52 4)) (LV.mk 220944 [(8, 220944), (5, 7952), (4, 1296)] 48 0 true) }) (live (.loop (loopAt Tryd.f52 4)) (LV.mk 220944 [(8, 220944), (5, 7952), (4, 1296)] 48 0 true)) (LV.mk 220944 [(8, 220944), (5, 7952), (4, 1296)] 48 0 true) 0 285 R [EV.slice 0 0 x0 none 1, EV.int IntKind.i64 x1, EV.slice 1 0 x2 none 1, EV.slice 2 0 x3 none 1, EV.int IntKind.i64 x4, EV.int IntKind.i64 x5, EV.int IntKind.u64 x6, EV.int IntKind.u64 x7, EV.int IntKind.i64 x8, EV.int IntKind.i64 x9, EV.int IntKind.i64 x10] [some (EV.arr IntKind.u32 x11 x12), some (EV.arr IntKind.u32 x13 x14), some (EV.arr IntKind.u32 x15 x16)] K = zbm.l31.step (fun x0 x1 x2 x3 x4 x5 x6 x7 x8 x9 x10 x11 x12 x13 x14 x15 x16 => R [EV.slice 0 0 x0 none 1, EV.int IntKind.i64 x1, EV.slice 1 0 x2 none 1, EV.slice 2 0 x3 none 1, EV.int IntKind.i64 x4, EV.int IntKind.i64 x5, EV.int IntKind.u64 x6, EV.int IntKind.u64 x7, EV.int IntKind.i64 x8, EV.int IntKind.i64 x9, EV.int IntKind.i64 x10] [some (EV.arr IntKind.u32 x11 x12), some (EV.arr IntKind.u32 x13 x14), some (EV.arr IntKind.u32 x15 x16)]) (fun y0 y1 y2 y3 y4 y5 y6 y7 y8 y9 y10 y11 y12 y13 y14 => K (.exit 8) [EV.slice 0 0 y0 none 1, EV.int IntKind.i64 y1, EV.slice 1 0 y2 none 1, EV.slice 2 0 y3 none 1, EV.int IntKind.i64 y4, EV.int IntKind.i64 y5, EV.int IntKind.u64 y6, EV.int IntKind.u64 y7, EV.int IntKind.i64 y8] [some (EV.arr IntKind.u32 y9 y10), some (EV.arr IntKind.u32 y11 y12), some (EV.arr IntKind.u32 y13 y14)]) x0 x1 x2 x3 x4 x5 x6 x7 x8 x9 x10 x11 x12 x13 x14 x15 x16 := (stepQ_eq _ _ _ _ _ _ _ _ _ _ _).symm.trans (by kernel_rfl)
theorem zbm.l31X.eq (K : Ex → List EV → Heap → Prop) : ∀ (n : Nat) (x0 : Nat) (x1 : Int) (x2 : Nat) (x3 : Nat) (x4 : Int) (x5 : Int) (x6 : Int) (x7 : Int) (x8 : Int) (x9 : Int) (x10 : Int) (x11 : Nat) (x12 : Nat → Int) (x13 : Nat) (x14 : Nat → Int) (x15 : Nat) (x16 : Nat → Int), loopE E_zbm (loopAt Tryd.f52 4) (LV.mk 220944 [(8, 220944), (5, 7952), (4, 1296)] 48 0 true) 0 285 K n [EV.slice 0 0 x0 none 1, EV.int IntKind.i64 x1, EV.slice 1 0 x2 none 1, EV.slice 2 0 x3 none 1, EV.int IntKind.i64 x4, EV.int IntKind.i64 x5, EV.int IntKind.u64 x6, EV.int IntKind.u64 x7, EV.int IntKind.i64 x8, EV.int IntKind.i64 x9, EV.int IntKind.i64 x10] [some (EV.arr IntKind.u32 x11 x12), some (EV.arr IntKind.u32 x13 x14), some (EV.arr IntKind.u32 x15 x16)] = zbm.l31 (fun y0 y1 y2 y3 y4 y5 y6 y7 y8 y9 y10 y11 y12 y13 y14 => K (.exit 8) [EV.slice 0 0 y0 none 1, EV.int IntKind.i64 y1, EV.slice 1 0 y2 none 1, EV.slice 2 0 y3 none 1, EV.int IntKind.i64 y4, EV.int IntKind.i64 y5, EV.int IntKind.u64 y6, EV.int IntKind.u64 y7, EV.int IntKind.i64 y8] [some (EV.arr IntKind.u32 y9 y10), some (EV.arr IntKind.u32 y11 y12), some (EV.arr IntKind.u32 y13 y14)]) n x0 x1 x2 x3 x4 x5 x6 x7 x8 x9 x10 x11 x12 x13 x14 x15 x16
 | 0, _, _, _, _, _, _, _, _, _, _, _, _, _, _, _, _, _ => rfl
 | n + 1, x0, x1, x2, x3, x4, x5, x6, x7, x8, x9, x10, x11, x12, x13, x14, x15, x16 => by
  have ih : (fun (x0 : Nat) (x1 : Int) (x2 : Nat) (x3 : Nat) (x4 : Int) (x5 : Int) (x6 : Int) (x7 : Int) (x8 : Int) (x9 : Int) (x10 : Int) (x11 : Nat) (x12 : Nat → Int) (x13 : Nat) (x14 : Nat → Int) (x15 : Nat) (x16 : Nat → Int) => loopE E_zbm (loopAt Tryd.f52 4) (LV.mk 220944 [(8, 220944), (5, 7952), (4, 1296)] 48 0 true) 0 285 K n [EV.slice 0 0 x0 none 1, EV.int IntKind.i64 x1, EV.slice 1 0 x2 none 1, EV.slice 2 0 x3 none 1, EV.int IntKind.i64 x4, EV.int IntKind.i64 x5, EV.int IntKind.u64 x6, EV.int IntKind.u64 x7, EV.int IntKind.i64 x8, EV.int IntKind.i64 x9, EV.int IntKind.i64 x10] [some (EV.arr IntKind.u32 x11 x12), some (EV.arr IntKind.u32 x13 x14), some (EV.arr IntKind.u32 x15 x16)]) = zbm.l31 (fun y0 y1 y2 y3 y4 y5 y6 y7 y8 y9 y10 y11 y12 y13 y14 => K (.exit 8) [EV.slice 0 0 y0 none 1, EV.int IntKind.i64 y1, EV.slice 1 0 y2 none 1, EV.slice 2 0 y3 none 1, EV.int IntKind.i64 y4, EV.int IntKind.i64 y5, EV.int IntKind.u64 y6, EV.int IntKind.u64 y7, EV.int IntKind.i64 y8] [some (EV.arr IntKind.u32 y9 y10), some (EV.arr IntKind.u32 y11 y12), some (EV.arr IntKind.u32 y13 y14)]) n := by funext x0 x1 x2 x3 x4 x5 x6 x7 x8 x9 x10 x11 x12 x13 x14 x15 x16; exact zbm.l31X.eq K n x0 x1 x2 x3 x4 x5 x6 x7 x8 x9 x10 x11 x12 x13 x14 x15 x16
  show loopStep _ _ _ _ _ (loopE E_zbm (loopAt Tryd.f52 4) (LV.mk 220944 [(8, 220944), (5, 7952), (4, 1296)] 48 0 true) 0 285 K n) [EV.slice 0 0 x0 none 1, EV.int IntKind.i64 x1, EV.slice 1 0 x2 none 1, EV.slice 2 0 x3 none 1, EV.int IntKind.i64 x4, EV.int IntKind.i64 x5, EV.int IntKind.u64 x6, EV.int IntKind.u64 x7, EV.int IntKind.i64 x8, EV.int IntKind.i64 x9, EV.int IntKind.i64 x10] [some (EV.arr IntKind.u32 x11 x12), some (EV.arr IntKind.u32 x13 x14), some (EV.arr IntKind.u32 x15 x16)] K = zbm.l31.step (zbm.l31 (fun y0 y1 y2 y3 y4 y5 y6 y7 y8 y9 y10 y11 y12 y13 y14 => K (.exit 8) [EV.slice 0 0 y0 none 1, EV.int IntKind.i64 y1, EV.slice 1 0 y2 none 1, EV.slice 2 0 y3 none 1, EV.int IntKind.i64 y4, EV.int IntKind.i64 y5, EV.int IntKind.u64 y6, EV.int IntKind.u64 y7, EV.int IntKind.i64 y8] [some (EV.arr IntKind.u32 y9 y10), some (EV.arr IntKind.u32 y11 y12), some (EV.arr IntKind.u32 y13 y14)]) n) (fun y0 y1 y2 y3 y4 y5 y6 y7 y8 y9 y10 y11 y12 y13 y14 => K (.exit 8) [EV.slice 0 0 y0 none 1, EV.int IntKind.i64 y1, EV.slice 1 0 y2 none 1, EV.slice 2 0 y3 none 1, EV.int IntKind.i64 y4, EV.int IntKind.i64 y5, EV.int IntKind.u64 y6, EV.int IntKind.u64 y7, EV.int IntKind.i64 y8] [some (EV.arr IntKind.u32 y9 y10), some (EV.arr IntKind.u32 y11 y12), some (EV.arr IntKind.u32 y13 y14)]) x0 x1 x2 x3 x4 x5 x6 x7 x8 x9 x10 x11 x12 x13 x14 x15 x16
  rw [← ih]
  exact zbm.l31X.stepEq _ K x0 x1 x2 x3 x4 x5 x6 x7 x8 x9 x10 x11 x12 x13 x14 x15 x16
theorem zbm.l31X.ok : LoopEq E_zbm (loopAt Tryd.f52 4) := by
 intro L hL vs H
 have h1 : E_zbm.lp (firstRegion (loopAt Tryd.f52 4)) = some zbm.l31.entry := by kernel_rfl
 have h2 : L = zbm.l31.entry := Option.some.inj (hL.symm.trans h1)
 subst h2
 by_cases hx : ∃ (x0 : Nat) (x1 : Int) (x2 : Nat) (x3 : Nat) (x4 : Int) (x5 : Int) (x6 : Int) (x7 : Int) (x8 : Int) (x9 : Int) (x10 : Int) (x11 : Nat) (x12 : Nat → Int) (x13 : Nat) (x14 : Nat → Int) (x15 : Nat) (x16 : Nat → Int), vs = [EV.slice 0 0 x0 none 1, EV.int IntKind.i64 x1, EV.slice 1 0 x2 none 1, EV.slice 2 0 x3 none 1, EV.int IntKind.i64 x4, EV.int IntKind.i64 x5, EV.int IntKind.u64 x6, EV.int IntKind.u64 x7, EV.int IntKind.i64 x8, EV.int IntKind.i64 x9, EV.int IntKind.i64 x10] ∧ H = [some (EV.arr IntKind.u32 x11 x12), some (EV.arr IntKind.u32 x13 x14), some (EV.arr IntKind.u32 x15 x16)]
 ·obtain ⟨x0, x1, x2, x3, x4, x5, x6, x7, x8, x9, x10, x11, x12, x13, x14, x15, x16, rfl, rfl⟩ := hx
  right; intro K
  exact exists_congr fun n => iff_of_eq (zbm.l31X.eq K n x0 x1 x2 x3 x4 x5 x6 x7 x8 x9 x10 x11 x12 x13 x14 x15 x16).symm
 ·left; intro K h
  simp only [zbm.l31.entry] at h
  split at h
  ·exact hx ⟨_, _, _, _, _, _, _, _, _, _, _, _, _, _, _, _, _, rfl, rfl⟩
  ·exact h
theorem zbm.l45X.stepEq (R : List EV → Heap → Prop) (K : Ex → List EV → Heap → Prop) (x0 : Nat) (x1 : Int) (x2 : Nat) (x3 : Nat) (x4 : Int) (x5 : Int) (x6 : Int) (x7 : Int) (x8 : Int) (x9 : Int) (x10 : Nat) (x11 : Nat → Int) (x12 : Nat) (x13 : Nat → Int) (x14 : Nat) (x15 : Nat → Int) : loopStep (evCode E_zbm (loopAt Tryd.f52 5) { (LV.mk 89872 [(10, 89872), (5, 7952), (4, 1296)] 48 0 true) with nx := live (.loop (loopAt Tryd.f52 5)) (LV.mk 89872 [(10, 89872), (5, 7952), (4, 1296)] 48 0 true) }) (live (.loop (loopAt Tryd.f52 5)) (LV.mk 89872 [(10, 89872), (5, 7952), (4, 1296)] 48 0 true)) (LV.mk 89872 [(10, 89872), (5, 7952), (4, 1296)] 48 0 true) 0 285 R [EV.slice 0 0 x0 none 1, EV.int IntKind.i64 x1, EV.slice 1 0 x2 none 1, EV.slice 2 0 x3 none 1, EV.int IntKind.i64 x4, EV.int IntKind.i64 x5, EV.int IntKind.u64 x6, EV.int IntKind.u64 x7, EV.int IntKind.i64 x8, EV.int IntKind.i64 x9] [some (EV.arr IntKind.u32 x10 x11), some (EV.arr IntKind.u32 x12 x13), some (EV.arr IntKind.u32 x14 x15)] K = zbm.l45.step (fun x0 x1 x2 x3 x4 x5 x6 x7 x8 x9 x10 x11 x12 x13 x14 x15 => R [EV.slice 0 0 x0 none 1, EV.int IntKind.i64 x1, EV.slice 1 0 x2 none 1, EV.slice 2 0 x3 none 1, EV.int IntKind.i64 x4, EV.int IntKind.i64 x5, EV.int IntKind.u64 x6, EV.int IntKind.u64 x7, EV.int IntKind.i64 x8, EV.int IntKind.i64 x9] [some (EV.arr IntKind.u32 x10 x11), some (EV.arr IntKind.u32 x12 x13), some (EV.arr IntKind.u32 x14 x15)]) (fun y0 y1 y2 y3 y4 y5 y6 y7 y8 y9 y10 y11 y12 y13 => K (.exit 10) [EV.slice 0 0 y0 none 1, EV.int IntKind.i64 y1, EV.slice 1 0 y2 none 1, EV.slice 2 0 y3 none 1, EV.int IntKind.i64 y4, EV.int IntKind.i64 y5, EV.int IntKind.u64 y6, EV.int IntKind.u64 y7] [some (EV.arr IntKind.u32 y8 y9), some (EV.arr IntKind.u32 y10 y11), some (EV.arr IntKind.u32 y12 y13)]) x0 x1 x2 x3 x4 x5 x6 x7 x8 x9 x10 x11 x12 x13 x14 x15 := (stepQ_eq _ _ _ _ _ _ _ _ _ _ _).symm.trans (by kernel_rfl)
theorem zbm.l45X.eq (K : Ex → List EV → Heap → Prop) : ∀ (n : Nat) (x0 : Nat) (x1 : Int) (x2 : Nat) (x3 : Nat) (x4 : Int) (x5 : Int) (x6 : Int) (x7 : Int) (x8 : Int) (x9 : Int) (x10 : Nat) (x11 : Nat → Int) (x12 : Nat) (x13 : Nat → Int) (x14 : Nat) (x15 : Nat → Int), loopE E_zbm (loopAt Tryd.f52 5) (LV.mk 89872 [(10, 89872), (5, 7952), (4, 1296)] 48 0 true) 0 285 K n [EV.slice 0 0 x0 none 1, EV.int IntKind.i64 x1, EV.slice 1 0 x2 none 1, EV.slice 2 0 x3 none 1, EV.int IntKind.i64 x4, EV.int IntKind.i64 x5, EV.int IntKind.u64 x6, EV.int IntKind.u64 x7, EV.int IntKind.i64 x8, EV.int IntKind.i64 x9] [some (EV.arr IntKind.u32 x10 x11), some (EV.arr IntKind.u32 x12 x13), some (EV.arr IntKind.u32 x14 x15)] = zbm.l45 (fun y0 y1 y2 y3 y4 y5 y6 y7 y8 y9 y10 y11 y12 y13 => K (.exit 10) [EV.slice 0 0 y0 none 1, EV.int IntKind.i64 y1, EV.slice 1 0 y2 none 1, EV.slice 2 0 y3 none 1, EV.int IntKind.i64 y4, EV.int IntKind.i64 y5, EV.int IntKind.u64 y6, EV.int IntKind.u64 y7] [some (EV.arr IntKind.u32 y8 y9), some (EV.arr IntKind.u32 y10 y11), some (EV.arr IntKind.u32 y12 y13)]) n x0 x1 x2 x3 x4 x5 x6 x7 x8 x9 x10 x11 x12 x13 x14 x15
 | 0, _, _, _, _, _, _, _, _, _, _, _, _, _, _, _, _ => rfl
 | n + 1, x0, x1, x2, x3, x4, x5, x6, x7, x8, x9, x10, x11, x12, x13, x14, x15 => by
  have ih : (fun (x0 : Nat) (x1 : Int) (x2 : Nat) (x3 : Nat) (x4 : Int) (x5 : Int) (x6 : Int) (x7 : Int) (x8 : Int) (x9 : Int) (x10 : Nat) (x11 : Nat → Int) (x12 : Nat) (x13 : Nat → Int) (x14 : Nat) (x15 : Nat → Int) => loopE E_zbm (loopAt Tryd.f52 5) (LV.mk 89872 [(10, 89872), (5, 7952), (4, 1296)] 48 0 true) 0 285 K n [EV.slice 0 0 x0 none 1, EV.int IntKind.i64 x1, EV.slice 1 0 x2 none 1, EV.slice 2 0 x3 none 1, EV.int IntKind.i64 x4, EV.int IntKind.i64 x5, EV.int IntKind.u64 x6, EV.int IntKind.u64 x7, EV.int IntKind.i64 x8, EV.int IntKind.i64 x9] [some (EV.arr IntKind.u32 x10 x11), some (EV.arr IntKind.u32 x12 x13), some (EV.arr IntKind.u32 x14 x15)]) = zbm.l45 (fun y0 y1 y2 y3 y4 y5 y6 y7 y8 y9 y10 y11 y12 y13 => K (.exit 10) [EV.slice 0 0 y0 none 1, EV.int IntKind.i64 y1, EV.slice 1 0 y2 none 1, EV.slice 2 0 y3 none 1, EV.int IntKind.i64 y4, EV.int IntKind.i64 y5, EV.int IntKind.u64 y6, EV.int IntKind.u64 y7] [some (EV.arr IntKind.u32 y8 y9), some (EV.arr IntKind.u32 y10 y11), some (EV.arr IntKind.u32 y12 y13)]) n := by funext x0 x1 x2 x3 x4 x5 x6 x7 x8 x9 x10 x11 x12 x13 x14 x15; exact zbm.l45X.eq K n x0 x1 x2 x3 x4 x5 x6 x7 x8 x9 x10 x11 x12 x13 x14 x15
  show loopStep _ _ _ _ _ (loopE E_zbm (loopAt Tryd.f52 5) (LV.mk 89872 [(10, 89872), (5, 7952), (4, 1296)] 48 0 true) 0 285 K n) [EV.slice 0 0 x0 none 1, EV.int IntKind.i64 x1, EV.slice 1 0 x2 none 1, EV.slice 2 0 x3 none 1, EV.int IntKind.i64 x4, EV.int IntKind.i64 x5, EV.int IntKind.u64 x6, EV.int IntKind.u64 x7, EV.int IntKind.i64 x8, EV.int IntKind.i64 x9] [some (EV.arr IntKind.u32 x10 x11), some (EV.arr IntKind.u32 x12 x13), some (EV.arr IntKind.u32 x14 x15)] K = zbm.l45.step (zbm.l45 (fun y0 y1 y2 y3 y4 y5 y6 y7 y8 y9 y10 y11 y12 y13 => K (.exit 10) [EV.slice 0 0 y0 none 1, EV.int IntKind.i64 y1, EV.slice 1 0 y2 none 1, EV.slice 2 0 y3 none 1, EV.int IntKind.i64 y4, EV.int IntKind.i64 y5, EV.int IntKind.u64 y6, EV.int IntKind.u64 y7] [some (EV.arr IntKind.u32 y8 y9), some (EV.arr IntKind.u32 y10 y11), some (EV.arr IntKind.u32 y12 y13)]) n) (fun y0 y1 y2 y3 y4 y5 y6 y7 y8 y9 y10 y11 y12 y13 => K (.exit 10) [EV.slice 0 0 y0 none 1, EV.int IntKind.i64 y1, EV.slice 1 0 y2 none 1, EV.slice 2 0 y3 none 1, EV.int IntKind.i64 y4, EV.int IntKind.i64 y5, EV.int IntKind.u64 y6, EV.int IntKind.u64 y7] [some (EV.arr IntKind.u32 y8 y9), some (EV.arr IntKind.u32 y10 y11), some (EV.arr IntKind.u32 y12 y13)]) x0 x1 x2 x3 x4 x5 x6 x7 x8 x9 x10 x11 x12 x13 x14 x15
  rw [← ih]
  exact zbm.l45X.stepEq _ K x0 x1 x2 x3 x4 x5 x6 x7 x8 x9 x10 x11 x12 x13 x14 x15
theorem zbm.l45X.ok : LoopEq E_zbm (loopAt Tryd.f52 5) := by
 intro L hL vs H
 have h1 : E_zbm.lp (firstRegion (loopAt Tryd.f52 5)) = some zbm.l45.entry := by kernel_rfl
 have h2 : L = zbm.l45.entry := Option.some.inj (hL.symm.trans h1)
 subst h2
 by_cases hx : ∃ (x0 : Nat) (x1 : Int) (x2 : Nat) (x3 : Nat) (x4 : Int) (x5 : Int) (x6 : Int) (x7 : Int) (x8 : Int) (x9 : Int) (x10 : Nat) (x11 : Nat → Int) (x12 : Nat) (x13 : Nat → Int) (x14 : Nat) (x15 : Nat → Int), vs = [EV.slice 0 0 x0 none 1, EV.int IntKind.i64 x1, EV.slice 1 0 x2 none 1, EV.slice 2 0 x3 none 1, EV.int IntKind.i64 x4, EV.int IntKind.i64 x5, EV.int IntKind.u64 x6, EV.int IntKind.u64 x7, EV.int IntKind.i64 x8, EV.int IntKind.i64 x9] ∧ H = [some (EV.arr IntKind.u32 x10 x11), some (EV.arr IntKind.u32 x12 x13), some (EV.arr IntKind.u32 x14 x15)]
 ·obtain ⟨x0, x1, x2, x3, x4, x5, x6, x7, x8, x9, x10, x11, x12, x13, x14, x15, rfl, rfl⟩ := hx
  right; intro K
  exact exists_congr fun n => iff_of_eq (zbm.l45X.eq K n x0 x1 x2 x3 x4 x5 x6 x7 x8 x9 x10 x11 x12 x13 x14 x15).symm
 ·left; intro K h
  simp only [zbm.l45.entry] at h
  split at h
  ·exact hx ⟨_, _, _, _, _, _, _, _, _, _, _, _, _, _, _, _, rfl, rfl⟩
  ·exact h
theorem X_zbm.eq (a0n : Nat) (a0 : Nat → Int) (a1n : Nat) (a1 : Nat → Int) (K : EV → Heap → Prop) : evFn E_zbm Tryd.f52 false [.rsI .u32 a0n a0, .rsI .u32 a1n a1] [] K = zbm a0n a0 a1n a1 (fun y0 y1 y2 y3 => K (EV.tuple [EV.rsI IntKind.u32 y0 y1, EV.rsI IntKind.u32 y2 y3]) []) := by
 rw [zbm.is]; exact (evFnQ_eq _ _ _ _ _ _).symm.trans (by kernel_rfl)
theorem X_zbm.ok : SoundE Tryd.prog gl 52 e_zbm := by
 refine fnOK (E := E_zbm) (fn := Tryd.f52) rfl tys_ok rfl (show AllL _ l_zbm from ⟨X_zdt.ok, X_zbe.ok, X_nat_cut.ok, X_nat_upN.ok, X_zbi.ok, trivial⟩) mixed (by kernel_rfl) (by kernel_rfl) (by kernel_rfl) 6 (by kernel_rfl) false ⟨zbm.l7X.ok, zbm.l16X.ok, zbm.l20X.ok, zbm.l24X.ok, zbm.l31X.ok, zbm.l45X.ok, trivial⟩ ?_
 intro args H
 by_cases hx : ∃ (a0n : Nat) (a0 : Nat → Int) (a1n : Nat) (a1 : Nat → Int), args = [.rsI .u32 a0n a0, .rsI .u32 a1n a1] ∧ H = []
 ·obtain ⟨a0n, a0, a1n, a1, rfl, rfl⟩ := hx
  right; intro K
  exact iff_of_eq (X_zbm.eq a0n a0 a1n a1 K).symm
 ·left; intro K h
  simp only [e_zbm] at h
  split at h
  ·exact hx ⟨_, _, _, _, rfl, rfl⟩
  ·exact h
end Go.Ev.S
