/- The functions of the seat: that the evaluator has them as they are. -/
import Derived.Test.YtmknjnegifgllaaDoorProg
import Derived.Test.YtmknjnegifgllaaDoorEvC
import Derived.Test.YtmknjnegifgllaaDoorDA
import Derived.KernelRfl
set_option maxRecDepth 100000
set_option linter.unusedVariables false
set_option linter.unusedSimpArgs false
namespace Go.Ev.S
open Go Go.Proofs Go.Ev
def tys : List (Nat × TI) := [
  (1, ⟨.func, 1, 8, .nilFunc⟩),
  (2, ⟨.int .i64, 1, 8, .int .i64 0⟩),
  (3, ⟨.int .i64, 1, 8, .int .i64 0⟩),
  (4, ⟨.bool, 1, 1, .bool false⟩),
  (5, ⟨.int .u8, 1, 1, .int .u8 0⟩),
  (6, ⟨.int .u8, 1, 1, .int .u8 0⟩),
  (7, ⟨.struct [(0, 2), (1, 3), (2, 4), (3, 6)], 4, 24, .agg [.int .i64 0, .int .i64 0, .bool false, .int .u8 0]⟩),
  (8, ⟨.struct [(0, 2), (1, 3), (2, 4), (3, 6)], 4, 24, .agg [.int .i64 0, .int .i64 0, .bool false, .int .u8 0]⟩),
  (9, ⟨.str, 1, 16, .str []⟩),
  (10, ⟨.str, 1, 16, .str []⟩),
  (11, ⟨.str, 1, 16, .str []⟩),
  (12, ⟨.int .u64, 1, 8, .int .u64 0⟩),
  (15, ⟨.ptr, 1, 8, .nilPtr⟩),
  (16, ⟨.ptr, 1, 8, .nilPtr⟩),
  (17, ⟨.ptr, 1, 8, .nilPtr⟩),
  (21, ⟨.int .i32, 1, 4, .int .i32 0⟩),
  (22, ⟨.str, 1, 16, .str []⟩),
  (23, ⟨.struct [(0, 4), (1, 22), (2, 22), (3, 3)], 4, 48, .agg [.bool false, .str [], .str [], .int .i64 0]⟩),
  (24, ⟨.struct [(0, 4), (1, 22), (2, 22), (3, 3)], 4, 48, .agg [.bool false, .str [], .str [], .int .i64 0]⟩),
  (25, ⟨.int .u64, 1, 8, .int .u64 0⟩),
  (26, ⟨.func, 1, 8, .nilFunc⟩),
  (27, ⟨.func, 1, 8, .nilFunc⟩),
  (28, ⟨.int .i64, 1, 8, .int .i64 0⟩),
  (29, ⟨.func, 1, 8, .nilFunc⟩),
  (30, ⟨.func, 1, 8, .nilFunc⟩),
  (32, ⟨.func, 1, 8, .nilFunc⟩),
  (34, ⟨.func, 1, 8, .nilFunc⟩),
  (35, ⟨.func, 1, 8, .nilFunc⟩),
  (36, ⟨.func, 1, 8, .nilFunc⟩),
  (37, ⟨.func, 1, 8, .nilFunc⟩),
  (38, ⟨.func, 1, 8, .nilFunc⟩),
  (39, ⟨.func, 1, 8, .nilFunc⟩),
  (40, ⟨.func, 1, 8, .nilFunc⟩),
  (41, ⟨.func, 1, 8, .nilFunc⟩),
  (42, ⟨.func, 1, 8, .nilFunc⟩),
  (43, ⟨.func, 1, 8, .nilFunc⟩),
  (45, ⟨.func, 1, 8, .nilFunc⟩),
  (47, ⟨.func, 1, 8, .nilFunc⟩),
  (48, ⟨.func, 1, 8, .nilFunc⟩),
  (50, ⟨.func, 1, 8, .nilFunc⟩),
  (52, ⟨.func, 1, 8, .nilFunc⟩),
  (54, ⟨.func, 1, 8, .nilFunc⟩),
  (55, ⟨.func, 1, 8, .nilFunc⟩),
  (56, ⟨.func, 1, 8, .nilFunc⟩),
  (58, ⟨.func, 1, 8, .nilFunc⟩),
  (59, ⟨.func, 1, 8, .nilFunc⟩),
  (60, ⟨.func, 1, 8, .nilFunc⟩),
  (61, ⟨.func, 1, 8, .nilFunc⟩),
  (62, ⟨.func, 1, 8, .nilFunc⟩),
  (63, ⟨.func, 1, 8, .nilFunc⟩),
  (64, ⟨.func, 1, 8, .nilFunc⟩),
  (65, ⟨.func, 1, 8, .nilFunc⟩),
  (66, ⟨.func, 1, 8, .nilFunc⟩),
  (67, ⟨.func, 1, 8, .nilFunc⟩),
  (68, ⟨.func, 1, 8, .nilFunc⟩),
  (70, ⟨.func, 1, 8, .nilFunc⟩),
  (71, ⟨.func, 1, 8, .nilFunc⟩),
  (72, ⟨.func, 1, 8, .nilFunc⟩),
  (74, ⟨.func, 1, 8, .nilFunc⟩),
  (75, ⟨.func, 1, 8, .nilFunc⟩),
  (76, ⟨.func, 1, 8, .nilFunc⟩),
  (77, ⟨.func, 1, 8, .nilFunc⟩),
  (79, ⟨.func, 1, 8, .nilFunc⟩),
  (80, ⟨.func, 1, 8, .nilFunc⟩),
  (81, ⟨.func, 1, 8, .nilFunc⟩),
  (82, ⟨.func, 1, 8, .nilFunc⟩),
  (83, ⟨.func, 1, 8, .nilFunc⟩),
  (84, ⟨.func, 1, 8, .nilFunc⟩),
  (85, ⟨.func, 1, 8, .nilFunc⟩),
  (86, ⟨.slice 109, 1, 24, .nilSlice⟩),
  (87, ⟨.func, 1, 8, .nilFunc⟩),
  (88, ⟨.func, 1, 8, .nilFunc⟩),
  (90, ⟨.func, 1, 8, .nilFunc⟩),
  (91, ⟨.func, 1, 8, .nilFunc⟩),
  (92, ⟨.struct [(0, 28)], 1, 8, .agg [.int .i64 0]⟩),
  (93, ⟨.struct [(0, 28)], 1, 8, .agg [.int .i64 0]⟩),
  (94, ⟨.func, 1, 8, .nilFunc⟩),
  (96, ⟨.func, 1, 8, .nilFunc⟩),
  (97, ⟨.func, 1, 8, .nilFunc⟩),
  (98, ⟨.func, 1, 8, .nilFunc⟩),
  (99, ⟨.func, 1, 8, .nilFunc⟩),
  (101, ⟨.func, 1, 8, .nilFunc⟩),
  (102, ⟨.func, 1, 8, .nilFunc⟩),
  (103, ⟨.func, 1, 8, .nilFunc⟩),
  (104, ⟨.func, 1, 8, .nilFunc⟩),
  (105, ⟨.func, 1, 8, .nilFunc⟩),
  (106, ⟨.slice 5, 1, 24, .nilSlice⟩),
  (107, ⟨.int .u64, 1, 8, .int .u64 0⟩),
  (108, ⟨.func, 1, 8, .nilFunc⟩),
  (109, ⟨.int .u32, 1, 4, .int .u32 0⟩),
  (110, ⟨.func, 1, 8, .nilFunc⟩),
  (111, ⟨.func, 1, 8, .nilFunc⟩),
  (112, ⟨.func, 1, 8, .nilFunc⟩),
  (113, ⟨.ptr, 1, 8, .nilPtr⟩),
  (114, ⟨.func, 1, 8, .nilFunc⟩),
  (115, ⟨.func, 1, 8, .nilFunc⟩),
  (116, ⟨.array 64 5, 64, 64, .arr .u8 64 (fun _ => 0)⟩),
  (117, ⟨.array 24 5, 24, 24, .arr .u8 24 (fun _ => 0)⟩),
  (118, ⟨.func, 1, 8, .nilFunc⟩),
  (120, ⟨.func, 1, 8, .nilFunc⟩),
  (121, ⟨.func, 1, 8, .nilFunc⟩),
  (122, ⟨.func, 1, 8, .nilFunc⟩),
  (123, ⟨.array 20 25, 20, 160, .arr .u64 20 (fun _ => 0)⟩),
  (124, ⟨.array 65 5, 65, 65, .arr .u8 65 (fun _ => 0)⟩),
  (125, ⟨.func, 1, 8, .nilFunc⟩),
  (126, ⟨.func, 1, 8, .nilFunc⟩),
  (127, ⟨.array 32 5, 32, 32, .arr .u8 32 (fun _ => 0)⟩),
  (128, ⟨.func, 1, 8, .nilFunc⟩),
  (131, ⟨.array 0 16, 0, 0, .agg []⟩),
  (134, ⟨.func, 1, 8, .nilFunc⟩),
  (135, ⟨.int .u8, 1, 1, .int .u8 0⟩),
  (136, ⟨.int .u8, 1, 1, .int .u8 0⟩),
  (137, ⟨.func, 1, 8, .nilFunc⟩),
  (138, ⟨.ptr, 1, 8, .nilPtr⟩),
  (139, ⟨.int .i32, 1, 4, .int .i32 0⟩),
  (140, ⟨.int .i32, 1, 4, .int .i32 0⟩)]
theorem tys_ok : AllL (OkTI Tryd.prog) tys :=
  ⟨.of (by kernel_rfl) (by kernel_rfl), .of (by kernel_rfl) (by kernel_rfl), .of (by kernel_rfl) (by kernel_rfl), .of (by kernel_rfl) (by kernel_rfl), .of (by kernel_rfl) (by kernel_rfl), .of (by kernel_rfl) (by kernel_rfl), .of (by kernel_rfl) (by kernel_rfl), .of (by kernel_rfl) (by kernel_rfl), .of (by kernel_rfl) (by kernel_rfl), .of (by kernel_rfl) (by kernel_rfl), .of (by kernel_rfl) (by kernel_rfl), .of (by kernel_rfl) (by kernel_rfl), .of (by kernel_rfl) (by kernel_rfl), .of (by kernel_rfl) (by kernel_rfl), .of (by kernel_rfl) (by kernel_rfl), .of (by kernel_rfl) (by kernel_rfl), .of (by kernel_rfl) (by kernel_rfl), .of (by kernel_rfl) (by kernel_rfl), .of (by kernel_rfl) (by kernel_rfl), .of (by kernel_rfl) (by kernel_rfl), .of (by kernel_rfl) (by kernel_rfl), .of (by kernel_rfl) (by kernel_rfl), .of (by kernel_rfl) (by kernel_rfl), .of (by kernel_rfl) (by kernel_rfl), .of (by kernel_rfl) (by kernel_rfl), .of (by kernel_rfl) (by kernel_rfl), .of (by kernel_rfl) (by kernel_rfl), .of (by kernel_rfl) (by kernel_rfl), .of (by kernel_rfl) (by kernel_rfl), .of (by kernel_rfl) (by kernel_rfl), .of (by kernel_rfl) (by kernel_rfl), .of (by kernel_rfl) (by kernel_rfl), .of (by kernel_rfl) (by kernel_rfl), .of (by kernel_rfl) (by kernel_rfl), .of (by kernel_rfl) (by kernel_rfl), .of (by kernel_rfl) (by kernel_rfl), .of (by kernel_rfl) (by kernel_rfl), .of (by kernel_rfl) (by kernel_rfl), .of (by kernel_rfl) (by kernel_rfl), .of (by kernel_rfl) (by kernel_rfl), .of (by kernel_rfl) (by kernel_rfl), .of (by kernel_rfl) (by kernel_rfl), .of (by kernel_rfl) (by kernel_rfl), .of (by kernel_rfl) (by kernel_rfl), .of (by kernel_rfl) (by kernel_rfl), .of (by kernel_rfl) (by kernel_rfl), .of (by kernel_rfl) (by kernel_rfl), .of (by kernel_rfl) (by kernel_rfl), .of (by kernel_rfl) (by kernel_rfl), .of (by kernel_rfl) (by kernel_rfl), .of (by kernel_rfl) (by kernel_rfl), .of (by kernel_rfl) (by kernel_rfl), .of (by kernel_rfl) (by kernel_rfl), .of (by kernel_rfl) (by kernel_rfl), .of (by kernel_rfl) (by kernel_rfl), .of (by kernel_rfl) (by kernel_rfl), .of (by kernel_rfl) (by kernel_rfl), .of (by kernel_rfl) (by kernel_rfl), .of (by kernel_rfl) (by kernel_rfl), .of (by kernel_rfl) (by kernel_rfl), .of (by kernel_rfl) (by kernel_rfl), .of (by kernel_rfl) (by kernel_rfl), .of (by kernel_rfl) (by kernel_rfl), .of (by kernel_rfl) (by kernel_rfl), .of (by kernel_rfl) (by kernel_rfl), .of (by kernel_rfl) (by kernel_rfl), .of (by kernel_rfl) (by kernel_rfl), .of (by kernel_rfl) (by kernel_rfl), .of (by kernel_rfl) (by kernel_rfl), .of (by kernel_rfl) (by kernel_rfl), .of (by kernel_rfl) (by kernel_rfl), .of (by kernel_rfl) (by kernel_rfl), .of (by kernel_rfl) (by kernel_rfl), .of (by kernel_rfl) (by kernel_rfl), .of (by kernel_rfl) (by kernel_rfl), .of (by kernel_rfl) (by kernel_rfl), .of (by kernel_rfl) (by kernel_rfl), .of (by kernel_rfl) (by kernel_rfl), .of (by kernel_rfl) (by kernel_rfl), .of (by kernel_rfl) (by kernel_rfl), .of (by kernel_rfl) (by kernel_rfl), .of (by kernel_rfl) (by kernel_rfl), .of (by kernel_rfl) (by kernel_rfl), .of (by kernel_rfl) (by kernel_rfl), .of (by kernel_rfl) (by kernel_rfl), .of (by kernel_rfl) (by kernel_rfl), .of (by kernel_rfl) (by kernel_rfl), .of (by kernel_rfl) (by kernel_rfl), .of (by kernel_rfl) (by kernel_rfl), .of (by kernel_rfl) (by kernel_rfl), .of (by kernel_rfl) (by kernel_rfl), .of (by kernel_rfl) (by kernel_rfl), .of (by kernel_rfl) (by kernel_rfl), .of (by kernel_rfl) (by kernel_rfl), .of (by kernel_rfl) (by kernel_rfl), .of (by kernel_rfl) (by kernel_rfl), .of (by kernel_rfl) (by kernel_rfl), .of (by kernel_rfl) (by kernel_rfl), .of (by kernel_rfl) (by kernel_rfl), .of (by kernel_rfl) (by kernel_rfl), .of (by kernel_rfl) (by kernel_rfl), .of (by kernel_rfl) (by kernel_rfl), .of (by kernel_rfl) (by kernel_rfl), .of (by kernel_rfl) (by kernel_rfl), .of (by kernel_rfl) (by kernel_rfl), .of (by kernel_rfl) (by kernel_rfl), .of (by kernel_rfl) (by kernel_rfl), .of (by kernel_rfl) (by kernel_rfl), .of (by kernel_rfl) (by kernel_rfl), .of (by kernel_rfl) (by kernel_rfl), .of (by kernel_rfl) (by kernel_rfl), .of (by kernel_rfl) (by kernel_rfl), .of (by kernel_rfl) (by kernel_rfl), .of (by kernel_rfl) (by kernel_rfl), .of (by kernel_rfl) (by kernel_rfl), .of (by kernel_rfl) (by kernel_rfl), trivial⟩
theorem mixed : Tryd.prog.follows .mixedOrders = true := by kernel_rfl
noncomputable def gl : Nat → Option EV := look [(0, .arr .u8 64 tab_deBruijn64tab)]
noncomputable def e_law06_short : Entry := ⟨[none, none], false, fun args H K => match args, H with
  | [.agg [.bool a0_0, .str a0_1, .str a0_2, .int .i64 a0_3], .int .i64 a1], [] => law06_short a0_0 a0_1 a0_2 a0_3 a1 (fun y0 => K (EV.bool y0) [])
  | _, _ => False⟩
noncomputable def E_law06_short : Env := ⟨look tys, look [], look [], gl, lookL [], false⟩
theorem X_law06_short.eq (a0_0 : Bool) (a0_1 : List UInt8) (a0_2 : List UInt8) (a0_3 : Int) (a1 : Int) (K : EV → Heap → Prop) : evFn E_law06_short Tryd.f11 false [.agg [.bool a0_0, .str a0_1, .str a0_2, .int .i64 a0_3], .int .i64 a1] [] K = law06_short a0_0 a0_1 a0_2 a0_3 a1 (fun y0 => K (EV.bool y0) []) := by
  have h : evFnQ E_law06_short Tryd.f11 false [.agg [.bool a0_0, .str a0_1, .str a0_2, .int .i64 a0_3], .int .i64 a1] [] K = law06_short.d a0_0 a0_1 a0_2 a0_3 a1 (fun y0 => K (EV.bool y0) []) := by kernel_rfl
  rw [law06_short.is]; exact (evFnQ_eq _ _ _ _ _ _).symm.trans h
theorem X_law06_short.ok : SoundE Tryd.prog gl 11 e_law06_short := by
  refine fnOK (E := E_law06_short) (fn := Tryd.f11) rfl tys_ok rfl (show AllL _ [] from trivial) mixed (by kernel_rfl) (by kernel_rfl) (by kernel_rfl) 0 (by kernel_rfl) false trivial ?_
  intro args H
  by_cases hx : ∃ (a0_0 : Bool) (a0_1 : List UInt8) (a0_2 : List UInt8) (a0_3 : Int) (a1 : Int), args = [.agg [.bool a0_0, .str a0_1, .str a0_2, .int .i64 a0_3], .int .i64 a1] ∧ H = []
  · obtain ⟨a0_0, a0_1, a0_2, a0_3, a1, rfl, rfl⟩ := hx
    right; intro K
    exact iff_of_eq (X_law06_short.eq a0_0 a0_1 a0_2 a0_3 a1 K).symm
  · left; intro K h
    simp only [e_law06_short] at h
    split at h
    · exact hx ⟨_, _, _, _, _, rfl, rfl⟩
    · exact h
noncomputable def e_nat_Check : Entry := ⟨[none], false, fun args H K => match args, H with
  | [.str a0], [] => nat_Check a0 (fun y0 => K (EV.int IntKind.i64 y0) [])
  | _, _ => False⟩
noncomputable def E_nat_Check : Env := ⟨look tys, look [], look [], gl, lookL [], false⟩
theorem X_nat_Check.eq (a0 : List UInt8) (K : EV → Heap → Prop) : evFn E_nat_Check Tryd.f46 false [.str a0] [] K = nat_Check a0 (fun y0 => K (EV.int IntKind.i64 y0) []) := by
  have h : evFnQ E_nat_Check Tryd.f46 false [.str a0] [] K = nat_Check.d a0 (fun y0 => K (EV.int IntKind.i64 y0) []) := by kernel_rfl
  rw [nat_Check.is]; exact (evFnQ_eq _ _ _ _ _ _).symm.trans h
theorem X_nat_Check.ok : SoundE Tryd.prog gl 46 e_nat_Check := by
  refine fnOK (E := E_nat_Check) (fn := Tryd.f46) rfl tys_ok rfl (show AllL _ [] from trivial) mixed (by kernel_rfl) (by kernel_rfl) (by kernel_rfl) 0 (by kernel_rfl) false trivial ?_
  intro args H
  by_cases hx : ∃ (a0 : List UInt8), args = [.str a0] ∧ H = []
  · obtain ⟨a0, rfl, rfl⟩ := hx
    right; intro K
    exact iff_of_eq (X_nat_Check.eq a0 K).symm
  · left; intro K h
    simp only [e_nat_Check] at h
    split at h
    · exact hx ⟨_, rfl, rfl⟩
    · exact h
noncomputable def e_exact_within : Entry := ⟨[none], false, fun args H K => match args, H with
  | [.int .i64 a0], [] => exact_within a0 (fun y0 => K (EV.bool y0) [])
  | _, _ => False⟩
noncomputable def E_exact_within : Env := ⟨look tys, look [], look [], gl, lookL [], false⟩
theorem X_exact_within.eq (a0 : Int) (K : EV → Heap → Prop) : evFn E_exact_within Tryd.f48 false [.int .i64 a0] [] K = exact_within a0 (fun y0 => K (EV.bool y0) []) := by
  have h : evFnQ E_exact_within Tryd.f48 false [.int .i64 a0] [] K = exact_within.d a0 (fun y0 => K (EV.bool y0) []) := by kernel_rfl
  rw [exact_within.is]; exact (evFnQ_eq _ _ _ _ _ _).symm.trans h
theorem X_exact_within.ok : SoundE Tryd.prog gl 48 e_exact_within := by
  refine fnOK (E := E_exact_within) (fn := Tryd.f48) rfl tys_ok rfl (show AllL _ [] from trivial) mixed (by kernel_rfl) (by kernel_rfl) (by kernel_rfl) 0 (by kernel_rfl) false trivial ?_
  intro args H
  by_cases hx : ∃ (a0 : Int), args = [.int .i64 a0] ∧ H = []
  · obtain ⟨a0, rfl, rfl⟩ := hx
    right; intro K
    exact iff_of_eq (X_exact_within.eq a0 K).symm
  · left; intro K h
    simp only [e_exact_within] at h
    split at h
    · exact hx ⟨_, rfl, rfl⟩
    · exact h
noncomputable def e_exact_null : Entry := ⟨[], false, fun args H K => match args, H with
  | [], [] => exact_null  (fun y0 y1 y2 y3 => K (EV.agg [EV.bool y0, EV.str y1, EV.str y2, EV.int IntKind.i64 y3]) [])
  | _, _ => False⟩
noncomputable def E_exact_null : Env := ⟨look tys, look [], look [], gl, lookL [], false⟩
theorem X_exact_null.eq (K : EV → Heap → Prop) : evFn E_exact_null Tryd.f49 false [] [] K = exact_null  (fun y0 y1 y2 y3 => K (EV.agg [EV.bool y0, EV.str y1, EV.str y2, EV.int IntKind.i64 y3]) []) := by
  have h : evFnQ E_exact_null Tryd.f49 false [] [] K = exact_null.d  (fun y0 y1 y2 y3 => K (EV.agg [EV.bool y0, EV.str y1, EV.str y2, EV.int IntKind.i64 y3]) []) := by kernel_rfl
  rw [exact_null.is]; exact (evFnQ_eq _ _ _ _ _ _).symm.trans h
theorem X_exact_null.ok : SoundE Tryd.prog gl 49 e_exact_null := by
  refine fnOK (E := E_exact_null) (fn := Tryd.f49) rfl tys_ok rfl (show AllL _ [] from trivial) mixed (by kernel_rfl) (by kernel_rfl) (by kernel_rfl) 0 (by kernel_rfl) false trivial ?_
  intro args H
  by_cases hx : args = [] ∧ H = []
  · obtain ⟨rfl, rfl⟩ := hx
    right; intro K
    exact iff_of_eq (X_exact_null.eq  K).symm
  · left; intro K h
    simp only [e_exact_null] at h
    split at h
    · exact hx ⟨rfl, rfl⟩
    · exact h
noncomputable def e_nat_right : Entry := ⟨[none, none], false, fun args H K => match args, H with
  | [.str a0, .str a1], [] => nat_right a0 a1 (fun y0 => K (EV.bool y0) [])
  | _, _ => False⟩
noncomputable def E_nat_right : Env := ⟨look tys, look [(46, e_nat_Check)], look [], gl, lookL [], false⟩
theorem X_nat_right.eq (a0 : List UInt8) (a1 : List UInt8) (K : EV → Heap → Prop) : evFn E_nat_right Tryd.f72 false [.str a0, .str a1] [] K = nat_right a0 a1 (fun y0 => K (EV.bool y0) []) := by
  have h : evFnQ E_nat_right Tryd.f72 false [.str a0, .str a1] [] K = nat_right.d a0 a1 (fun y0 => K (EV.bool y0) []) := by kernel_rfl
  rw [nat_right.is]; exact (evFnQ_eq _ _ _ _ _ _).symm.trans h
theorem X_nat_right.ok : SoundE Tryd.prog gl 72 e_nat_right := by
  refine fnOK (E := E_nat_right) (fn := Tryd.f72) rfl tys_ok rfl (show AllL _ [(46, e_nat_Check)] from ⟨X_nat_Check.ok, trivial⟩) mixed (by kernel_rfl) (by kernel_rfl) (by kernel_rfl) 0 (by kernel_rfl) false trivial ?_
  intro args H
  by_cases hx : ∃ (a0 : List UInt8) (a1 : List UInt8), args = [.str a0, .str a1] ∧ H = []
  · obtain ⟨a0, a1, rfl, rfl⟩ := hx
    right; intro K
    exact iff_of_eq (X_nat_right.eq a0 a1 K).symm
  · left; intro K h
    simp only [e_nat_right] at h
    split at h
    · exact hx ⟨_, _, rfl, rfl⟩
    · exact h
noncomputable def e_nat_words : Entry := ⟨[none], false, fun args H K => match args, H with
  | [.str a0], [] => nat_words a0 (fun y0 y1 => K (EV.rsI IntKind.u32 y0 y1) [])
  | _, _ => False⟩
noncomputable def E_nat_words : Env := ⟨look tys, look [], look [(3, nat_words.l3.entry)], gl, lookL [], false⟩
theorem nat_words.l3X.stepEq (R : List EV → Heap → Prop) (K : Ex → List EV → Heap → Prop) (x0 : List UInt8) (x1 : Nat) (x2 : Nat) (x3 : Int) (x4 : Int) (x5 : Nat) (x6 : Nat → Int) : loopStep (evCode E_nat_words (loopAt Tryd.f75 0) { (LV.mk 8 [(0, 8)] 4 0 false) with nx := live (.loop (loopAt Tryd.f75 0)) (LV.mk 8 [(0, 8)] 4 0 false) }) (live (.loop (loopAt Tryd.f75 0)) (LV.mk 8 [(0, 8)] 4 0 false)) (LV.mk 8 [(0, 8)] 4 0 false) 0 37 R [EV.str x0, EV.slice 0 0 x1 (some x2) 1, EV.int IntKind.i64 x3, EV.int IntKind.i64 x4] [some (EV.arr IntKind.u32 x5 x6)] K = nat_words.l3.step (fun x0 x1 x2 x3 x4 x5 x6 => R [EV.str x0, EV.slice 0 0 x1 (some x2) 1, EV.int IntKind.i64 x3, EV.int IntKind.i64 x4] [some (EV.arr IntKind.u32 x5 x6)]) (fun y0 y1 y2 y3 => K (.exit 0) [EV.slice 0 0 y0 (some y1) 1] [some (EV.arr IntKind.u32 y2 y3)]) x0 x1 x2 x3 x4 x5 x6 := (stepQ_eq _ _ _ _ _ _ _ _ _ _ _).symm.trans (by kernel_rfl)
theorem nat_words.l3X.eq (K : Ex → List EV → Heap → Prop) : ∀ (n : Nat) (x0 : List UInt8) (x1 : Nat) (x2 : Nat) (x3 : Int) (x4 : Int) (x5 : Nat) (x6 : Nat → Int), loopE E_nat_words (loopAt Tryd.f75 0) (LV.mk 8 [(0, 8)] 4 0 false) 0 37 K n [EV.str x0, EV.slice 0 0 x1 (some x2) 1, EV.int IntKind.i64 x3, EV.int IntKind.i64 x4] [some (EV.arr IntKind.u32 x5 x6)] = nat_words.l3 (fun y0 y1 y2 y3 => K (.exit 0) [EV.slice 0 0 y0 (some y1) 1] [some (EV.arr IntKind.u32 y2 y3)]) n x0 x1 x2 x3 x4 x5 x6
  | 0, _, _, _, _, _, _, _ => rfl
  | n + 1, x0, x1, x2, x3, x4, x5, x6 => by
    have ih : (fun (x0 : List UInt8) (x1 : Nat) (x2 : Nat) (x3 : Int) (x4 : Int) (x5 : Nat) (x6 : Nat → Int) => loopE E_nat_words (loopAt Tryd.f75 0) (LV.mk 8 [(0, 8)] 4 0 false) 0 37 K n [EV.str x0, EV.slice 0 0 x1 (some x2) 1, EV.int IntKind.i64 x3, EV.int IntKind.i64 x4] [some (EV.arr IntKind.u32 x5 x6)]) = nat_words.l3 (fun y0 y1 y2 y3 => K (.exit 0) [EV.slice 0 0 y0 (some y1) 1] [some (EV.arr IntKind.u32 y2 y3)]) n := by funext x0 x1 x2 x3 x4 x5 x6; exact nat_words.l3X.eq K n x0 x1 x2 x3 x4 x5 x6
    show loopStep _ _ _ _ _ (loopE E_nat_words (loopAt Tryd.f75 0) (LV.mk 8 [(0, 8)] 4 0 false) 0 37 K n) [EV.str x0, EV.slice 0 0 x1 (some x2) 1, EV.int IntKind.i64 x3, EV.int IntKind.i64 x4] [some (EV.arr IntKind.u32 x5 x6)] K = nat_words.l3.step (nat_words.l3 (fun y0 y1 y2 y3 => K (.exit 0) [EV.slice 0 0 y0 (some y1) 1] [some (EV.arr IntKind.u32 y2 y3)]) n) (fun y0 y1 y2 y3 => K (.exit 0) [EV.slice 0 0 y0 (some y1) 1] [some (EV.arr IntKind.u32 y2 y3)]) x0 x1 x2 x3 x4 x5 x6
    rw [← ih]
    exact nat_words.l3X.stepEq _ K x0 x1 x2 x3 x4 x5 x6
theorem nat_words.l3X.ok : LoopEq E_nat_words (loopAt Tryd.f75 0) := by
  intro L hL vs H
  have h1 : E_nat_words.lp (firstRegion (loopAt Tryd.f75 0)) = some nat_words.l3.entry := by kernel_rfl
  have h2 : L = nat_words.l3.entry := Option.some.inj (hL.symm.trans h1)
  subst h2
  by_cases hx : ∃ (x0 : List UInt8) (x1 : Nat) (x2 : Nat) (x3 : Int) (x4 : Int) (x5 : Nat) (x6 : Nat → Int), vs = [EV.str x0, EV.slice 0 0 x1 (some x2) 1, EV.int IntKind.i64 x3, EV.int IntKind.i64 x4] ∧ H = [some (EV.arr IntKind.u32 x5 x6)]
  · obtain ⟨x0, x1, x2, x3, x4, x5, x6, rfl, rfl⟩ := hx
    right; intro K
    exact exists_congr fun n => iff_of_eq (nat_words.l3X.eq K n x0 x1 x2 x3 x4 x5 x6).symm
  · left; intro K h
    simp only [nat_words.l3.entry] at h
    split at h
    · exact hx ⟨_, _, _, _, _, _, _, rfl, rfl⟩
    · exact h
theorem X_nat_words.eq (a0 : List UInt8) (K : EV → Heap → Prop) : evFn E_nat_words Tryd.f75 false [.str a0] [] K = nat_words a0 (fun y0 y1 => K (EV.rsI IntKind.u32 y0 y1) []) := by
  have h : evFnQ E_nat_words Tryd.f75 false [.str a0] [] K = nat_words.d a0 (fun y0 y1 => K (EV.rsI IntKind.u32 y0 y1) []) := by kernel_rfl
  rw [nat_words.is]; exact (evFnQ_eq _ _ _ _ _ _).symm.trans h
theorem X_nat_words.ok : SoundE Tryd.prog gl 75 e_nat_words := by
  refine fnOK (E := E_nat_words) (fn := Tryd.f75) rfl tys_ok rfl (show AllL _ [] from trivial) mixed (by kernel_rfl) (by kernel_rfl) (by kernel_rfl) 1 (by kernel_rfl) false ⟨nat_words.l3X.ok, trivial⟩ ?_
  intro args H
  by_cases hx : ∃ (a0 : List UInt8), args = [.str a0] ∧ H = []
  · obtain ⟨a0, rfl, rfl⟩ := hx
    right; intro K
    exact iff_of_eq (X_nat_words.eq a0 K).symm
  · left; intro K h
    simp only [e_nat_words] at h
    split at h
    · exact hx ⟨_, rfl, rfl⟩
    · exact h
noncomputable def e_nat_cut_r : Entry := ⟨[none], true, fun args H K => match args, H with
  | [.rsI .u32 a0n a0], [] => nat_cut_r a0n a0 (fun y0 y1 => K (EV.rsI IntKind.u32 y0 y1) [])
  | _, _ => False⟩
noncomputable def e_nat_cut_o : Entry := ⟨[none], true, fun args H K => match args, H with
  | [.slice 0 0 a0l (some a0c) 1], [some (.arr .u32 a0n a0)] => nat_cut_o a0l a0c a0n a0 (fun y0 y1 y2 y3 => K (EV.slice 0 0 y0 (some y1) 1) [some (EV.arr IntKind.u32 y2 y3)])
  | _, _ => False⟩
noncomputable def e_nat_cut_n : Entry := ⟨[none], true, fun args H K => match args, H with
  | [.slice 0 0 a0l none 1], [some (.arr .u32 a0n a0)] => nat_cut_n a0l a0n a0 (fun y0 y1 y2 => K (EV.slice 0 0 y0 none 1) [some (EV.arr IntKind.u32 y1 y2)])
  | _, _ => False⟩
noncomputable def e_nat_cut : Entry := Entry.pick (fun args H => match args, H with | [.rsI .u32 a0n a0], [] => true | _, _ => false) e_nat_cut_r (Entry.pick (fun args H => match args, H with | [.slice 0 0 a0l (some a0c) 1], [some (.arr .u32 a0n a0)] => true | _, _ => false) e_nat_cut_o (e_nat_cut_n))
noncomputable def E_nat_cut_r : Env := ⟨look tys, look [], look [(1, nat_cut_r.l1.entry)], gl, lookL [], false⟩
theorem nat_cut_r.l1X.stepEq (R : List EV → Heap → Prop) (K : Ex → List EV → Heap → Prop) (x0 : Nat) (x1 : Nat → Int) : loopStep (evCode E_nat_cut_r (loopAt Tryd.f103 0) { (LV.mk 1 [(0, 1)] 4 0 false) with nx := live (.loop (loopAt Tryd.f103 0)) (LV.mk 1 [(0, 1)] 4 0 false) }) (live (.loop (loopAt Tryd.f103 0)) (LV.mk 1 [(0, 1)] 4 0 false)) (LV.mk 1 [(0, 1)] 4 0 false) 0 21 R [EV.rsI IntKind.u32 x0 x1] [] K = nat_cut_r.l1.step (fun x0 x1 => R [EV.rsI IntKind.u32 x0 x1] []) (fun y0 y1 => K (.exit 0) [EV.rsI IntKind.u32 y0 y1] []) x0 x1 := (stepQ_eq _ _ _ _ _ _ _ _ _ _ _).symm.trans (by kernel_rfl)
theorem nat_cut_r.l1X.eq (K : Ex → List EV → Heap → Prop) : ∀ (n : Nat) (x0 : Nat) (x1 : Nat → Int), loopE E_nat_cut_r (loopAt Tryd.f103 0) (LV.mk 1 [(0, 1)] 4 0 false) 0 21 K n [EV.rsI IntKind.u32 x0 x1] [] = nat_cut_r.l1 (fun y0 y1 => K (.exit 0) [EV.rsI IntKind.u32 y0 y1] []) n x0 x1
  | 0, _, _ => rfl
  | n + 1, x0, x1 => by
    have ih : (fun (x0 : Nat) (x1 : Nat → Int) => loopE E_nat_cut_r (loopAt Tryd.f103 0) (LV.mk 1 [(0, 1)] 4 0 false) 0 21 K n [EV.rsI IntKind.u32 x0 x1] []) = nat_cut_r.l1 (fun y0 y1 => K (.exit 0) [EV.rsI IntKind.u32 y0 y1] []) n := by funext x0 x1; exact nat_cut_r.l1X.eq K n x0 x1
    show loopStep _ _ _ _ _ (loopE E_nat_cut_r (loopAt Tryd.f103 0) (LV.mk 1 [(0, 1)] 4 0 false) 0 21 K n) [EV.rsI IntKind.u32 x0 x1] [] K = nat_cut_r.l1.step (nat_cut_r.l1 (fun y0 y1 => K (.exit 0) [EV.rsI IntKind.u32 y0 y1] []) n) (fun y0 y1 => K (.exit 0) [EV.rsI IntKind.u32 y0 y1] []) x0 x1
    rw [← ih]
    exact nat_cut_r.l1X.stepEq _ K x0 x1
theorem nat_cut_r.l1X.ok : LoopEq E_nat_cut_r (loopAt Tryd.f103 0) := by
  intro L hL vs H
  have h1 : E_nat_cut_r.lp (firstRegion (loopAt Tryd.f103 0)) = some nat_cut_r.l1.entry := by kernel_rfl
  have h2 : L = nat_cut_r.l1.entry := Option.some.inj (hL.symm.trans h1)
  subst h2
  by_cases hx : ∃ (x0 : Nat) (x1 : Nat → Int), vs = [EV.rsI IntKind.u32 x0 x1] ∧ H = []
  · obtain ⟨x0, x1, rfl, rfl⟩ := hx
    right; intro K
    exact exists_congr fun n => iff_of_eq (nat_cut_r.l1X.eq K n x0 x1).symm
  · left; intro K h
    simp only [nat_cut_r.l1.entry] at h
    split at h
    · exact hx ⟨_, _, rfl, rfl⟩
    · exact h
theorem X_nat_cut_r.eq (a0n : Nat) (a0 : Nat → Int) (K : EV → Heap → Prop) : evFn E_nat_cut_r Tryd.f103 true [.rsI .u32 a0n a0] [] K = nat_cut_r a0n a0 (fun y0 y1 => K (EV.rsI IntKind.u32 y0 y1) []) := by
  have h : evFnQ E_nat_cut_r Tryd.f103 true [.rsI .u32 a0n a0] [] K = nat_cut_r.d a0n a0 (fun y0 y1 => K (EV.rsI IntKind.u32 y0 y1) []) := by kernel_rfl
  rw [nat_cut_r.is]; exact (evFnQ_eq _ _ _ _ _ _).symm.trans h
theorem X_nat_cut_r.ok : SoundE Tryd.prog gl 103 e_nat_cut_r := by
  refine fnOK (E := E_nat_cut_r) (fn := Tryd.f103) rfl tys_ok rfl (show AllL _ [] from trivial) mixed (by kernel_rfl) (by kernel_rfl) (by kernel_rfl) 1 (by kernel_rfl) true ⟨nat_cut_r.l1X.ok, trivial⟩ ?_
  intro args H
  by_cases hx : ∃ (a0n : Nat) (a0 : Nat → Int), args = [.rsI .u32 a0n a0] ∧ H = []
  · obtain ⟨a0n, a0, rfl, rfl⟩ := hx
    right; intro K
    exact iff_of_eq (X_nat_cut_r.eq a0n a0 K).symm
  · left; intro K h
    simp only [e_nat_cut_r] at h
    split at h
    · exact hx ⟨_, _, rfl, rfl⟩
    · exact h
noncomputable def E_nat_cut_o : Env := ⟨look tys, look [], look [(1, nat_cut_o.l1.entry)], gl, lookL [], false⟩
theorem nat_cut_o.l1X.stepEq (R : List EV → Heap → Prop) (K : Ex → List EV → Heap → Prop) (x0 : Nat) (x1 : Nat) (x2 : Nat) (x3 : Nat → Int) : loopStep (evCode E_nat_cut_o (loopAt Tryd.f103 0) { (LV.mk 1 [(0, 1)] 4 1 false) with nx := live (.loop (loopAt Tryd.f103 0)) (LV.mk 1 [(0, 1)] 4 1 false) }) (live (.loop (loopAt Tryd.f103 0)) (LV.mk 1 [(0, 1)] 4 1 false)) (LV.mk 1 [(0, 1)] 4 1 false) 1 21 R [EV.slice 0 0 x0 (some x1) 1] [some (EV.arr IntKind.u32 x2 x3)] K = nat_cut_o.l1.step (fun x0 x1 x2 x3 => R [EV.slice 0 0 x0 (some x1) 1] [some (EV.arr IntKind.u32 x2 x3)]) (fun y0 y1 y2 y3 => K (.exit 0) [EV.slice 0 0 y0 (some y1) 1] [some (EV.arr IntKind.u32 y2 y3)]) x0 x1 x2 x3 := (stepQ_eq _ _ _ _ _ _ _ _ _ _ _).symm.trans (by kernel_rfl)
theorem nat_cut_o.l1X.eq (K : Ex → List EV → Heap → Prop) : ∀ (n : Nat) (x0 : Nat) (x1 : Nat) (x2 : Nat) (x3 : Nat → Int), loopE E_nat_cut_o (loopAt Tryd.f103 0) (LV.mk 1 [(0, 1)] 4 1 false) 1 21 K n [EV.slice 0 0 x0 (some x1) 1] [some (EV.arr IntKind.u32 x2 x3)] = nat_cut_o.l1 (fun y0 y1 y2 y3 => K (.exit 0) [EV.slice 0 0 y0 (some y1) 1] [some (EV.arr IntKind.u32 y2 y3)]) n x0 x1 x2 x3
  | 0, _, _, _, _ => rfl
  | n + 1, x0, x1, x2, x3 => by
    have ih : (fun (x0 : Nat) (x1 : Nat) (x2 : Nat) (x3 : Nat → Int) => loopE E_nat_cut_o (loopAt Tryd.f103 0) (LV.mk 1 [(0, 1)] 4 1 false) 1 21 K n [EV.slice 0 0 x0 (some x1) 1] [some (EV.arr IntKind.u32 x2 x3)]) = nat_cut_o.l1 (fun y0 y1 y2 y3 => K (.exit 0) [EV.slice 0 0 y0 (some y1) 1] [some (EV.arr IntKind.u32 y2 y3)]) n := by funext x0 x1 x2 x3; exact nat_cut_o.l1X.eq K n x0 x1 x2 x3
    show loopStep _ _ _ _ _ (loopE E_nat_cut_o (loopAt Tryd.f103 0) (LV.mk 1 [(0, 1)] 4 1 false) 1 21 K n) [EV.slice 0 0 x0 (some x1) 1] [some (EV.arr IntKind.u32 x2 x3)] K = nat_cut_o.l1.step (nat_cut_o.l1 (fun y0 y1 y2 y3 => K (.exit 0) [EV.slice 0 0 y0 (some y1) 1] [some (EV.arr IntKind.u32 y2 y3)]) n) (fun y0 y1 y2 y3 => K (.exit 0) [EV.slice 0 0 y0 (some y1) 1] [some (EV.arr IntKind.u32 y2 y3)]) x0 x1 x2 x3
    rw [← ih]
    exact nat_cut_o.l1X.stepEq _ K x0 x1 x2 x3
theorem nat_cut_o.l1X.ok : LoopEq E_nat_cut_o (loopAt Tryd.f103 0) := by
  intro L hL vs H
  have h1 : E_nat_cut_o.lp (firstRegion (loopAt Tryd.f103 0)) = some nat_cut_o.l1.entry := by kernel_rfl
  have h2 : L = nat_cut_o.l1.entry := Option.some.inj (hL.symm.trans h1)
  subst h2
  by_cases hx : ∃ (x0 : Nat) (x1 : Nat) (x2 : Nat) (x3 : Nat → Int), vs = [EV.slice 0 0 x0 (some x1) 1] ∧ H = [some (EV.arr IntKind.u32 x2 x3)]
  · obtain ⟨x0, x1, x2, x3, rfl, rfl⟩ := hx
    right; intro K
    exact exists_congr fun n => iff_of_eq (nat_cut_o.l1X.eq K n x0 x1 x2 x3).symm
  · left; intro K h
    simp only [nat_cut_o.l1.entry] at h
    split at h
    · exact hx ⟨_, _, _, _, rfl, rfl⟩
    · exact h
theorem X_nat_cut_o.eq (a0l : Nat) (a0c : Nat) (a0n : Nat) (a0 : Nat → Int) (K : EV → Heap → Prop) : evFn E_nat_cut_o Tryd.f103 true [.slice 0 0 a0l (some a0c) 1] [some (.arr .u32 a0n a0)] K = nat_cut_o a0l a0c a0n a0 (fun y0 y1 y2 y3 => K (EV.slice 0 0 y0 (some y1) 1) [some (EV.arr IntKind.u32 y2 y3)]) := by
  have h : evFnQ E_nat_cut_o Tryd.f103 true [.slice 0 0 a0l (some a0c) 1] [some (.arr .u32 a0n a0)] K = nat_cut_o.d a0l a0c a0n a0 (fun y0 y1 y2 y3 => K (EV.slice 0 0 y0 (some y1) 1) [some (EV.arr IntKind.u32 y2 y3)]) := by kernel_rfl
  rw [nat_cut_o.is]; exact (evFnQ_eq _ _ _ _ _ _).symm.trans h
theorem X_nat_cut_o.ok : SoundE Tryd.prog gl 103 e_nat_cut_o := by
  refine fnOK (E := E_nat_cut_o) (fn := Tryd.f103) rfl tys_ok rfl (show AllL _ [] from trivial) mixed (by kernel_rfl) (by kernel_rfl) (by kernel_rfl) 1 (by kernel_rfl) true ⟨nat_cut_o.l1X.ok, trivial⟩ ?_
  intro args H
  by_cases hx : ∃ (a0l : Nat) (a0c : Nat) (a0n : Nat) (a0 : Nat → Int), args = [.slice 0 0 a0l (some a0c) 1] ∧ H = [some (.arr .u32 a0n a0)]
  · obtain ⟨a0l, a0c, a0n, a0, rfl, rfl⟩ := hx
    right; intro K
    exact iff_of_eq (X_nat_cut_o.eq a0l a0c a0n a0 K).symm
  · left; intro K h
    simp only [e_nat_cut_o] at h
    split at h
    · exact hx ⟨_, _, _, _, rfl, rfl⟩
    · exact h
noncomputable def E_nat_cut_n : Env := ⟨look tys, look [], look [(1, nat_cut_n.l1.entry)], gl, lookL [], false⟩
theorem nat_cut_n.l1X.stepEq (R : List EV → Heap → Prop) (K : Ex → List EV → Heap → Prop) (x0 : Nat) (x1 : Nat) (x2 : Nat → Int) : loopStep (evCode E_nat_cut_n (loopAt Tryd.f103 0) { (LV.mk 1 [(0, 1)] 4 1 false) with nx := live (.loop (loopAt Tryd.f103 0)) (LV.mk 1 [(0, 1)] 4 1 false) }) (live (.loop (loopAt Tryd.f103 0)) (LV.mk 1 [(0, 1)] 4 1 false)) (LV.mk 1 [(0, 1)] 4 1 false) 1 21 R [EV.slice 0 0 x0 none 1] [some (EV.arr IntKind.u32 x1 x2)] K = nat_cut_n.l1.step (fun x0 x1 x2 => R [EV.slice 0 0 x0 none 1] [some (EV.arr IntKind.u32 x1 x2)]) (fun y0 y1 y2 => K (.exit 0) [EV.slice 0 0 y0 none 1] [some (EV.arr IntKind.u32 y1 y2)]) x0 x1 x2 := (stepQ_eq _ _ _ _ _ _ _ _ _ _ _).symm.trans (by kernel_rfl)
theorem nat_cut_n.l1X.eq (K : Ex → List EV → Heap → Prop) : ∀ (n : Nat) (x0 : Nat) (x1 : Nat) (x2 : Nat → Int), loopE E_nat_cut_n (loopAt Tryd.f103 0) (LV.mk 1 [(0, 1)] 4 1 false) 1 21 K n [EV.slice 0 0 x0 none 1] [some (EV.arr IntKind.u32 x1 x2)] = nat_cut_n.l1 (fun y0 y1 y2 => K (.exit 0) [EV.slice 0 0 y0 none 1] [some (EV.arr IntKind.u32 y1 y2)]) n x0 x1 x2
  | 0, _, _, _ => rfl
  | n + 1, x0, x1, x2 => by
    have ih : (fun (x0 : Nat) (x1 : Nat) (x2 : Nat → Int) => loopE E_nat_cut_n (loopAt Tryd.f103 0) (LV.mk 1 [(0, 1)] 4 1 false) 1 21 K n [EV.slice 0 0 x0 none 1] [some (EV.arr IntKind.u32 x1 x2)]) = nat_cut_n.l1 (fun y0 y1 y2 => K (.exit 0) [EV.slice 0 0 y0 none 1] [some (EV.arr IntKind.u32 y1 y2)]) n := by funext x0 x1 x2; exact nat_cut_n.l1X.eq K n x0 x1 x2
    show loopStep _ _ _ _ _ (loopE E_nat_cut_n (loopAt Tryd.f103 0) (LV.mk 1 [(0, 1)] 4 1 false) 1 21 K n) [EV.slice 0 0 x0 none 1] [some (EV.arr IntKind.u32 x1 x2)] K = nat_cut_n.l1.step (nat_cut_n.l1 (fun y0 y1 y2 => K (.exit 0) [EV.slice 0 0 y0 none 1] [some (EV.arr IntKind.u32 y1 y2)]) n) (fun y0 y1 y2 => K (.exit 0) [EV.slice 0 0 y0 none 1] [some (EV.arr IntKind.u32 y1 y2)]) x0 x1 x2
    rw [← ih]
    exact nat_cut_n.l1X.stepEq _ K x0 x1 x2
theorem nat_cut_n.l1X.ok : LoopEq E_nat_cut_n (loopAt Tryd.f103 0) := by
  intro L hL vs H
  have h1 : E_nat_cut_n.lp (firstRegion (loopAt Tryd.f103 0)) = some nat_cut_n.l1.entry := by kernel_rfl
  have h2 : L = nat_cut_n.l1.entry := Option.some.inj (hL.symm.trans h1)
  subst h2
  by_cases hx : ∃ (x0 : Nat) (x1 : Nat) (x2 : Nat → Int), vs = [EV.slice 0 0 x0 none 1] ∧ H = [some (EV.arr IntKind.u32 x1 x2)]
  · obtain ⟨x0, x1, x2, rfl, rfl⟩ := hx
    right; intro K
    exact exists_congr fun n => iff_of_eq (nat_cut_n.l1X.eq K n x0 x1 x2).symm
  · left; intro K h
    simp only [nat_cut_n.l1.entry] at h
    split at h
    · exact hx ⟨_, _, _, rfl, rfl⟩
    · exact h
theorem X_nat_cut_n.eq (a0l : Nat) (a0n : Nat) (a0 : Nat → Int) (K : EV → Heap → Prop) : evFn E_nat_cut_n Tryd.f103 true [.slice 0 0 a0l none 1] [some (.arr .u32 a0n a0)] K = nat_cut_n a0l a0n a0 (fun y0 y1 y2 => K (EV.slice 0 0 y0 none 1) [some (EV.arr IntKind.u32 y1 y2)]) := by
  have h : evFnQ E_nat_cut_n Tryd.f103 true [.slice 0 0 a0l none 1] [some (.arr .u32 a0n a0)] K = nat_cut_n.d a0l a0n a0 (fun y0 y1 y2 => K (EV.slice 0 0 y0 none 1) [some (EV.arr IntKind.u32 y1 y2)]) := by kernel_rfl
  rw [nat_cut_n.is]; exact (evFnQ_eq _ _ _ _ _ _).symm.trans h
theorem X_nat_cut_n.ok : SoundE Tryd.prog gl 103 e_nat_cut_n := by
  refine fnOK (E := E_nat_cut_n) (fn := Tryd.f103) rfl tys_ok rfl (show AllL _ [] from trivial) mixed (by kernel_rfl) (by kernel_rfl) (by kernel_rfl) 1 (by kernel_rfl) true ⟨nat_cut_n.l1X.ok, trivial⟩ ?_
  intro args H
  by_cases hx : ∃ (a0l : Nat) (a0n : Nat) (a0 : Nat → Int), args = [.slice 0 0 a0l none 1] ∧ H = [some (.arr .u32 a0n a0)]
  · obtain ⟨a0l, a0n, a0, rfl, rfl⟩ := hx
    right; intro K
    exact iff_of_eq (X_nat_cut_n.eq a0l a0n a0 K).symm
  · left; intro K h
    simp only [e_nat_cut_n] at h
    split at h
    · exact hx ⟨_, _, _, rfl, rfl⟩
    · exact h
theorem X_nat_cut.ok : SoundE Tryd.prog gl 103 e_nat_cut := SoundE.pick X_nat_cut_r.ok (SoundE.pick X_nat_cut_o.ok (X_nat_cut_n.ok))
noncomputable def e_nat_down : Entry := ⟨[some .u32, none], false, fun args H K => match args, H with
  | [.rsI .u32 a0n a0, .int .i64 a1], [] => nat_down a0n a0 a1 (fun y0 y1 => K (EV.rsI IntKind.u32 y0 y1) [])
  | _, _ => False⟩
noncomputable def E_nat_down : Env := ⟨look tys, look [(103, e_nat_cut)], look [(5, nat_down.l5.entry)], gl, lookL [], false⟩
theorem nat_down.l5X.stepEq (R : List EV → Heap → Prop) (K : Ex → List EV → Heap → Prop) (x0 : Nat) (x1 : Nat → Int) (x2 : Int) (x3 : Nat) (x4 : Nat) (x5 : Int) (x6 : Int) (x7 : Nat) (x8 : Nat → Int) : loopStep (evCode E_nat_down (loopAt Tryd.f92 0) { (LV.mk 32 [(0, 32)] 16 0 false) with nx := live (.loop (loopAt Tryd.f92 0)) (LV.mk 32 [(0, 32)] 16 0 false) }) (live (.loop (loopAt Tryd.f92 0)) (LV.mk 32 [(0, 32)] 16 0 false)) (LV.mk 32 [(0, 32)] 16 0 false) 0 64 R [EV.rsI IntKind.u32 x0 x1, EV.int IntKind.i64 x2, EV.slice 0 0 x3 (some x4) 1, EV.int IntKind.i64 x5, EV.int IntKind.i64 x6] [some (EV.arr IntKind.u32 x7 x8)] K = nat_down.l5.step (fun x0 x1 x2 x3 x4 x5 x6 x7 x8 => R [EV.rsI IntKind.u32 x0 x1, EV.int IntKind.i64 x2, EV.slice 0 0 x3 (some x4) 1, EV.int IntKind.i64 x5, EV.int IntKind.i64 x6] [some (EV.arr IntKind.u32 x7 x8)]) (fun y0 y1 y2 y3 => K (.exit 0) [EV.slice 0 0 y0 (some y1) 1] [some (EV.arr IntKind.u32 y2 y3)]) x0 x1 x2 x3 x4 x5 x6 x7 x8 := (stepQ_eq _ _ _ _ _ _ _ _ _ _ _).symm.trans (by kernel_rfl)
theorem nat_down.l5X.eq (K : Ex → List EV → Heap → Prop) : ∀ (n : Nat) (x0 : Nat) (x1 : Nat → Int) (x2 : Int) (x3 : Nat) (x4 : Nat) (x5 : Int) (x6 : Int) (x7 : Nat) (x8 : Nat → Int), loopE E_nat_down (loopAt Tryd.f92 0) (LV.mk 32 [(0, 32)] 16 0 false) 0 64 K n [EV.rsI IntKind.u32 x0 x1, EV.int IntKind.i64 x2, EV.slice 0 0 x3 (some x4) 1, EV.int IntKind.i64 x5, EV.int IntKind.i64 x6] [some (EV.arr IntKind.u32 x7 x8)] = nat_down.l5 (fun y0 y1 y2 y3 => K (.exit 0) [EV.slice 0 0 y0 (some y1) 1] [some (EV.arr IntKind.u32 y2 y3)]) n x0 x1 x2 x3 x4 x5 x6 x7 x8
  | 0, _, _, _, _, _, _, _, _, _ => rfl
  | n + 1, x0, x1, x2, x3, x4, x5, x6, x7, x8 => by
    have ih : (fun (x0 : Nat) (x1 : Nat → Int) (x2 : Int) (x3 : Nat) (x4 : Nat) (x5 : Int) (x6 : Int) (x7 : Nat) (x8 : Nat → Int) => loopE E_nat_down (loopAt Tryd.f92 0) (LV.mk 32 [(0, 32)] 16 0 false) 0 64 K n [EV.rsI IntKind.u32 x0 x1, EV.int IntKind.i64 x2, EV.slice 0 0 x3 (some x4) 1, EV.int IntKind.i64 x5, EV.int IntKind.i64 x6] [some (EV.arr IntKind.u32 x7 x8)]) = nat_down.l5 (fun y0 y1 y2 y3 => K (.exit 0) [EV.slice 0 0 y0 (some y1) 1] [some (EV.arr IntKind.u32 y2 y3)]) n := by funext x0 x1 x2 x3 x4 x5 x6 x7 x8; exact nat_down.l5X.eq K n x0 x1 x2 x3 x4 x5 x6 x7 x8
    show loopStep _ _ _ _ _ (loopE E_nat_down (loopAt Tryd.f92 0) (LV.mk 32 [(0, 32)] 16 0 false) 0 64 K n) [EV.rsI IntKind.u32 x0 x1, EV.int IntKind.i64 x2, EV.slice 0 0 x3 (some x4) 1, EV.int IntKind.i64 x5, EV.int IntKind.i64 x6] [some (EV.arr IntKind.u32 x7 x8)] K = nat_down.l5.step (nat_down.l5 (fun y0 y1 y2 y3 => K (.exit 0) [EV.slice 0 0 y0 (some y1) 1] [some (EV.arr IntKind.u32 y2 y3)]) n) (fun y0 y1 y2 y3 => K (.exit 0) [EV.slice 0 0 y0 (some y1) 1] [some (EV.arr IntKind.u32 y2 y3)]) x0 x1 x2 x3 x4 x5 x6 x7 x8
    rw [← ih]
    exact nat_down.l5X.stepEq _ K x0 x1 x2 x3 x4 x5 x6 x7 x8
theorem nat_down.l5X.ok : LoopEq E_nat_down (loopAt Tryd.f92 0) := by
  intro L hL vs H
  have h1 : E_nat_down.lp (firstRegion (loopAt Tryd.f92 0)) = some nat_down.l5.entry := by kernel_rfl
  have h2 : L = nat_down.l5.entry := Option.some.inj (hL.symm.trans h1)
  subst h2
  by_cases hx : ∃ (x0 : Nat) (x1 : Nat → Int) (x2 : Int) (x3 : Nat) (x4 : Nat) (x5 : Int) (x6 : Int) (x7 : Nat) (x8 : Nat → Int), vs = [EV.rsI IntKind.u32 x0 x1, EV.int IntKind.i64 x2, EV.slice 0 0 x3 (some x4) 1, EV.int IntKind.i64 x5, EV.int IntKind.i64 x6] ∧ H = [some (EV.arr IntKind.u32 x7 x8)]
  · obtain ⟨x0, x1, x2, x3, x4, x5, x6, x7, x8, rfl, rfl⟩ := hx
    right; intro K
    exact exists_congr fun n => iff_of_eq (nat_down.l5X.eq K n x0 x1 x2 x3 x4 x5 x6 x7 x8).symm
  · left; intro K h
    simp only [nat_down.l5.entry] at h
    split at h
    · exact hx ⟨_, _, _, _, _, _, _, _, _, rfl, rfl⟩
    · exact h
theorem X_nat_down.eq (a0n : Nat) (a0 : Nat → Int) (a1 : Int) (K : EV → Heap → Prop) : evFn E_nat_down Tryd.f92 false [.rsI .u32 a0n a0, .int .i64 a1] [] K = nat_down a0n a0 a1 (fun y0 y1 => K (EV.rsI IntKind.u32 y0 y1) []) := by
  have h : evFnQ E_nat_down Tryd.f92 false [.rsI .u32 a0n a0, .int .i64 a1] [] K = nat_down.d a0n a0 a1 (fun y0 y1 => K (EV.rsI IntKind.u32 y0 y1) []) := by kernel_rfl
  rw [nat_down.is]; exact (evFnQ_eq _ _ _ _ _ _).symm.trans h
theorem X_nat_down.ok : SoundE Tryd.prog gl 92 e_nat_down := by
  refine fnOK (E := E_nat_down) (fn := Tryd.f92) rfl tys_ok rfl (show AllL _ [(103, e_nat_cut)] from ⟨X_nat_cut.ok, trivial⟩) mixed (by kernel_rfl) (by kernel_rfl) (by kernel_rfl) 1 (by kernel_rfl) false ⟨nat_down.l5X.ok, trivial⟩ ?_
  intro args H
  by_cases hx : ∃ (a0n : Nat) (a0 : Nat → Int) (a1 : Int), args = [.rsI .u32 a0n a0, .int .i64 a1] ∧ H = []
  · obtain ⟨a0n, a0, a1, rfl, rfl⟩ := hx
    right; intro K
    exact iff_of_eq (X_nat_down.eq a0n a0 a1 K).symm
  · left; intro K h
    simp only [e_nat_down] at h
    split at h
    · exact hx ⟨_, _, _, rfl, rfl⟩
    · exact h
noncomputable def e_nat_up : Entry := ⟨[some .u32, none], true, fun args H K => match args, H with
  | [.rsI .u32 a0n a0, .int .i64 a1], [] => nat_up a0n a0 a1 (K (EV.nilSlice) []) (fun y0 y1 y2 y3 => K (EV.slice 0 0 y0 (some y1) 1) [some (EV.arr IntKind.u32 y2 y3)])
  | _, _ => False⟩
noncomputable def E_nat_up : Env := ⟨look tys, look [(103, e_nat_cut)], look [(5, nat_up.l5.entry)], gl, lookL [], false⟩
theorem nat_up.l5X.stepEq (R : List EV → Heap → Prop) (K : Ex → List EV → Heap → Prop) (x0 : Int) (x1 : Nat) (x2 : Nat) (x3 : Nat) (x4 : Nat → Int) (x5 : Int) (x6 : Int) (x7 : Nat) (x8 : Nat → Int) : loopStep (evCode E_nat_up (loopAt Tryd.f101 0) { (LV.mk 32 [(0, 32)] 16 0 false) with nx := live (.loop (loopAt Tryd.f101 0)) (LV.mk 32 [(0, 32)] 16 0 false) }) (live (.loop (loopAt Tryd.f101 0)) (LV.mk 32 [(0, 32)] 16 0 false)) (LV.mk 32 [(0, 32)] 16 0 false) 0 59 R [EV.int IntKind.i64 x0, EV.slice 0 0 x1 (some x2) 1, EV.rsI IntKind.u32 x3 x4, EV.int IntKind.i64 x5, EV.int IntKind.i64 x6] [some (EV.arr IntKind.u32 x7 x8)] K = nat_up.l5.step (fun x0 x1 x2 x3 x4 x5 x6 x7 x8 => R [EV.int IntKind.i64 x0, EV.slice 0 0 x1 (some x2) 1, EV.rsI IntKind.u32 x3 x4, EV.int IntKind.i64 x5, EV.int IntKind.i64 x6] [some (EV.arr IntKind.u32 x7 x8)]) (fun y0 y1 y2 y3 => K (.exit 0) [EV.slice 0 0 y0 (some y1) 1] [some (EV.arr IntKind.u32 y2 y3)]) x0 x1 x2 x3 x4 x5 x6 x7 x8 := (stepQ_eq _ _ _ _ _ _ _ _ _ _ _).symm.trans (by kernel_rfl)
theorem nat_up.l5X.eq (K : Ex → List EV → Heap → Prop) : ∀ (n : Nat) (x0 : Int) (x1 : Nat) (x2 : Nat) (x3 : Nat) (x4 : Nat → Int) (x5 : Int) (x6 : Int) (x7 : Nat) (x8 : Nat → Int), loopE E_nat_up (loopAt Tryd.f101 0) (LV.mk 32 [(0, 32)] 16 0 false) 0 59 K n [EV.int IntKind.i64 x0, EV.slice 0 0 x1 (some x2) 1, EV.rsI IntKind.u32 x3 x4, EV.int IntKind.i64 x5, EV.int IntKind.i64 x6] [some (EV.arr IntKind.u32 x7 x8)] = nat_up.l5 (fun y0 y1 y2 y3 => K (.exit 0) [EV.slice 0 0 y0 (some y1) 1] [some (EV.arr IntKind.u32 y2 y3)]) n x0 x1 x2 x3 x4 x5 x6 x7 x8
  | 0, _, _, _, _, _, _, _, _, _ => rfl
  | n + 1, x0, x1, x2, x3, x4, x5, x6, x7, x8 => by
    have ih : (fun (x0 : Int) (x1 : Nat) (x2 : Nat) (x3 : Nat) (x4 : Nat → Int) (x5 : Int) (x6 : Int) (x7 : Nat) (x8 : Nat → Int) => loopE E_nat_up (loopAt Tryd.f101 0) (LV.mk 32 [(0, 32)] 16 0 false) 0 59 K n [EV.int IntKind.i64 x0, EV.slice 0 0 x1 (some x2) 1, EV.rsI IntKind.u32 x3 x4, EV.int IntKind.i64 x5, EV.int IntKind.i64 x6] [some (EV.arr IntKind.u32 x7 x8)]) = nat_up.l5 (fun y0 y1 y2 y3 => K (.exit 0) [EV.slice 0 0 y0 (some y1) 1] [some (EV.arr IntKind.u32 y2 y3)]) n := by funext x0 x1 x2 x3 x4 x5 x6 x7 x8; exact nat_up.l5X.eq K n x0 x1 x2 x3 x4 x5 x6 x7 x8
    show loopStep _ _ _ _ _ (loopE E_nat_up (loopAt Tryd.f101 0) (LV.mk 32 [(0, 32)] 16 0 false) 0 59 K n) [EV.int IntKind.i64 x0, EV.slice 0 0 x1 (some x2) 1, EV.rsI IntKind.u32 x3 x4, EV.int IntKind.i64 x5, EV.int IntKind.i64 x6] [some (EV.arr IntKind.u32 x7 x8)] K = nat_up.l5.step (nat_up.l5 (fun y0 y1 y2 y3 => K (.exit 0) [EV.slice 0 0 y0 (some y1) 1] [some (EV.arr IntKind.u32 y2 y3)]) n) (fun y0 y1 y2 y3 => K (.exit 0) [EV.slice 0 0 y0 (some y1) 1] [some (EV.arr IntKind.u32 y2 y3)]) x0 x1 x2 x3 x4 x5 x6 x7 x8
    rw [← ih]
    exact nat_up.l5X.stepEq _ K x0 x1 x2 x3 x4 x5 x6 x7 x8
theorem nat_up.l5X.ok : LoopEq E_nat_up (loopAt Tryd.f101 0) := by
  intro L hL vs H
  have h1 : E_nat_up.lp (firstRegion (loopAt Tryd.f101 0)) = some nat_up.l5.entry := by kernel_rfl
  have h2 : L = nat_up.l5.entry := Option.some.inj (hL.symm.trans h1)
  subst h2
  by_cases hx : ∃ (x0 : Int) (x1 : Nat) (x2 : Nat) (x3 : Nat) (x4 : Nat → Int) (x5 : Int) (x6 : Int) (x7 : Nat) (x8 : Nat → Int), vs = [EV.int IntKind.i64 x0, EV.slice 0 0 x1 (some x2) 1, EV.rsI IntKind.u32 x3 x4, EV.int IntKind.i64 x5, EV.int IntKind.i64 x6] ∧ H = [some (EV.arr IntKind.u32 x7 x8)]
  · obtain ⟨x0, x1, x2, x3, x4, x5, x6, x7, x8, rfl, rfl⟩ := hx
    right; intro K
    exact exists_congr fun n => iff_of_eq (nat_up.l5X.eq K n x0 x1 x2 x3 x4 x5 x6 x7 x8).symm
  · left; intro K h
    simp only [nat_up.l5.entry] at h
    split at h
    · exact hx ⟨_, _, _, _, _, _, _, _, _, rfl, rfl⟩
    · exact h
theorem X_nat_up.eq (a0n : Nat) (a0 : Nat → Int) (a1 : Int) (K : EV → Heap → Prop) : evFn E_nat_up Tryd.f101 true [.rsI .u32 a0n a0, .int .i64 a1] [] K = nat_up a0n a0 a1 (K (EV.nilSlice) []) (fun y0 y1 y2 y3 => K (EV.slice 0 0 y0 (some y1) 1) [some (EV.arr IntKind.u32 y2 y3)]) := by
  have h : evFnQ E_nat_up Tryd.f101 true [.rsI .u32 a0n a0, .int .i64 a1] [] K = nat_up.d a0n a0 a1 (K (EV.nilSlice) []) (fun y0 y1 y2 y3 => K (EV.slice 0 0 y0 (some y1) 1) [some (EV.arr IntKind.u32 y2 y3)]) := by kernel_rfl
  rw [nat_up.is]; exact (evFnQ_eq _ _ _ _ _ _).symm.trans h
theorem X_nat_up.ok : SoundE Tryd.prog gl 101 e_nat_up := by
  refine fnOK (E := E_nat_up) (fn := Tryd.f101) rfl tys_ok rfl (show AllL _ [(103, e_nat_cut)] from ⟨X_nat_cut.ok, trivial⟩) mixed (by kernel_rfl) (by kernel_rfl) (by kernel_rfl) 1 (by kernel_rfl) true ⟨nat_up.l5X.ok, trivial⟩ ?_
  intro args H
  by_cases hx : ∃ (a0n : Nat) (a0 : Nat → Int) (a1 : Int), args = [.rsI .u32 a0n a0, .int .i64 a1] ∧ H = []
  · obtain ⟨a0n, a0, a1, rfl, rfl⟩ := hx
    right; intro K
    exact iff_of_eq (X_nat_up.eq a0n a0 a1 K).symm
  · left; intro K h
    simp only [e_nat_up] at h
    split at h
    · exact hx ⟨_, _, _, rfl, rfl⟩
    · exact h
noncomputable def e_nat_upN : Entry := Entry.nonil e_nat_up
theorem X_nat_upN.ok : SoundE Tryd.prog gl 101 e_nat_upN := SoundE.nonil X_nat_up.ok
noncomputable def e_nat_cmp : Entry := ⟨[some .u32, some .u32], false, fun args H K => match args, H with
  | [.rsI .u32 a0n a0, .rsI .u32 a1n a1], [] => nat_cmp a0n a0 a1n a1 (fun y0 => K (EV.int IntKind.i64 y0) [])
  | _, _ => False⟩
noncomputable def E_nat_cmp : Env := ⟨look tys, look [], look [(6, nat_cmp.l6.entry)], gl, lookL [], false⟩
theorem nat_cmp.l6X.stepEq (R : List EV → Heap → Prop) (K : Ex → List EV → Heap → Prop) (x0 : Nat) (x1 : Nat → Int) (x2 : Nat) (x3 : Nat → Int) (x4 : Int) : loopStep (evCode E_nat_cmp (loopAt Tryd.f104 0) { (LV.mk 0 [(1, 0)] 16 0 false) with nx := live (.loop (loopAt Tryd.f104 0)) (LV.mk 0 [(1, 0)] 16 0 false) }) (live (.loop (loopAt Tryd.f104 0)) (LV.mk 0 [(1, 0)] 16 0 false)) (LV.mk 0 [(1, 0)] 16 0 false) 0 45 R [EV.rsI IntKind.u32 x0 x1, EV.rsI IntKind.u32 x2 x3, EV.int IntKind.i64 x4] [] K = nat_cmp.l6.step (fun x0 x1 x2 x3 x4 => R [EV.rsI IntKind.u32 x0 x1, EV.rsI IntKind.u32 x2 x3, EV.int IntKind.i64 x4] []) (fun y0 => K .ret [EV.int IntKind.i64 y0] []) (K (.exit 1) [] []) x0 x1 x2 x3 x4 := (stepQ_eq _ _ _ _ _ _ _ _ _ _ _).symm.trans (by kernel_rfl)
theorem nat_cmp.l6X.eq (K : Ex → List EV → Heap → Prop) : ∀ (n : Nat) (x0 : Nat) (x1 : Nat → Int) (x2 : Nat) (x3 : Nat → Int) (x4 : Int), loopE E_nat_cmp (loopAt Tryd.f104 0) (LV.mk 0 [(1, 0)] 16 0 false) 0 45 K n [EV.rsI IntKind.u32 x0 x1, EV.rsI IntKind.u32 x2 x3, EV.int IntKind.i64 x4] [] = nat_cmp.l6 (fun y0 => K .ret [EV.int IntKind.i64 y0] []) (K (.exit 1) [] []) n x0 x1 x2 x3 x4
  | 0, _, _, _, _, _ => rfl
  | n + 1, x0, x1, x2, x3, x4 => by
    have ih : (fun (x0 : Nat) (x1 : Nat → Int) (x2 : Nat) (x3 : Nat → Int) (x4 : Int) => loopE E_nat_cmp (loopAt Tryd.f104 0) (LV.mk 0 [(1, 0)] 16 0 false) 0 45 K n [EV.rsI IntKind.u32 x0 x1, EV.rsI IntKind.u32 x2 x3, EV.int IntKind.i64 x4] []) = nat_cmp.l6 (fun y0 => K .ret [EV.int IntKind.i64 y0] []) (K (.exit 1) [] []) n := by funext x0 x1 x2 x3 x4; exact nat_cmp.l6X.eq K n x0 x1 x2 x3 x4
    show loopStep _ _ _ _ _ (loopE E_nat_cmp (loopAt Tryd.f104 0) (LV.mk 0 [(1, 0)] 16 0 false) 0 45 K n) [EV.rsI IntKind.u32 x0 x1, EV.rsI IntKind.u32 x2 x3, EV.int IntKind.i64 x4] [] K = nat_cmp.l6.step (nat_cmp.l6 (fun y0 => K .ret [EV.int IntKind.i64 y0] []) (K (.exit 1) [] []) n) (fun y0 => K .ret [EV.int IntKind.i64 y0] []) (K (.exit 1) [] []) x0 x1 x2 x3 x4
    rw [← ih]
    exact nat_cmp.l6X.stepEq _ K x0 x1 x2 x3 x4
theorem nat_cmp.l6X.ok : LoopEq E_nat_cmp (loopAt Tryd.f104 0) := by
  intro L hL vs H
  have h1 : E_nat_cmp.lp (firstRegion (loopAt Tryd.f104 0)) = some nat_cmp.l6.entry := by kernel_rfl
  have h2 : L = nat_cmp.l6.entry := Option.some.inj (hL.symm.trans h1)
  subst h2
  by_cases hx : ∃ (x0 : Nat) (x1 : Nat → Int) (x2 : Nat) (x3 : Nat → Int) (x4 : Int), vs = [EV.rsI IntKind.u32 x0 x1, EV.rsI IntKind.u32 x2 x3, EV.int IntKind.i64 x4] ∧ H = []
  · obtain ⟨x0, x1, x2, x3, x4, rfl, rfl⟩ := hx
    right; intro K
    exact exists_congr fun n => iff_of_eq (nat_cmp.l6X.eq K n x0 x1 x2 x3 x4).symm
  · left; intro K h
    simp only [nat_cmp.l6.entry] at h
    split at h
    · exact hx ⟨_, _, _, _, _, rfl, rfl⟩
    · exact h
theorem X_nat_cmp.eq (a0n : Nat) (a0 : Nat → Int) (a1n : Nat) (a1 : Nat → Int) (K : EV → Heap → Prop) : evFn E_nat_cmp Tryd.f104 false [.rsI .u32 a0n a0, .rsI .u32 a1n a1] [] K = nat_cmp a0n a0 a1n a1 (fun y0 => K (EV.int IntKind.i64 y0) []) := by
  have h : evFnQ E_nat_cmp Tryd.f104 false [.rsI .u32 a0n a0, .rsI .u32 a1n a1] [] K = nat_cmp.d a0n a0 a1n a1 (fun y0 => K (EV.int IntKind.i64 y0) []) := by kernel_rfl
  rw [nat_cmp.is]; exact (evFnQ_eq _ _ _ _ _ _).symm.trans h
theorem X_nat_cmp.ok : SoundE Tryd.prog gl 104 e_nat_cmp := by
  refine fnOK (E := E_nat_cmp) (fn := Tryd.f104) rfl tys_ok rfl (show AllL _ [] from trivial) mixed (by kernel_rfl) (by kernel_rfl) (by kernel_rfl) 1 (by kernel_rfl) false ⟨nat_cmp.l6X.ok, trivial⟩ ?_
  intro args H
  by_cases hx : ∃ (a0n : Nat) (a0 : Nat → Int) (a1n : Nat) (a1 : Nat → Int), args = [.rsI .u32 a0n a0, .rsI .u32 a1n a1] ∧ H = []
  · obtain ⟨a0n, a0, a1n, a1, rfl, rfl⟩ := hx
    right; intro K
    exact iff_of_eq (X_nat_cmp.eq a0n a0 a1n a1 K).symm
  · left; intro K h
    simp only [e_nat_cmp] at h
    split at h
    · exact hx ⟨_, _, _, _, rfl, rfl⟩
    · exact h
noncomputable def e_bits_Len64 : Entry := ⟨[none], false, fun args H K => match args, H with
  | [.int .u64 a0], [] => bits_Len64 a0 (fun y0 => K (EV.int IntKind.i64 y0) [])
  | _, _ => False⟩
noncomputable def E_bits_Len64 : Env := ⟨look tys, look [], look [], gl, lookL [], false⟩
theorem X_bits_Len64.eq (a0 : Int) (K : EV → Heap → Prop) : evFn E_bits_Len64 Tryd.f113 false [.int .u64 a0] [] K = bits_Len64 a0 (fun y0 => K (EV.int IntKind.i64 y0) []) := by
  have h : evFnQ E_bits_Len64 Tryd.f113 false [.int .u64 a0] [] K = bits_Len64.d a0 (fun y0 => K (EV.int IntKind.i64 y0) []) := by kernel_rfl
  rw [bits_Len64.is]; exact (evFnQ_eq _ _ _ _ _ _).symm.trans h
theorem X_bits_Len64.ok : SoundE Tryd.prog gl 113 e_bits_Len64 := by
  refine fnOK (E := E_bits_Len64) (fn := Tryd.f113) rfl tys_ok rfl (show AllL _ [] from trivial) mixed (by kernel_rfl) (by kernel_rfl) (by kernel_rfl) 0 (by kernel_rfl) false trivial ?_
  intro args H
  by_cases hx : ∃ (a0 : Int), args = [.int .u64 a0] ∧ H = []
  · obtain ⟨a0, rfl, rfl⟩ := hx
    right; intro K
    exact iff_of_eq (X_bits_Len64.eq a0 K).symm
  · left; intro K h
    simp only [e_bits_Len64] at h
    split at h
    · exact hx ⟨_, rfl, rfl⟩
    · exact h
noncomputable def e_word_Len : Entry := ⟨[none], false, fun args H K => match args, H with
  | [.int .u64 a0], [] => word_Len a0 (fun y0 => K (EV.int IntKind.i64 y0) [])
  | _, _ => False⟩
noncomputable def E_word_Len : Env := ⟨look tys, look [(113, e_bits_Len64)], look [], gl, lookL [], false⟩
theorem X_word_Len.eq (a0 : Int) (K : EV → Heap → Prop) : evFn E_word_Len Tryd.f109 false [.int .u64 a0] [] K = word_Len a0 (fun y0 => K (EV.int IntKind.i64 y0) []) := by
  have h : evFnQ E_word_Len Tryd.f109 false [.int .u64 a0] [] K = word_Len.d a0 (fun y0 => K (EV.int IntKind.i64 y0) []) := by kernel_rfl
  rw [word_Len.is]; exact (evFnQ_eq _ _ _ _ _ _).symm.trans h
theorem X_word_Len.ok : SoundE Tryd.prog gl 109 e_word_Len := by
  refine fnOK (E := E_word_Len) (fn := Tryd.f109) rfl tys_ok rfl (show AllL _ [(113, e_bits_Len64)] from ⟨X_bits_Len64.ok, trivial⟩) mixed (by kernel_rfl) (by kernel_rfl) (by kernel_rfl) 0 (by kernel_rfl) false trivial ?_
  intro args H
  by_cases hx : ∃ (a0 : Int), args = [.int .u64 a0] ∧ H = []
  · obtain ⟨a0, rfl, rfl⟩ := hx
    right; intro K
    exact iff_of_eq (X_word_Len.eq a0 K).symm
  · left; intro K h
    simp only [e_word_Len] at h
    split at h
    · exact hx ⟨_, rfl, rfl⟩
    · exact h
noncomputable def e_nat_parts : Entry := ⟨[some .u32, some .u32], false, fun args H K => match args, H with
  | [.rsI .u32 a0n a0, .rsI .u32 a1n a1], [] => nat_parts a0n a0 a1n a1 (fun y0 y1 y2 y3 => K (EV.tuple [EV.rsI IntKind.u32 y0 y1, EV.rsI IntKind.u32 y2 y3]) [])
  | _, _ => False⟩
noncomputable def E_nat_parts : Env := ⟨look tys, look [(92, e_nat_down), (101, e_nat_upN), (103, e_nat_cut), (104, e_nat_cmp), (109, e_word_Len)], look [(7, nat_parts.l7.entry), (16, nat_parts.l16.entry), (20, nat_parts.l20.entry), (24, nat_parts.l24.entry), (31, nat_parts.l31.entry), (45, nat_parts.l45.entry)], gl, lookL [], true⟩
theorem nat_parts.l7X.stepEq (R : List EV → Heap → Prop) (K : Ex → List EV → Heap → Prop) (x0 : Nat) (x1 : Nat → Int) (x2 : Nat) (x3 : Nat → Int) (x4 : Nat) (x5 : Int) (x6 : Int) (x7 : Nat) (x8 : Nat → Int) : loopStep (evCode E_nat_parts (loopAt Tryd.f89 0) { (LV.mk 80 [(0, 80)] 48 0 true) with nx := live (.loop (loopAt Tryd.f89 0)) (LV.mk 80 [(0, 80)] 48 0 true) }) (live (.loop (loopAt Tryd.f89 0)) (LV.mk 80 [(0, 80)] 48 0 true)) (LV.mk 80 [(0, 80)] 48 0 true) 0 285 R [EV.rsI IntKind.u32 x0 x1, EV.rsI IntKind.u32 x2 x3, EV.slice 0 0 x4 none 1, EV.int IntKind.u64 x5, EV.int IntKind.i64 x6] [some (EV.arr IntKind.u32 x7 x8)] K = nat_parts.l7.step (fun x0 x1 x2 x3 x4 x5 x6 x7 x8 => R [EV.rsI IntKind.u32 x0 x1, EV.rsI IntKind.u32 x2 x3, EV.slice 0 0 x4 none 1, EV.int IntKind.u64 x5, EV.int IntKind.i64 x6] [some (EV.arr IntKind.u32 x7 x8)]) (fun y0 y1 y2 y3 => K (.exit 0) [EV.slice 0 0 y0 none 1, EV.int IntKind.u64 y1] [some (EV.arr IntKind.u32 y2 y3)]) x0 x1 x2 x3 x4 x5 x6 x7 x8 := (stepQ_eq _ _ _ _ _ _ _ _ _ _ _).symm.trans (by kernel_rfl)
theorem nat_parts.l7X.eq (K : Ex → List EV → Heap → Prop) : ∀ (n : Nat) (x0 : Nat) (x1 : Nat → Int) (x2 : Nat) (x3 : Nat → Int) (x4 : Nat) (x5 : Int) (x6 : Int) (x7 : Nat) (x8 : Nat → Int), loopE E_nat_parts (loopAt Tryd.f89 0) (LV.mk 80 [(0, 80)] 48 0 true) 0 285 K n [EV.rsI IntKind.u32 x0 x1, EV.rsI IntKind.u32 x2 x3, EV.slice 0 0 x4 none 1, EV.int IntKind.u64 x5, EV.int IntKind.i64 x6] [some (EV.arr IntKind.u32 x7 x8)] = nat_parts.l7 (fun y0 y1 y2 y3 => K (.exit 0) [EV.slice 0 0 y0 none 1, EV.int IntKind.u64 y1] [some (EV.arr IntKind.u32 y2 y3)]) n x0 x1 x2 x3 x4 x5 x6 x7 x8
  | 0, _, _, _, _, _, _, _, _, _ => rfl
  | n + 1, x0, x1, x2, x3, x4, x5, x6, x7, x8 => by
    have ih : (fun (x0 : Nat) (x1 : Nat → Int) (x2 : Nat) (x3 : Nat → Int) (x4 : Nat) (x5 : Int) (x6 : Int) (x7 : Nat) (x8 : Nat → Int) => loopE E_nat_parts (loopAt Tryd.f89 0) (LV.mk 80 [(0, 80)] 48 0 true) 0 285 K n [EV.rsI IntKind.u32 x0 x1, EV.rsI IntKind.u32 x2 x3, EV.slice 0 0 x4 none 1, EV.int IntKind.u64 x5, EV.int IntKind.i64 x6] [some (EV.arr IntKind.u32 x7 x8)]) = nat_parts.l7 (fun y0 y1 y2 y3 => K (.exit 0) [EV.slice 0 0 y0 none 1, EV.int IntKind.u64 y1] [some (EV.arr IntKind.u32 y2 y3)]) n := by funext x0 x1 x2 x3 x4 x5 x6 x7 x8; exact nat_parts.l7X.eq K n x0 x1 x2 x3 x4 x5 x6 x7 x8
    show loopStep _ _ _ _ _ (loopE E_nat_parts (loopAt Tryd.f89 0) (LV.mk 80 [(0, 80)] 48 0 true) 0 285 K n) [EV.rsI IntKind.u32 x0 x1, EV.rsI IntKind.u32 x2 x3, EV.slice 0 0 x4 none 1, EV.int IntKind.u64 x5, EV.int IntKind.i64 x6] [some (EV.arr IntKind.u32 x7 x8)] K = nat_parts.l7.step (nat_parts.l7 (fun y0 y1 y2 y3 => K (.exit 0) [EV.slice 0 0 y0 none 1, EV.int IntKind.u64 y1] [some (EV.arr IntKind.u32 y2 y3)]) n) (fun y0 y1 y2 y3 => K (.exit 0) [EV.slice 0 0 y0 none 1, EV.int IntKind.u64 y1] [some (EV.arr IntKind.u32 y2 y3)]) x0 x1 x2 x3 x4 x5 x6 x7 x8
    rw [← ih]
    exact nat_parts.l7X.stepEq _ K x0 x1 x2 x3 x4 x5 x6 x7 x8
theorem nat_parts.l7X.ok : LoopEq E_nat_parts (loopAt Tryd.f89 0) := by
  intro L hL vs H
  have h1 : E_nat_parts.lp (firstRegion (loopAt Tryd.f89 0)) = some nat_parts.l7.entry := by kernel_rfl
  have h2 : L = nat_parts.l7.entry := Option.some.inj (hL.symm.trans h1)
  subst h2
  by_cases hx : ∃ (x0 : Nat) (x1 : Nat → Int) (x2 : Nat) (x3 : Nat → Int) (x4 : Nat) (x5 : Int) (x6 : Int) (x7 : Nat) (x8 : Nat → Int), vs = [EV.rsI IntKind.u32 x0 x1, EV.rsI IntKind.u32 x2 x3, EV.slice 0 0 x4 none 1, EV.int IntKind.u64 x5, EV.int IntKind.i64 x6] ∧ H = [some (EV.arr IntKind.u32 x7 x8)]
  · obtain ⟨x0, x1, x2, x3, x4, x5, x6, x7, x8, rfl, rfl⟩ := hx
    right; intro K
    exact exists_congr fun n => iff_of_eq (nat_parts.l7X.eq K n x0 x1 x2 x3 x4 x5 x6 x7 x8).symm
  · left; intro K h
    simp only [nat_parts.l7.entry] at h
    split at h
    · exact hx ⟨_, _, _, _, _, _, _, _, _, rfl, rfl⟩
    · exact h
theorem nat_parts.l16X.stepEq (R : List EV → Heap → Prop) (K : Ex → List EV → Heap → Prop) (x0 : Nat) (x1 : Nat → Int) (x2 : Nat) (x3 : Int) (x4 : Nat) (x5 : Nat) (x6 : Nat) (x7 : Nat → Int) (x8 : Nat) (x9 : Nat → Int) (x10 : Nat) (x11 : Nat → Int) : loopStep (evCode E_nat_parts (loopAt Tryd.f89 1) { (LV.mk 1808 [(2, 1808)] 48 0 true) with nx := live (.loop (loopAt Tryd.f89 1)) (LV.mk 1808 [(2, 1808)] 48 0 true) }) (live (.loop (loopAt Tryd.f89 1)) (LV.mk 1808 [(2, 1808)] 48 0 true)) (LV.mk 1808 [(2, 1808)] 48 0 true) 0 285 R [EV.rsI IntKind.u32 x0 x1, EV.slice 0 0 x2 none 1, EV.int IntKind.i64 x3, EV.slice 1 0 x4 none 1, EV.slice 2 0 x5 none 1] [some (EV.arr IntKind.u32 x6 x7), some (EV.arr IntKind.u32 x8 x9), some (EV.arr IntKind.u32 x10 x11)] K = nat_parts.l16.step (fun x0 x1 x2 x3 x4 x5 x6 x7 x8 x9 x10 x11 => R [EV.rsI IntKind.u32 x0 x1, EV.slice 0 0 x2 none 1, EV.int IntKind.i64 x3, EV.slice 1 0 x4 none 1, EV.slice 2 0 x5 none 1] [some (EV.arr IntKind.u32 x6 x7), some (EV.arr IntKind.u32 x8 x9), some (EV.arr IntKind.u32 x10 x11)]) (fun y0 y1 y2 y3 y4 y5 y6 y7 y8 y9 => K (.exit 2) [EV.slice 0 0 y0 none 1, EV.int IntKind.i64 y1, EV.slice 1 0 y2 none 1, EV.slice 2 0 y3 none 1] [some (EV.arr IntKind.u32 y4 y5), some (EV.arr IntKind.u32 y6 y7), some (EV.arr IntKind.u32 y8 y9)]) x0 x1 x2 x3 x4 x5 x6 x7 x8 x9 x10 x11 := (stepQ_eq _ _ _ _ _ _ _ _ _ _ _).symm.trans (by kernel_rfl)
theorem nat_parts.l16X.eq (K : Ex → List EV → Heap → Prop) : ∀ (n : Nat) (x0 : Nat) (x1 : Nat → Int) (x2 : Nat) (x3 : Int) (x4 : Nat) (x5 : Nat) (x6 : Nat) (x7 : Nat → Int) (x8 : Nat) (x9 : Nat → Int) (x10 : Nat) (x11 : Nat → Int), loopE E_nat_parts (loopAt Tryd.f89 1) (LV.mk 1808 [(2, 1808)] 48 0 true) 0 285 K n [EV.rsI IntKind.u32 x0 x1, EV.slice 0 0 x2 none 1, EV.int IntKind.i64 x3, EV.slice 1 0 x4 none 1, EV.slice 2 0 x5 none 1] [some (EV.arr IntKind.u32 x6 x7), some (EV.arr IntKind.u32 x8 x9), some (EV.arr IntKind.u32 x10 x11)] = nat_parts.l16 (fun y0 y1 y2 y3 y4 y5 y6 y7 y8 y9 => K (.exit 2) [EV.slice 0 0 y0 none 1, EV.int IntKind.i64 y1, EV.slice 1 0 y2 none 1, EV.slice 2 0 y3 none 1] [some (EV.arr IntKind.u32 y4 y5), some (EV.arr IntKind.u32 y6 y7), some (EV.arr IntKind.u32 y8 y9)]) n x0 x1 x2 x3 x4 x5 x6 x7 x8 x9 x10 x11
  | 0, _, _, _, _, _, _, _, _, _, _, _, _ => rfl
  | n + 1, x0, x1, x2, x3, x4, x5, x6, x7, x8, x9, x10, x11 => by
    have ih : (fun (x0 : Nat) (x1 : Nat → Int) (x2 : Nat) (x3 : Int) (x4 : Nat) (x5 : Nat) (x6 : Nat) (x7 : Nat → Int) (x8 : Nat) (x9 : Nat → Int) (x10 : Nat) (x11 : Nat → Int) => loopE E_nat_parts (loopAt Tryd.f89 1) (LV.mk 1808 [(2, 1808)] 48 0 true) 0 285 K n [EV.rsI IntKind.u32 x0 x1, EV.slice 0 0 x2 none 1, EV.int IntKind.i64 x3, EV.slice 1 0 x4 none 1, EV.slice 2 0 x5 none 1] [some (EV.arr IntKind.u32 x6 x7), some (EV.arr IntKind.u32 x8 x9), some (EV.arr IntKind.u32 x10 x11)]) = nat_parts.l16 (fun y0 y1 y2 y3 y4 y5 y6 y7 y8 y9 => K (.exit 2) [EV.slice 0 0 y0 none 1, EV.int IntKind.i64 y1, EV.slice 1 0 y2 none 1, EV.slice 2 0 y3 none 1] [some (EV.arr IntKind.u32 y4 y5), some (EV.arr IntKind.u32 y6 y7), some (EV.arr IntKind.u32 y8 y9)]) n := by funext x0 x1 x2 x3 x4 x5 x6 x7 x8 x9 x10 x11; exact nat_parts.l16X.eq K n x0 x1 x2 x3 x4 x5 x6 x7 x8 x9 x10 x11
    show loopStep _ _ _ _ _ (loopE E_nat_parts (loopAt Tryd.f89 1) (LV.mk 1808 [(2, 1808)] 48 0 true) 0 285 K n) [EV.rsI IntKind.u32 x0 x1, EV.slice 0 0 x2 none 1, EV.int IntKind.i64 x3, EV.slice 1 0 x4 none 1, EV.slice 2 0 x5 none 1] [some (EV.arr IntKind.u32 x6 x7), some (EV.arr IntKind.u32 x8 x9), some (EV.arr IntKind.u32 x10 x11)] K = nat_parts.l16.step (nat_parts.l16 (fun y0 y1 y2 y3 y4 y5 y6 y7 y8 y9 => K (.exit 2) [EV.slice 0 0 y0 none 1, EV.int IntKind.i64 y1, EV.slice 1 0 y2 none 1, EV.slice 2 0 y3 none 1] [some (EV.arr IntKind.u32 y4 y5), some (EV.arr IntKind.u32 y6 y7), some (EV.arr IntKind.u32 y8 y9)]) n) (fun y0 y1 y2 y3 y4 y5 y6 y7 y8 y9 => K (.exit 2) [EV.slice 0 0 y0 none 1, EV.int IntKind.i64 y1, EV.slice 1 0 y2 none 1, EV.slice 2 0 y3 none 1] [some (EV.arr IntKind.u32 y4 y5), some (EV.arr IntKind.u32 y6 y7), some (EV.arr IntKind.u32 y8 y9)]) x0 x1 x2 x3 x4 x5 x6 x7 x8 x9 x10 x11
    rw [← ih]
    exact nat_parts.l16X.stepEq _ K x0 x1 x2 x3 x4 x5 x6 x7 x8 x9 x10 x11
theorem nat_parts.l16X.ok : LoopEq E_nat_parts (loopAt Tryd.f89 1) := by
  intro L hL vs H
  have h1 : E_nat_parts.lp (firstRegion (loopAt Tryd.f89 1)) = some nat_parts.l16.entry := by kernel_rfl
  have h2 : L = nat_parts.l16.entry := Option.some.inj (hL.symm.trans h1)
  subst h2
  by_cases hx : ∃ (x0 : Nat) (x1 : Nat → Int) (x2 : Nat) (x3 : Int) (x4 : Nat) (x5 : Nat) (x6 : Nat) (x7 : Nat → Int) (x8 : Nat) (x9 : Nat → Int) (x10 : Nat) (x11 : Nat → Int), vs = [EV.rsI IntKind.u32 x0 x1, EV.slice 0 0 x2 none 1, EV.int IntKind.i64 x3, EV.slice 1 0 x4 none 1, EV.slice 2 0 x5 none 1] ∧ H = [some (EV.arr IntKind.u32 x6 x7), some (EV.arr IntKind.u32 x8 x9), some (EV.arr IntKind.u32 x10 x11)]
  · obtain ⟨x0, x1, x2, x3, x4, x5, x6, x7, x8, x9, x10, x11, rfl, rfl⟩ := hx
    right; intro K
    exact exists_congr fun n => iff_of_eq (nat_parts.l16X.eq K n x0 x1 x2 x3 x4 x5 x6 x7 x8 x9 x10 x11).symm
  · left; intro K h
    simp only [nat_parts.l16.entry] at h
    split at h
    · exact hx ⟨_, _, _, _, _, _, _, _, _, _, _, _, rfl, rfl⟩
    · exact h
theorem nat_parts.l20X.stepEq (R : List EV → Heap → Prop) (K : Ex → List EV → Heap → Prop) (x0 : Nat) (x1 : Int) (x2 : Nat) (x3 : Nat) (x4 : Int) (x5 : Int) (x6 : Nat) (x7 : Nat → Int) (x8 : Nat) (x9 : Nat → Int) (x10 : Nat) (x11 : Nat → Int) : loopStep (evCode E_nat_parts (loopAt Tryd.f89 2) { (LV.mk 1296 [(4, 1296)] 48 0 true) with nx := live (.loop (loopAt Tryd.f89 2)) (LV.mk 1296 [(4, 1296)] 48 0 true) }) (live (.loop (loopAt Tryd.f89 2)) (LV.mk 1296 [(4, 1296)] 48 0 true)) (LV.mk 1296 [(4, 1296)] 48 0 true) 0 285 R [EV.slice 0 0 x0 none 1, EV.int IntKind.i64 x1, EV.slice 1 0 x2 none 1, EV.slice 2 0 x3 none 1, EV.int IntKind.i64 x4, EV.int IntKind.i64 x5] [some (EV.arr IntKind.u32 x6 x7), some (EV.arr IntKind.u32 x8 x9), some (EV.arr IntKind.u32 x10 x11)] K = nat_parts.l20.step (fun x0 x1 x2 x3 x4 x5 x6 x7 x8 x9 x10 x11 => R [EV.slice 0 0 x0 none 1, EV.int IntKind.i64 x1, EV.slice 1 0 x2 none 1, EV.slice 2 0 x3 none 1, EV.int IntKind.i64 x4, EV.int IntKind.i64 x5] [some (EV.arr IntKind.u32 x6 x7), some (EV.arr IntKind.u32 x8 x9), some (EV.arr IntKind.u32 x10 x11)]) (fun y0 y1 y2 y3 y4 y5 y6 => K (.exit 4) [EV.slice 0 0 y0 none 1, EV.int IntKind.i64 y1, EV.slice 1 0 y2 none 1] [some (EV.arr IntKind.u32 y3 y4), some (EV.arr IntKind.u32 y5 y6)]) x0 x1 x2 x3 x4 x5 x6 x7 x8 x9 x10 x11 := (stepQ_eq _ _ _ _ _ _ _ _ _ _ _).symm.trans (by kernel_rfl)
theorem nat_parts.l20X.eq (K : Ex → List EV → Heap → Prop) : ∀ (n : Nat) (x0 : Nat) (x1 : Int) (x2 : Nat) (x3 : Nat) (x4 : Int) (x5 : Int) (x6 : Nat) (x7 : Nat → Int) (x8 : Nat) (x9 : Nat → Int) (x10 : Nat) (x11 : Nat → Int), loopE E_nat_parts (loopAt Tryd.f89 2) (LV.mk 1296 [(4, 1296)] 48 0 true) 0 285 K n [EV.slice 0 0 x0 none 1, EV.int IntKind.i64 x1, EV.slice 1 0 x2 none 1, EV.slice 2 0 x3 none 1, EV.int IntKind.i64 x4, EV.int IntKind.i64 x5] [some (EV.arr IntKind.u32 x6 x7), some (EV.arr IntKind.u32 x8 x9), some (EV.arr IntKind.u32 x10 x11)] = nat_parts.l20 (fun y0 y1 y2 y3 y4 y5 y6 => K (.exit 4) [EV.slice 0 0 y0 none 1, EV.int IntKind.i64 y1, EV.slice 1 0 y2 none 1] [some (EV.arr IntKind.u32 y3 y4), some (EV.arr IntKind.u32 y5 y6)]) n x0 x1 x2 x3 x4 x5 x6 x7 x8 x9 x10 x11
  | 0, _, _, _, _, _, _, _, _, _, _, _, _ => rfl
  | n + 1, x0, x1, x2, x3, x4, x5, x6, x7, x8, x9, x10, x11 => by
    have ih : (fun (x0 : Nat) (x1 : Int) (x2 : Nat) (x3 : Nat) (x4 : Int) (x5 : Int) (x6 : Nat) (x7 : Nat → Int) (x8 : Nat) (x9 : Nat → Int) (x10 : Nat) (x11 : Nat → Int) => loopE E_nat_parts (loopAt Tryd.f89 2) (LV.mk 1296 [(4, 1296)] 48 0 true) 0 285 K n [EV.slice 0 0 x0 none 1, EV.int IntKind.i64 x1, EV.slice 1 0 x2 none 1, EV.slice 2 0 x3 none 1, EV.int IntKind.i64 x4, EV.int IntKind.i64 x5] [some (EV.arr IntKind.u32 x6 x7), some (EV.arr IntKind.u32 x8 x9), some (EV.arr IntKind.u32 x10 x11)]) = nat_parts.l20 (fun y0 y1 y2 y3 y4 y5 y6 => K (.exit 4) [EV.slice 0 0 y0 none 1, EV.int IntKind.i64 y1, EV.slice 1 0 y2 none 1] [some (EV.arr IntKind.u32 y3 y4), some (EV.arr IntKind.u32 y5 y6)]) n := by funext x0 x1 x2 x3 x4 x5 x6 x7 x8 x9 x10 x11; exact nat_parts.l20X.eq K n x0 x1 x2 x3 x4 x5 x6 x7 x8 x9 x10 x11
    show loopStep _ _ _ _ _ (loopE E_nat_parts (loopAt Tryd.f89 2) (LV.mk 1296 [(4, 1296)] 48 0 true) 0 285 K n) [EV.slice 0 0 x0 none 1, EV.int IntKind.i64 x1, EV.slice 1 0 x2 none 1, EV.slice 2 0 x3 none 1, EV.int IntKind.i64 x4, EV.int IntKind.i64 x5] [some (EV.arr IntKind.u32 x6 x7), some (EV.arr IntKind.u32 x8 x9), some (EV.arr IntKind.u32 x10 x11)] K = nat_parts.l20.step (nat_parts.l20 (fun y0 y1 y2 y3 y4 y5 y6 => K (.exit 4) [EV.slice 0 0 y0 none 1, EV.int IntKind.i64 y1, EV.slice 1 0 y2 none 1] [some (EV.arr IntKind.u32 y3 y4), some (EV.arr IntKind.u32 y5 y6)]) n) (fun y0 y1 y2 y3 y4 y5 y6 => K (.exit 4) [EV.slice 0 0 y0 none 1, EV.int IntKind.i64 y1, EV.slice 1 0 y2 none 1] [some (EV.arr IntKind.u32 y3 y4), some (EV.arr IntKind.u32 y5 y6)]) x0 x1 x2 x3 x4 x5 x6 x7 x8 x9 x10 x11
    rw [← ih]
    exact nat_parts.l20X.stepEq _ K x0 x1 x2 x3 x4 x5 x6 x7 x8 x9 x10 x11
theorem nat_parts.l20X.ok : LoopEq E_nat_parts (loopAt Tryd.f89 2) := by
  intro L hL vs H
  have h1 : E_nat_parts.lp (firstRegion (loopAt Tryd.f89 2)) = some nat_parts.l20.entry := by kernel_rfl
  have h2 : L = nat_parts.l20.entry := Option.some.inj (hL.symm.trans h1)
  subst h2
  by_cases hx : ∃ (x0 : Nat) (x1 : Int) (x2 : Nat) (x3 : Nat) (x4 : Int) (x5 : Int) (x6 : Nat) (x7 : Nat → Int) (x8 : Nat) (x9 : Nat → Int) (x10 : Nat) (x11 : Nat → Int), vs = [EV.slice 0 0 x0 none 1, EV.int IntKind.i64 x1, EV.slice 1 0 x2 none 1, EV.slice 2 0 x3 none 1, EV.int IntKind.i64 x4, EV.int IntKind.i64 x5] ∧ H = [some (EV.arr IntKind.u32 x6 x7), some (EV.arr IntKind.u32 x8 x9), some (EV.arr IntKind.u32 x10 x11)]
  · obtain ⟨x0, x1, x2, x3, x4, x5, x6, x7, x8, x9, x10, x11, rfl, rfl⟩ := hx
    right; intro K
    exact exists_congr fun n => iff_of_eq (nat_parts.l20X.eq K n x0 x1 x2 x3 x4 x5 x6 x7 x8 x9 x10 x11).symm
  · left; intro K h
    simp only [nat_parts.l20.entry] at h
    split at h
    · exact hx ⟨_, _, _, _, _, _, _, _, _, _, _, _, rfl, rfl⟩
    · exact h
theorem nat_parts.l24X.stepEq (R : List EV → Heap → Prop) (K : Ex → List EV → Heap → Prop) (x0 : Nat) (x1 : Int) (x2 : Nat) (x3 : Nat) (x4 : Int) (x5 : Int) (x6 : Int) (x7 : Int) (x8 : Nat) (x9 : Nat → Int) (x10 : Nat) (x11 : Nat → Int) (x12 : Nat) (x13 : Nat → Int) : loopStep (evCode E_nat_parts (loopAt Tryd.f89 3) { (LV.mk 24336 [(6, 24336), (5, 7952), (4, 1296)] 48 0 true) with nx := live (.loop (loopAt Tryd.f89 3)) (LV.mk 24336 [(6, 24336), (5, 7952), (4, 1296)] 48 0 true) }) (live (.loop (loopAt Tryd.f89 3)) (LV.mk 24336 [(6, 24336), (5, 7952), (4, 1296)] 48 0 true)) (LV.mk 24336 [(6, 24336), (5, 7952), (4, 1296)] 48 0 true) 0 285 R [EV.slice 0 0 x0 none 1, EV.int IntKind.i64 x1, EV.slice 1 0 x2 none 1, EV.slice 2 0 x3 none 1, EV.int IntKind.i64 x4, EV.int IntKind.i64 x5, EV.int IntKind.u64 x6, EV.int IntKind.u64 x7] [some (EV.arr IntKind.u32 x8 x9), some (EV.arr IntKind.u32 x10 x11), some (EV.arr IntKind.u32 x12 x13)] K = nat_parts.l24.step (fun x0 x1 x2 x3 x4 x5 x6 x7 x8 x9 x10 x11 x12 x13 => R [EV.slice 0 0 x0 none 1, EV.int IntKind.i64 x1, EV.slice 1 0 x2 none 1, EV.slice 2 0 x3 none 1, EV.int IntKind.i64 x4, EV.int IntKind.i64 x5, EV.int IntKind.u64 x6, EV.int IntKind.u64 x7] [some (EV.arr IntKind.u32 x8 x9), some (EV.arr IntKind.u32 x10 x11), some (EV.arr IntKind.u32 x12 x13)]) (fun y0 y1 y2 y3 y4 y5 y6 y7 y8 y9 y10 y11 y12 => K (.exit 6) [EV.slice 0 0 y0 none 1, EV.int IntKind.i64 y1, EV.slice 1 0 y2 none 1, EV.slice 2 0 y3 none 1, EV.int IntKind.i64 y4, EV.int IntKind.i64 y5, EV.int IntKind.u64 y6] [some (EV.arr IntKind.u32 y7 y8), some (EV.arr IntKind.u32 y9 y10), some (EV.arr IntKind.u32 y11 y12)]) x0 x1 x2 x3 x4 x5 x6 x7 x8 x9 x10 x11 x12 x13 := (stepQ_eq _ _ _ _ _ _ _ _ _ _ _).symm.trans (by kernel_rfl)
theorem nat_parts.l24X.eq (K : Ex → List EV → Heap → Prop) : ∀ (n : Nat) (x0 : Nat) (x1 : Int) (x2 : Nat) (x3 : Nat) (x4 : Int) (x5 : Int) (x6 : Int) (x7 : Int) (x8 : Nat) (x9 : Nat → Int) (x10 : Nat) (x11 : Nat → Int) (x12 : Nat) (x13 : Nat → Int), loopE E_nat_parts (loopAt Tryd.f89 3) (LV.mk 24336 [(6, 24336), (5, 7952), (4, 1296)] 48 0 true) 0 285 K n [EV.slice 0 0 x0 none 1, EV.int IntKind.i64 x1, EV.slice 1 0 x2 none 1, EV.slice 2 0 x3 none 1, EV.int IntKind.i64 x4, EV.int IntKind.i64 x5, EV.int IntKind.u64 x6, EV.int IntKind.u64 x7] [some (EV.arr IntKind.u32 x8 x9), some (EV.arr IntKind.u32 x10 x11), some (EV.arr IntKind.u32 x12 x13)] = nat_parts.l24 (fun y0 y1 y2 y3 y4 y5 y6 y7 y8 y9 y10 y11 y12 => K (.exit 6) [EV.slice 0 0 y0 none 1, EV.int IntKind.i64 y1, EV.slice 1 0 y2 none 1, EV.slice 2 0 y3 none 1, EV.int IntKind.i64 y4, EV.int IntKind.i64 y5, EV.int IntKind.u64 y6] [some (EV.arr IntKind.u32 y7 y8), some (EV.arr IntKind.u32 y9 y10), some (EV.arr IntKind.u32 y11 y12)]) n x0 x1 x2 x3 x4 x5 x6 x7 x8 x9 x10 x11 x12 x13
  | 0, _, _, _, _, _, _, _, _, _, _, _, _, _, _ => rfl
  | n + 1, x0, x1, x2, x3, x4, x5, x6, x7, x8, x9, x10, x11, x12, x13 => by
    have ih : (fun (x0 : Nat) (x1 : Int) (x2 : Nat) (x3 : Nat) (x4 : Int) (x5 : Int) (x6 : Int) (x7 : Int) (x8 : Nat) (x9 : Nat → Int) (x10 : Nat) (x11 : Nat → Int) (x12 : Nat) (x13 : Nat → Int) => loopE E_nat_parts (loopAt Tryd.f89 3) (LV.mk 24336 [(6, 24336), (5, 7952), (4, 1296)] 48 0 true) 0 285 K n [EV.slice 0 0 x0 none 1, EV.int IntKind.i64 x1, EV.slice 1 0 x2 none 1, EV.slice 2 0 x3 none 1, EV.int IntKind.i64 x4, EV.int IntKind.i64 x5, EV.int IntKind.u64 x6, EV.int IntKind.u64 x7] [some (EV.arr IntKind.u32 x8 x9), some (EV.arr IntKind.u32 x10 x11), some (EV.arr IntKind.u32 x12 x13)]) = nat_parts.l24 (fun y0 y1 y2 y3 y4 y5 y6 y7 y8 y9 y10 y11 y12 => K (.exit 6) [EV.slice 0 0 y0 none 1, EV.int IntKind.i64 y1, EV.slice 1 0 y2 none 1, EV.slice 2 0 y3 none 1, EV.int IntKind.i64 y4, EV.int IntKind.i64 y5, EV.int IntKind.u64 y6] [some (EV.arr IntKind.u32 y7 y8), some (EV.arr IntKind.u32 y9 y10), some (EV.arr IntKind.u32 y11 y12)]) n := by funext x0 x1 x2 x3 x4 x5 x6 x7 x8 x9 x10 x11 x12 x13; exact nat_parts.l24X.eq K n x0 x1 x2 x3 x4 x5 x6 x7 x8 x9 x10 x11 x12 x13
    show loopStep _ _ _ _ _ (loopE E_nat_parts (loopAt Tryd.f89 3) (LV.mk 24336 [(6, 24336), (5, 7952), (4, 1296)] 48 0 true) 0 285 K n) [EV.slice 0 0 x0 none 1, EV.int IntKind.i64 x1, EV.slice 1 0 x2 none 1, EV.slice 2 0 x3 none 1, EV.int IntKind.i64 x4, EV.int IntKind.i64 x5, EV.int IntKind.u64 x6, EV.int IntKind.u64 x7] [some (EV.arr IntKind.u32 x8 x9), some (EV.arr IntKind.u32 x10 x11), some (EV.arr IntKind.u32 x12 x13)] K = nat_parts.l24.step (nat_parts.l24 (fun y0 y1 y2 y3 y4 y5 y6 y7 y8 y9 y10 y11 y12 => K (.exit 6) [EV.slice 0 0 y0 none 1, EV.int IntKind.i64 y1, EV.slice 1 0 y2 none 1, EV.slice 2 0 y3 none 1, EV.int IntKind.i64 y4, EV.int IntKind.i64 y5, EV.int IntKind.u64 y6] [some (EV.arr IntKind.u32 y7 y8), some (EV.arr IntKind.u32 y9 y10), some (EV.arr IntKind.u32 y11 y12)]) n) (fun y0 y1 y2 y3 y4 y5 y6 y7 y8 y9 y10 y11 y12 => K (.exit 6) [EV.slice 0 0 y0 none 1, EV.int IntKind.i64 y1, EV.slice 1 0 y2 none 1, EV.slice 2 0 y3 none 1, EV.int IntKind.i64 y4, EV.int IntKind.i64 y5, EV.int IntKind.u64 y6] [some (EV.arr IntKind.u32 y7 y8), some (EV.arr IntKind.u32 y9 y10), some (EV.arr IntKind.u32 y11 y12)]) x0 x1 x2 x3 x4 x5 x6 x7 x8 x9 x10 x11 x12 x13
    rw [← ih]
    exact nat_parts.l24X.stepEq _ K x0 x1 x2 x3 x4 x5 x6 x7 x8 x9 x10 x11 x12 x13
theorem nat_parts.l24X.ok : LoopEq E_nat_parts (loopAt Tryd.f89 3) := by
  intro L hL vs H
  have h1 : E_nat_parts.lp (firstRegion (loopAt Tryd.f89 3)) = some nat_parts.l24.entry := by kernel_rfl
  have h2 : L = nat_parts.l24.entry := Option.some.inj (hL.symm.trans h1)
  subst h2
  by_cases hx : ∃ (x0 : Nat) (x1 : Int) (x2 : Nat) (x3 : Nat) (x4 : Int) (x5 : Int) (x6 : Int) (x7 : Int) (x8 : Nat) (x9 : Nat → Int) (x10 : Nat) (x11 : Nat → Int) (x12 : Nat) (x13 : Nat → Int), vs = [EV.slice 0 0 x0 none 1, EV.int IntKind.i64 x1, EV.slice 1 0 x2 none 1, EV.slice 2 0 x3 none 1, EV.int IntKind.i64 x4, EV.int IntKind.i64 x5, EV.int IntKind.u64 x6, EV.int IntKind.u64 x7] ∧ H = [some (EV.arr IntKind.u32 x8 x9), some (EV.arr IntKind.u32 x10 x11), some (EV.arr IntKind.u32 x12 x13)]
  · obtain ⟨x0, x1, x2, x3, x4, x5, x6, x7, x8, x9, x10, x11, x12, x13, rfl, rfl⟩ := hx
    right; intro K
    exact exists_congr fun n => iff_of_eq (nat_parts.l24X.eq K n x0 x1 x2 x3 x4 x5 x6 x7 x8 x9 x10 x11 x12 x13).symm
  · left; intro K h
    simp only [nat_parts.l24.entry] at h
    split at h
    · exact hx ⟨_, _, _, _, _, _, _, _, _, _, _, _, _, _, rfl, rfl⟩
    · exact h
theorem nat_parts.l31X.stepEq (R : List EV → Heap → Prop) (K : Ex → List EV → Heap → Prop) (x0 : Nat) (x1 : Int) (x2 : Nat) (x3 : Nat) (x4 : Int) (x5 : Int) (x6 : Int) (x7 : Int) (x8 : Int) (x9 : Int) (x10 : Int) (x11 : Nat) (x12 : Nat → Int) (x13 : Nat) (x14 : Nat → Int) (x15 : Nat) (x16 : Nat → Int) : loopStep (evCode E_nat_parts (loopAt Tryd.f89 4) { (LV.mk 220944 [(8, 220944), (5, 7952), (4, 1296)] 48 0 true) with nx := live (.loop (loopAt Tryd.f89 4)) (LV.mk 220944 [(8, 220944), (5, 7952), (4, 1296)] 48 0 true) }) (live (.loop (loopAt Tryd.f89 4)) (LV.mk 220944 [(8, 220944), (5, 7952), (4, 1296)] 48 0 true)) (LV.mk 220944 [(8, 220944), (5, 7952), (4, 1296)] 48 0 true) 0 285 R [EV.slice 0 0 x0 none 1, EV.int IntKind.i64 x1, EV.slice 1 0 x2 none 1, EV.slice 2 0 x3 none 1, EV.int IntKind.i64 x4, EV.int IntKind.i64 x5, EV.int IntKind.u64 x6, EV.int IntKind.u64 x7, EV.int IntKind.i64 x8, EV.int IntKind.i64 x9, EV.int IntKind.i64 x10] [some (EV.arr IntKind.u32 x11 x12), some (EV.arr IntKind.u32 x13 x14), some (EV.arr IntKind.u32 x15 x16)] K = nat_parts.l31.step (fun x0 x1 x2 x3 x4 x5 x6 x7 x8 x9 x10 x11 x12 x13 x14 x15 x16 => R [EV.slice 0 0 x0 none 1, EV.int IntKind.i64 x1, EV.slice 1 0 x2 none 1, EV.slice 2 0 x3 none 1, EV.int IntKind.i64 x4, EV.int IntKind.i64 x5, EV.int IntKind.u64 x6, EV.int IntKind.u64 x7, EV.int IntKind.i64 x8, EV.int IntKind.i64 x9, EV.int IntKind.i64 x10] [some (EV.arr IntKind.u32 x11 x12), some (EV.arr IntKind.u32 x13 x14), some (EV.arr IntKind.u32 x15 x16)]) (fun y0 y1 y2 y3 y4 y5 y6 y7 y8 y9 y10 y11 y12 y13 y14 => K (.exit 8) [EV.slice 0 0 y0 none 1, EV.int IntKind.i64 y1, EV.slice 1 0 y2 none 1, EV.slice 2 0 y3 none 1, EV.int IntKind.i64 y4, EV.int IntKind.i64 y5, EV.int IntKind.u64 y6, EV.int IntKind.u64 y7, EV.int IntKind.i64 y8] [some (EV.arr IntKind.u32 y9 y10), some (EV.arr IntKind.u32 y11 y12), some (EV.arr IntKind.u32 y13 y14)]) x0 x1 x2 x3 x4 x5 x6 x7 x8 x9 x10 x11 x12 x13 x14 x15 x16 := (stepQ_eq _ _ _ _ _ _ _ _ _ _ _).symm.trans (by kernel_rfl)
theorem nat_parts.l31X.eq (K : Ex → List EV → Heap → Prop) : ∀ (n : Nat) (x0 : Nat) (x1 : Int) (x2 : Nat) (x3 : Nat) (x4 : Int) (x5 : Int) (x6 : Int) (x7 : Int) (x8 : Int) (x9 : Int) (x10 : Int) (x11 : Nat) (x12 : Nat → Int) (x13 : Nat) (x14 : Nat → Int) (x15 : Nat) (x16 : Nat → Int), loopE E_nat_parts (loopAt Tryd.f89 4) (LV.mk 220944 [(8, 220944), (5, 7952), (4, 1296)] 48 0 true) 0 285 K n [EV.slice 0 0 x0 none 1, EV.int IntKind.i64 x1, EV.slice 1 0 x2 none 1, EV.slice 2 0 x3 none 1, EV.int IntKind.i64 x4, EV.int IntKind.i64 x5, EV.int IntKind.u64 x6, EV.int IntKind.u64 x7, EV.int IntKind.i64 x8, EV.int IntKind.i64 x9, EV.int IntKind.i64 x10] [some (EV.arr IntKind.u32 x11 x12), some (EV.arr IntKind.u32 x13 x14), some (EV.arr IntKind.u32 x15 x16)] = nat_parts.l31 (fun y0 y1 y2 y3 y4 y5 y6 y7 y8 y9 y10 y11 y12 y13 y14 => K (.exit 8) [EV.slice 0 0 y0 none 1, EV.int IntKind.i64 y1, EV.slice 1 0 y2 none 1, EV.slice 2 0 y3 none 1, EV.int IntKind.i64 y4, EV.int IntKind.i64 y5, EV.int IntKind.u64 y6, EV.int IntKind.u64 y7, EV.int IntKind.i64 y8] [some (EV.arr IntKind.u32 y9 y10), some (EV.arr IntKind.u32 y11 y12), some (EV.arr IntKind.u32 y13 y14)]) n x0 x1 x2 x3 x4 x5 x6 x7 x8 x9 x10 x11 x12 x13 x14 x15 x16
  | 0, _, _, _, _, _, _, _, _, _, _, _, _, _, _, _, _, _ => rfl
  | n + 1, x0, x1, x2, x3, x4, x5, x6, x7, x8, x9, x10, x11, x12, x13, x14, x15, x16 => by
    have ih : (fun (x0 : Nat) (x1 : Int) (x2 : Nat) (x3 : Nat) (x4 : Int) (x5 : Int) (x6 : Int) (x7 : Int) (x8 : Int) (x9 : Int) (x10 : Int) (x11 : Nat) (x12 : Nat → Int) (x13 : Nat) (x14 : Nat → Int) (x15 : Nat) (x16 : Nat → Int) => loopE E_nat_parts (loopAt Tryd.f89 4) (LV.mk 220944 [(8, 220944), (5, 7952), (4, 1296)] 48 0 true) 0 285 K n [EV.slice 0 0 x0 none 1, EV.int IntKind.i64 x1, EV.slice 1 0 x2 none 1, EV.slice 2 0 x3 none 1, EV.int IntKind.i64 x4, EV.int IntKind.i64 x5, EV.int IntKind.u64 x6, EV.int IntKind.u64 x7, EV.int IntKind.i64 x8, EV.int IntKind.i64 x9, EV.int IntKind.i64 x10] [some (EV.arr IntKind.u32 x11 x12), some (EV.arr IntKind.u32 x13 x14), some (EV.arr IntKind.u32 x15 x16)]) = nat_parts.l31 (fun y0 y1 y2 y3 y4 y5 y6 y7 y8 y9 y10 y11 y12 y13 y14 => K (.exit 8) [EV.slice 0 0 y0 none 1, EV.int IntKind.i64 y1, EV.slice 1 0 y2 none 1, EV.slice 2 0 y3 none 1, EV.int IntKind.i64 y4, EV.int IntKind.i64 y5, EV.int IntKind.u64 y6, EV.int IntKind.u64 y7, EV.int IntKind.i64 y8] [some (EV.arr IntKind.u32 y9 y10), some (EV.arr IntKind.u32 y11 y12), some (EV.arr IntKind.u32 y13 y14)]) n := by funext x0 x1 x2 x3 x4 x5 x6 x7 x8 x9 x10 x11 x12 x13 x14 x15 x16; exact nat_parts.l31X.eq K n x0 x1 x2 x3 x4 x5 x6 x7 x8 x9 x10 x11 x12 x13 x14 x15 x16
    show loopStep _ _ _ _ _ (loopE E_nat_parts (loopAt Tryd.f89 4) (LV.mk 220944 [(8, 220944), (5, 7952), (4, 1296)] 48 0 true) 0 285 K n) [EV.slice 0 0 x0 none 1, EV.int IntKind.i64 x1, EV.slice 1 0 x2 none 1, EV.slice 2 0 x3 none 1, EV.int IntKind.i64 x4, EV.int IntKind.i64 x5, EV.int IntKind.u64 x6, EV.int IntKind.u64 x7, EV.int IntKind.i64 x8, EV.int IntKind.i64 x9, EV.int IntKind.i64 x10] [some (EV.arr IntKind.u32 x11 x12), some (EV.arr IntKind.u32 x13 x14), some (EV.arr IntKind.u32 x15 x16)] K = nat_parts.l31.step (nat_parts.l31 (fun y0 y1 y2 y3 y4 y5 y6 y7 y8 y9 y10 y11 y12 y13 y14 => K (.exit 8) [EV.slice 0 0 y0 none 1, EV.int IntKind.i64 y1, EV.slice 1 0 y2 none 1, EV.slice 2 0 y3 none 1, EV.int IntKind.i64 y4, EV.int IntKind.i64 y5, EV.int IntKind.u64 y6, EV.int IntKind.u64 y7, EV.int IntKind.i64 y8] [some (EV.arr IntKind.u32 y9 y10), some (EV.arr IntKind.u32 y11 y12), some (EV.arr IntKind.u32 y13 y14)]) n) (fun y0 y1 y2 y3 y4 y5 y6 y7 y8 y9 y10 y11 y12 y13 y14 => K (.exit 8) [EV.slice 0 0 y0 none 1, EV.int IntKind.i64 y1, EV.slice 1 0 y2 none 1, EV.slice 2 0 y3 none 1, EV.int IntKind.i64 y4, EV.int IntKind.i64 y5, EV.int IntKind.u64 y6, EV.int IntKind.u64 y7, EV.int IntKind.i64 y8] [some (EV.arr IntKind.u32 y9 y10), some (EV.arr IntKind.u32 y11 y12), some (EV.arr IntKind.u32 y13 y14)]) x0 x1 x2 x3 x4 x5 x6 x7 x8 x9 x10 x11 x12 x13 x14 x15 x16
    rw [← ih]
    exact nat_parts.l31X.stepEq _ K x0 x1 x2 x3 x4 x5 x6 x7 x8 x9 x10 x11 x12 x13 x14 x15 x16
theorem nat_parts.l31X.ok : LoopEq E_nat_parts (loopAt Tryd.f89 4) := by
  intro L hL vs H
  have h1 : E_nat_parts.lp (firstRegion (loopAt Tryd.f89 4)) = some nat_parts.l31.entry := by kernel_rfl
  have h2 : L = nat_parts.l31.entry := Option.some.inj (hL.symm.trans h1)
  subst h2
  by_cases hx : ∃ (x0 : Nat) (x1 : Int) (x2 : Nat) (x3 : Nat) (x4 : Int) (x5 : Int) (x6 : Int) (x7 : Int) (x8 : Int) (x9 : Int) (x10 : Int) (x11 : Nat) (x12 : Nat → Int) (x13 : Nat) (x14 : Nat → Int) (x15 : Nat) (x16 : Nat → Int), vs = [EV.slice 0 0 x0 none 1, EV.int IntKind.i64 x1, EV.slice 1 0 x2 none 1, EV.slice 2 0 x3 none 1, EV.int IntKind.i64 x4, EV.int IntKind.i64 x5, EV.int IntKind.u64 x6, EV.int IntKind.u64 x7, EV.int IntKind.i64 x8, EV.int IntKind.i64 x9, EV.int IntKind.i64 x10] ∧ H = [some (EV.arr IntKind.u32 x11 x12), some (EV.arr IntKind.u32 x13 x14), some (EV.arr IntKind.u32 x15 x16)]
  · obtain ⟨x0, x1, x2, x3, x4, x5, x6, x7, x8, x9, x10, x11, x12, x13, x14, x15, x16, rfl, rfl⟩ := hx
    right; intro K
    exact exists_congr fun n => iff_of_eq (nat_parts.l31X.eq K n x0 x1 x2 x3 x4 x5 x6 x7 x8 x9 x10 x11 x12 x13 x14 x15 x16).symm
  · left; intro K h
    simp only [nat_parts.l31.entry] at h
    split at h
    · exact hx ⟨_, _, _, _, _, _, _, _, _, _, _, _, _, _, _, _, _, rfl, rfl⟩
    · exact h
theorem nat_parts.l45X.stepEq (R : List EV → Heap → Prop) (K : Ex → List EV → Heap → Prop) (x0 : Nat) (x1 : Int) (x2 : Nat) (x3 : Nat) (x4 : Int) (x5 : Int) (x6 : Int) (x7 : Int) (x8 : Int) (x9 : Int) (x10 : Nat) (x11 : Nat → Int) (x12 : Nat) (x13 : Nat → Int) (x14 : Nat) (x15 : Nat → Int) : loopStep (evCode E_nat_parts (loopAt Tryd.f89 5) { (LV.mk 89872 [(10, 89872), (5, 7952), (4, 1296)] 48 0 true) with nx := live (.loop (loopAt Tryd.f89 5)) (LV.mk 89872 [(10, 89872), (5, 7952), (4, 1296)] 48 0 true) }) (live (.loop (loopAt Tryd.f89 5)) (LV.mk 89872 [(10, 89872), (5, 7952), (4, 1296)] 48 0 true)) (LV.mk 89872 [(10, 89872), (5, 7952), (4, 1296)] 48 0 true) 0 285 R [EV.slice 0 0 x0 none 1, EV.int IntKind.i64 x1, EV.slice 1 0 x2 none 1, EV.slice 2 0 x3 none 1, EV.int IntKind.i64 x4, EV.int IntKind.i64 x5, EV.int IntKind.u64 x6, EV.int IntKind.u64 x7, EV.int IntKind.i64 x8, EV.int IntKind.i64 x9] [some (EV.arr IntKind.u32 x10 x11), some (EV.arr IntKind.u32 x12 x13), some (EV.arr IntKind.u32 x14 x15)] K = nat_parts.l45.step (fun x0 x1 x2 x3 x4 x5 x6 x7 x8 x9 x10 x11 x12 x13 x14 x15 => R [EV.slice 0 0 x0 none 1, EV.int IntKind.i64 x1, EV.slice 1 0 x2 none 1, EV.slice 2 0 x3 none 1, EV.int IntKind.i64 x4, EV.int IntKind.i64 x5, EV.int IntKind.u64 x6, EV.int IntKind.u64 x7, EV.int IntKind.i64 x8, EV.int IntKind.i64 x9] [some (EV.arr IntKind.u32 x10 x11), some (EV.arr IntKind.u32 x12 x13), some (EV.arr IntKind.u32 x14 x15)]) (fun y0 y1 y2 y3 y4 y5 y6 y7 y8 y9 y10 y11 y12 y13 => K (.exit 10) [EV.slice 0 0 y0 none 1, EV.int IntKind.i64 y1, EV.slice 1 0 y2 none 1, EV.slice 2 0 y3 none 1, EV.int IntKind.i64 y4, EV.int IntKind.i64 y5, EV.int IntKind.u64 y6, EV.int IntKind.u64 y7] [some (EV.arr IntKind.u32 y8 y9), some (EV.arr IntKind.u32 y10 y11), some (EV.arr IntKind.u32 y12 y13)]) x0 x1 x2 x3 x4 x5 x6 x7 x8 x9 x10 x11 x12 x13 x14 x15 := (stepQ_eq _ _ _ _ _ _ _ _ _ _ _).symm.trans (by kernel_rfl)
theorem nat_parts.l45X.eq (K : Ex → List EV → Heap → Prop) : ∀ (n : Nat) (x0 : Nat) (x1 : Int) (x2 : Nat) (x3 : Nat) (x4 : Int) (x5 : Int) (x6 : Int) (x7 : Int) (x8 : Int) (x9 : Int) (x10 : Nat) (x11 : Nat → Int) (x12 : Nat) (x13 : Nat → Int) (x14 : Nat) (x15 : Nat → Int), loopE E_nat_parts (loopAt Tryd.f89 5) (LV.mk 89872 [(10, 89872), (5, 7952), (4, 1296)] 48 0 true) 0 285 K n [EV.slice 0 0 x0 none 1, EV.int IntKind.i64 x1, EV.slice 1 0 x2 none 1, EV.slice 2 0 x3 none 1, EV.int IntKind.i64 x4, EV.int IntKind.i64 x5, EV.int IntKind.u64 x6, EV.int IntKind.u64 x7, EV.int IntKind.i64 x8, EV.int IntKind.i64 x9] [some (EV.arr IntKind.u32 x10 x11), some (EV.arr IntKind.u32 x12 x13), some (EV.arr IntKind.u32 x14 x15)] = nat_parts.l45 (fun y0 y1 y2 y3 y4 y5 y6 y7 y8 y9 y10 y11 y12 y13 => K (.exit 10) [EV.slice 0 0 y0 none 1, EV.int IntKind.i64 y1, EV.slice 1 0 y2 none 1, EV.slice 2 0 y3 none 1, EV.int IntKind.i64 y4, EV.int IntKind.i64 y5, EV.int IntKind.u64 y6, EV.int IntKind.u64 y7] [some (EV.arr IntKind.u32 y8 y9), some (EV.arr IntKind.u32 y10 y11), some (EV.arr IntKind.u32 y12 y13)]) n x0 x1 x2 x3 x4 x5 x6 x7 x8 x9 x10 x11 x12 x13 x14 x15
  | 0, _, _, _, _, _, _, _, _, _, _, _, _, _, _, _, _ => rfl
  | n + 1, x0, x1, x2, x3, x4, x5, x6, x7, x8, x9, x10, x11, x12, x13, x14, x15 => by
    have ih : (fun (x0 : Nat) (x1 : Int) (x2 : Nat) (x3 : Nat) (x4 : Int) (x5 : Int) (x6 : Int) (x7 : Int) (x8 : Int) (x9 : Int) (x10 : Nat) (x11 : Nat → Int) (x12 : Nat) (x13 : Nat → Int) (x14 : Nat) (x15 : Nat → Int) => loopE E_nat_parts (loopAt Tryd.f89 5) (LV.mk 89872 [(10, 89872), (5, 7952), (4, 1296)] 48 0 true) 0 285 K n [EV.slice 0 0 x0 none 1, EV.int IntKind.i64 x1, EV.slice 1 0 x2 none 1, EV.slice 2 0 x3 none 1, EV.int IntKind.i64 x4, EV.int IntKind.i64 x5, EV.int IntKind.u64 x6, EV.int IntKind.u64 x7, EV.int IntKind.i64 x8, EV.int IntKind.i64 x9] [some (EV.arr IntKind.u32 x10 x11), some (EV.arr IntKind.u32 x12 x13), some (EV.arr IntKind.u32 x14 x15)]) = nat_parts.l45 (fun y0 y1 y2 y3 y4 y5 y6 y7 y8 y9 y10 y11 y12 y13 => K (.exit 10) [EV.slice 0 0 y0 none 1, EV.int IntKind.i64 y1, EV.slice 1 0 y2 none 1, EV.slice 2 0 y3 none 1, EV.int IntKind.i64 y4, EV.int IntKind.i64 y5, EV.int IntKind.u64 y6, EV.int IntKind.u64 y7] [some (EV.arr IntKind.u32 y8 y9), some (EV.arr IntKind.u32 y10 y11), some (EV.arr IntKind.u32 y12 y13)]) n := by funext x0 x1 x2 x3 x4 x5 x6 x7 x8 x9 x10 x11 x12 x13 x14 x15; exact nat_parts.l45X.eq K n x0 x1 x2 x3 x4 x5 x6 x7 x8 x9 x10 x11 x12 x13 x14 x15
    show loopStep _ _ _ _ _ (loopE E_nat_parts (loopAt Tryd.f89 5) (LV.mk 89872 [(10, 89872), (5, 7952), (4, 1296)] 48 0 true) 0 285 K n) [EV.slice 0 0 x0 none 1, EV.int IntKind.i64 x1, EV.slice 1 0 x2 none 1, EV.slice 2 0 x3 none 1, EV.int IntKind.i64 x4, EV.int IntKind.i64 x5, EV.int IntKind.u64 x6, EV.int IntKind.u64 x7, EV.int IntKind.i64 x8, EV.int IntKind.i64 x9] [some (EV.arr IntKind.u32 x10 x11), some (EV.arr IntKind.u32 x12 x13), some (EV.arr IntKind.u32 x14 x15)] K = nat_parts.l45.step (nat_parts.l45 (fun y0 y1 y2 y3 y4 y5 y6 y7 y8 y9 y10 y11 y12 y13 => K (.exit 10) [EV.slice 0 0 y0 none 1, EV.int IntKind.i64 y1, EV.slice 1 0 y2 none 1, EV.slice 2 0 y3 none 1, EV.int IntKind.i64 y4, EV.int IntKind.i64 y5, EV.int IntKind.u64 y6, EV.int IntKind.u64 y7] [some (EV.arr IntKind.u32 y8 y9), some (EV.arr IntKind.u32 y10 y11), some (EV.arr IntKind.u32 y12 y13)]) n) (fun y0 y1 y2 y3 y4 y5 y6 y7 y8 y9 y10 y11 y12 y13 => K (.exit 10) [EV.slice 0 0 y0 none 1, EV.int IntKind.i64 y1, EV.slice 1 0 y2 none 1, EV.slice 2 0 y3 none 1, EV.int IntKind.i64 y4, EV.int IntKind.i64 y5, EV.int IntKind.u64 y6, EV.int IntKind.u64 y7] [some (EV.arr IntKind.u32 y8 y9), some (EV.arr IntKind.u32 y10 y11), some (EV.arr IntKind.u32 y12 y13)]) x0 x1 x2 x3 x4 x5 x6 x7 x8 x9 x10 x11 x12 x13 x14 x15
    rw [← ih]
    exact nat_parts.l45X.stepEq _ K x0 x1 x2 x3 x4 x5 x6 x7 x8 x9 x10 x11 x12 x13 x14 x15
theorem nat_parts.l45X.ok : LoopEq E_nat_parts (loopAt Tryd.f89 5) := by
  intro L hL vs H
  have h1 : E_nat_parts.lp (firstRegion (loopAt Tryd.f89 5)) = some nat_parts.l45.entry := by kernel_rfl
  have h2 : L = nat_parts.l45.entry := Option.some.inj (hL.symm.trans h1)
  subst h2
  by_cases hx : ∃ (x0 : Nat) (x1 : Int) (x2 : Nat) (x3 : Nat) (x4 : Int) (x5 : Int) (x6 : Int) (x7 : Int) (x8 : Int) (x9 : Int) (x10 : Nat) (x11 : Nat → Int) (x12 : Nat) (x13 : Nat → Int) (x14 : Nat) (x15 : Nat → Int), vs = [EV.slice 0 0 x0 none 1, EV.int IntKind.i64 x1, EV.slice 1 0 x2 none 1, EV.slice 2 0 x3 none 1, EV.int IntKind.i64 x4, EV.int IntKind.i64 x5, EV.int IntKind.u64 x6, EV.int IntKind.u64 x7, EV.int IntKind.i64 x8, EV.int IntKind.i64 x9] ∧ H = [some (EV.arr IntKind.u32 x10 x11), some (EV.arr IntKind.u32 x12 x13), some (EV.arr IntKind.u32 x14 x15)]
  · obtain ⟨x0, x1, x2, x3, x4, x5, x6, x7, x8, x9, x10, x11, x12, x13, x14, x15, rfl, rfl⟩ := hx
    right; intro K
    exact exists_congr fun n => iff_of_eq (nat_parts.l45X.eq K n x0 x1 x2 x3 x4 x5 x6 x7 x8 x9 x10 x11 x12 x13 x14 x15).symm
  · left; intro K h
    simp only [nat_parts.l45.entry] at h
    split at h
    · exact hx ⟨_, _, _, _, _, _, _, _, _, _, _, _, _, _, _, _, rfl, rfl⟩
    · exact h
theorem X_nat_parts.eq (a0n : Nat) (a0 : Nat → Int) (a1n : Nat) (a1 : Nat → Int) (K : EV → Heap → Prop) : evFn E_nat_parts Tryd.f89 false [.rsI .u32 a0n a0, .rsI .u32 a1n a1] [] K = nat_parts a0n a0 a1n a1 (fun y0 y1 y2 y3 => K (EV.tuple [EV.rsI IntKind.u32 y0 y1, EV.rsI IntKind.u32 y2 y3]) []) := by
  have h : evFnQ E_nat_parts Tryd.f89 false [.rsI .u32 a0n a0, .rsI .u32 a1n a1] [] K = nat_parts.d a0n a0 a1n a1 (fun y0 y1 y2 y3 => K (EV.tuple [EV.rsI IntKind.u32 y0 y1, EV.rsI IntKind.u32 y2 y3]) []) := by kernel_rfl
  rw [nat_parts.is]; exact (evFnQ_eq _ _ _ _ _ _).symm.trans h
theorem X_nat_parts.ok : SoundE Tryd.prog gl 89 e_nat_parts := by
  refine fnOK (E := E_nat_parts) (fn := Tryd.f89) rfl tys_ok rfl (show AllL _ [(92, e_nat_down), (101, e_nat_upN), (103, e_nat_cut), (104, e_nat_cmp), (109, e_word_Len)] from ⟨X_nat_down.ok, X_nat_upN.ok, X_nat_cut.ok, X_nat_cmp.ok, X_word_Len.ok, trivial⟩) mixed (by kernel_rfl) (by kernel_rfl) (by kernel_rfl) 6 (by kernel_rfl) false ⟨nat_parts.l7X.ok, nat_parts.l16X.ok, nat_parts.l20X.ok, nat_parts.l24X.ok, nat_parts.l31X.ok, nat_parts.l45X.ok, trivial⟩ ?_
  intro args H
  by_cases hx : ∃ (a0n : Nat) (a0 : Nat → Int) (a1n : Nat) (a1 : Nat → Int), args = [.rsI .u32 a0n a0, .rsI .u32 a1n a1] ∧ H = []
  · obtain ⟨a0n, a0, a1n, a1, rfl, rfl⟩ := hx
    right; intro K
    exact iff_of_eq (X_nat_parts.eq a0n a0 a1n a1 K).symm
  · left; intro K h
    simp only [e_nat_parts] at h
    split at h
    · exact hx ⟨_, _, _, _, rfl, rfl⟩
    · exact h
noncomputable def e_nat_number : Entry := ⟨[some .u32], false, fun args H K => match args, H with
  | [.rsI .u32 a0n a0], [] => nat_number a0n a0 (fun y0 => K (EV.str y0) [])
  | _, _ => False⟩
noncomputable def E_nat_number : Env := ⟨look tys, look [(103, e_nat_cut)], look [(4, nat_number.l4.entry), (8, nat_number.l8.entry)], gl, lookL [], false⟩
theorem nat_number.l4X.stepEq (R : List EV → Heap → Prop) (K : Ex → List EV → Heap → Prop) (x0 : Nat) (x1 : Nat → Int) (x2 : Nat) (x3 : Nat) (x4 : Int) (x5 : Int) (x6 : Nat) (x7 : Nat → Int) : loopStep (evCode E_nat_number (loopAt Tryd.f90 0) { (LV.mk 8 [(0, 8)] 4 0 false) with nx := live (.loop (loopAt Tryd.f90 0)) (LV.mk 8 [(0, 8)] 4 0 false) }) (live (.loop (loopAt Tryd.f90 0)) (LV.mk 8 [(0, 8)] 4 0 false)) (LV.mk 8 [(0, 8)] 4 0 false) 0 48 R [EV.rsI IntKind.u32 x0 x1, EV.slice 0 0 x2 (some x3) 1, EV.int IntKind.i64 x4, EV.int IntKind.i64 x5] [some (EV.arr IntKind.u8 x6 x7)] K = nat_number.l4.step (fun x0 x1 x2 x3 x4 x5 x6 x7 => R [EV.rsI IntKind.u32 x0 x1, EV.slice 0 0 x2 (some x3) 1, EV.int IntKind.i64 x4, EV.int IntKind.i64 x5] [some (EV.arr IntKind.u8 x6 x7)]) (fun y0 y1 y2 y3 => K (.exit 0) [EV.slice 0 0 y0 (some y1) 1] [some (EV.arr IntKind.u8 y2 y3)]) x0 x1 x2 x3 x4 x5 x6 x7 := (stepQ_eq _ _ _ _ _ _ _ _ _ _ _).symm.trans (by kernel_rfl)
theorem nat_number.l4X.eq (K : Ex → List EV → Heap → Prop) : ∀ (n : Nat) (x0 : Nat) (x1 : Nat → Int) (x2 : Nat) (x3 : Nat) (x4 : Int) (x5 : Int) (x6 : Nat) (x7 : Nat → Int), loopE E_nat_number (loopAt Tryd.f90 0) (LV.mk 8 [(0, 8)] 4 0 false) 0 48 K n [EV.rsI IntKind.u32 x0 x1, EV.slice 0 0 x2 (some x3) 1, EV.int IntKind.i64 x4, EV.int IntKind.i64 x5] [some (EV.arr IntKind.u8 x6 x7)] = nat_number.l4 (fun y0 y1 y2 y3 => K (.exit 0) [EV.slice 0 0 y0 (some y1) 1] [some (EV.arr IntKind.u8 y2 y3)]) n x0 x1 x2 x3 x4 x5 x6 x7
  | 0, _, _, _, _, _, _, _, _ => rfl
  | n + 1, x0, x1, x2, x3, x4, x5, x6, x7 => by
    have ih : (fun (x0 : Nat) (x1 : Nat → Int) (x2 : Nat) (x3 : Nat) (x4 : Int) (x5 : Int) (x6 : Nat) (x7 : Nat → Int) => loopE E_nat_number (loopAt Tryd.f90 0) (LV.mk 8 [(0, 8)] 4 0 false) 0 48 K n [EV.rsI IntKind.u32 x0 x1, EV.slice 0 0 x2 (some x3) 1, EV.int IntKind.i64 x4, EV.int IntKind.i64 x5] [some (EV.arr IntKind.u8 x6 x7)]) = nat_number.l4 (fun y0 y1 y2 y3 => K (.exit 0) [EV.slice 0 0 y0 (some y1) 1] [some (EV.arr IntKind.u8 y2 y3)]) n := by funext x0 x1 x2 x3 x4 x5 x6 x7; exact nat_number.l4X.eq K n x0 x1 x2 x3 x4 x5 x6 x7
    show loopStep _ _ _ _ _ (loopE E_nat_number (loopAt Tryd.f90 0) (LV.mk 8 [(0, 8)] 4 0 false) 0 48 K n) [EV.rsI IntKind.u32 x0 x1, EV.slice 0 0 x2 (some x3) 1, EV.int IntKind.i64 x4, EV.int IntKind.i64 x5] [some (EV.arr IntKind.u8 x6 x7)] K = nat_number.l4.step (nat_number.l4 (fun y0 y1 y2 y3 => K (.exit 0) [EV.slice 0 0 y0 (some y1) 1] [some (EV.arr IntKind.u8 y2 y3)]) n) (fun y0 y1 y2 y3 => K (.exit 0) [EV.slice 0 0 y0 (some y1) 1] [some (EV.arr IntKind.u8 y2 y3)]) x0 x1 x2 x3 x4 x5 x6 x7
    rw [← ih]
    exact nat_number.l4X.stepEq _ K x0 x1 x2 x3 x4 x5 x6 x7
theorem nat_number.l4X.ok : LoopEq E_nat_number (loopAt Tryd.f90 0) := by
  intro L hL vs H
  have h1 : E_nat_number.lp (firstRegion (loopAt Tryd.f90 0)) = some nat_number.l4.entry := by kernel_rfl
  have h2 : L = nat_number.l4.entry := Option.some.inj (hL.symm.trans h1)
  subst h2
  by_cases hx : ∃ (x0 : Nat) (x1 : Nat → Int) (x2 : Nat) (x3 : Nat) (x4 : Int) (x5 : Int) (x6 : Nat) (x7 : Nat → Int), vs = [EV.rsI IntKind.u32 x0 x1, EV.slice 0 0 x2 (some x3) 1, EV.int IntKind.i64 x4, EV.int IntKind.i64 x5] ∧ H = [some (EV.arr IntKind.u8 x6 x7)]
  · obtain ⟨x0, x1, x2, x3, x4, x5, x6, x7, rfl, rfl⟩ := hx
    right; intro K
    exact exists_congr fun n => iff_of_eq (nat_number.l4X.eq K n x0 x1 x2 x3 x4 x5 x6 x7).symm
  · left; intro K h
    simp only [nat_number.l4.entry] at h
    split at h
    · exact hx ⟨_, _, _, _, _, _, _, _, rfl, rfl⟩
    · exact h
theorem nat_number.l8X.stepEq (R : List EV → Heap → Prop) (K : Ex → List EV → Heap → Prop) (x0 : Nat) (x1 : Nat) (x2 : Nat) (x3 : Nat) (x4 : Nat → Int) : loopStep (evCode E_nat_number (loopAt Tryd.f90 1) { (LV.mk 8 [(2, 8)] 4 0 false) with nx := live (.loop (loopAt Tryd.f90 1)) (LV.mk 8 [(2, 8)] 4 0 false) }) (live (.loop (loopAt Tryd.f90 1)) (LV.mk 8 [(2, 8)] 4 0 false)) (LV.mk 8 [(2, 8)] 4 0 false) 0 48 R [EV.slice 0 x0 x1 (some x2) 1] [some (EV.arr IntKind.u8 x3 x4)] K = nat_number.l8.step (fun x0 x1 x2 x3 x4 => R [EV.slice 0 x0 x1 (some x2) 1] [some (EV.arr IntKind.u8 x3 x4)]) (fun y0 y1 y2 y3 y4 => K (.exit 2) [EV.slice 0 y0 y1 (some y2) 1] [some (EV.arr IntKind.u8 y3 y4)]) x0 x1 x2 x3 x4 := (stepQ_eq _ _ _ _ _ _ _ _ _ _ _).symm.trans (by kernel_rfl)
theorem nat_number.l8X.eq (K : Ex → List EV → Heap → Prop) : ∀ (n : Nat) (x0 : Nat) (x1 : Nat) (x2 : Nat) (x3 : Nat) (x4 : Nat → Int), loopE E_nat_number (loopAt Tryd.f90 1) (LV.mk 8 [(2, 8)] 4 0 false) 0 48 K n [EV.slice 0 x0 x1 (some x2) 1] [some (EV.arr IntKind.u8 x3 x4)] = nat_number.l8 (fun y0 y1 y2 y3 y4 => K (.exit 2) [EV.slice 0 y0 y1 (some y2) 1] [some (EV.arr IntKind.u8 y3 y4)]) n x0 x1 x2 x3 x4
  | 0, _, _, _, _, _ => rfl
  | n + 1, x0, x1, x2, x3, x4 => by
    have ih : (fun (x0 : Nat) (x1 : Nat) (x2 : Nat) (x3 : Nat) (x4 : Nat → Int) => loopE E_nat_number (loopAt Tryd.f90 1) (LV.mk 8 [(2, 8)] 4 0 false) 0 48 K n [EV.slice 0 x0 x1 (some x2) 1] [some (EV.arr IntKind.u8 x3 x4)]) = nat_number.l8 (fun y0 y1 y2 y3 y4 => K (.exit 2) [EV.slice 0 y0 y1 (some y2) 1] [some (EV.arr IntKind.u8 y3 y4)]) n := by funext x0 x1 x2 x3 x4; exact nat_number.l8X.eq K n x0 x1 x2 x3 x4
    show loopStep _ _ _ _ _ (loopE E_nat_number (loopAt Tryd.f90 1) (LV.mk 8 [(2, 8)] 4 0 false) 0 48 K n) [EV.slice 0 x0 x1 (some x2) 1] [some (EV.arr IntKind.u8 x3 x4)] K = nat_number.l8.step (nat_number.l8 (fun y0 y1 y2 y3 y4 => K (.exit 2) [EV.slice 0 y0 y1 (some y2) 1] [some (EV.arr IntKind.u8 y3 y4)]) n) (fun y0 y1 y2 y3 y4 => K (.exit 2) [EV.slice 0 y0 y1 (some y2) 1] [some (EV.arr IntKind.u8 y3 y4)]) x0 x1 x2 x3 x4
    rw [← ih]
    exact nat_number.l8X.stepEq _ K x0 x1 x2 x3 x4
theorem nat_number.l8X.ok : LoopEq E_nat_number (loopAt Tryd.f90 1) := by
  intro L hL vs H
  have h1 : E_nat_number.lp (firstRegion (loopAt Tryd.f90 1)) = some nat_number.l8.entry := by kernel_rfl
  have h2 : L = nat_number.l8.entry := Option.some.inj (hL.symm.trans h1)
  subst h2
  by_cases hx : ∃ (x0 : Nat) (x1 : Nat) (x2 : Nat) (x3 : Nat) (x4 : Nat → Int), vs = [EV.slice 0 x0 x1 (some x2) 1] ∧ H = [some (EV.arr IntKind.u8 x3 x4)]
  · obtain ⟨x0, x1, x2, x3, x4, rfl, rfl⟩ := hx
    right; intro K
    exact exists_congr fun n => iff_of_eq (nat_number.l8X.eq K n x0 x1 x2 x3 x4).symm
  · left; intro K h
    simp only [nat_number.l8.entry] at h
    split at h
    · exact hx ⟨_, _, _, _, _, rfl, rfl⟩
    · exact h
theorem X_nat_number.eq (a0n : Nat) (a0 : Nat → Int) (K : EV → Heap → Prop) : evFn E_nat_number Tryd.f90 false [.rsI .u32 a0n a0] [] K = nat_number a0n a0 (fun y0 => K (EV.str y0) []) := by
  have h : evFnQ E_nat_number Tryd.f90 false [.rsI .u32 a0n a0] [] K = nat_number.d a0n a0 (fun y0 => K (EV.str y0) []) := by kernel_rfl
  rw [nat_number.is]; exact (evFnQ_eq _ _ _ _ _ _).symm.trans h
theorem X_nat_number.ok : SoundE Tryd.prog gl 90 e_nat_number := by
  refine fnOK (E := E_nat_number) (fn := Tryd.f90) rfl tys_ok rfl (show AllL _ [(103, e_nat_cut)] from ⟨X_nat_cut.ok, trivial⟩) mixed (by kernel_rfl) (by kernel_rfl) (by kernel_rfl) 2 (by kernel_rfl) false ⟨nat_number.l4X.ok, nat_number.l8X.ok, trivial⟩ ?_
  intro args H
  by_cases hx : ∃ (a0n : Nat) (a0 : Nat → Int), args = [.rsI .u32 a0n a0] ∧ H = []
  · obtain ⟨a0n, a0, rfl, rfl⟩ := hx
    right; intro K
    exact iff_of_eq (X_nat_number.eq a0n a0 K).symm
  · left; intro K h
    simp only [e_nat_number] at h
    split at h
    · exact hx ⟨_, _, rfl, rfl⟩
    · exact h
noncomputable def e_nat_Gcd : Entry := ⟨[none, none], false, fun args H K => match args, H with
  | [.str a0, .str a1], [] => nat_Gcd a0 a1 (fun y0 y1 => K (EV.tuple [EV.str y0, EV.int IntKind.i64 y1]) [])
  | _, _ => False⟩
noncomputable def E_nat_Gcd : Env := ⟨look tys, look [(72, e_nat_right), (75, e_nat_words), (89, e_nat_parts), (90, e_nat_number)], look [(4, nat_Gcd.l4.entry)], gl, lookL [], false⟩
theorem nat_Gcd.l4X.stepEq (R : List EV → Heap → Prop) (K : Ex → List EV → Heap → Prop) (x0 : Nat) (x1 : Nat → Int) (x2 : Nat) (x3 : Nat → Int) : loopStep (evCode E_nat_Gcd (loopAt Tryd.f50 0) { (LV.mk 64 [(0, 64)] 48 0 false) with nx := live (.loop (loopAt Tryd.f50 0)) (LV.mk 64 [(0, 64)] 48 0 false) }) (live (.loop (loopAt Tryd.f50 0)) (LV.mk 64 [(0, 64)] 48 0 false)) (LV.mk 64 [(0, 64)] 48 0 false) 0 31 R [EV.rsI IntKind.u32 x0 x1, EV.rsI IntKind.u32 x2 x3] [] K = nat_Gcd.l4.step (fun x0 x1 x2 x3 => R [EV.rsI IntKind.u32 x0 x1, EV.rsI IntKind.u32 x2 x3] []) (fun y0 y1 => K (.exit 0) [EV.rsI IntKind.u32 y0 y1] []) x0 x1 x2 x3 := (stepQ_eq _ _ _ _ _ _ _ _ _ _ _).symm.trans (by kernel_rfl)
theorem nat_Gcd.l4X.eq (K : Ex → List EV → Heap → Prop) : ∀ (n : Nat) (x0 : Nat) (x1 : Nat → Int) (x2 : Nat) (x3 : Nat → Int), loopE E_nat_Gcd (loopAt Tryd.f50 0) (LV.mk 64 [(0, 64)] 48 0 false) 0 31 K n [EV.rsI IntKind.u32 x0 x1, EV.rsI IntKind.u32 x2 x3] [] = nat_Gcd.l4 (fun y0 y1 => K (.exit 0) [EV.rsI IntKind.u32 y0 y1] []) n x0 x1 x2 x3
  | 0, _, _, _, _ => rfl
  | n + 1, x0, x1, x2, x3 => by
    have ih : (fun (x0 : Nat) (x1 : Nat → Int) (x2 : Nat) (x3 : Nat → Int) => loopE E_nat_Gcd (loopAt Tryd.f50 0) (LV.mk 64 [(0, 64)] 48 0 false) 0 31 K n [EV.rsI IntKind.u32 x0 x1, EV.rsI IntKind.u32 x2 x3] []) = nat_Gcd.l4 (fun y0 y1 => K (.exit 0) [EV.rsI IntKind.u32 y0 y1] []) n := by funext x0 x1 x2 x3; exact nat_Gcd.l4X.eq K n x0 x1 x2 x3
    show loopStep _ _ _ _ _ (loopE E_nat_Gcd (loopAt Tryd.f50 0) (LV.mk 64 [(0, 64)] 48 0 false) 0 31 K n) [EV.rsI IntKind.u32 x0 x1, EV.rsI IntKind.u32 x2 x3] [] K = nat_Gcd.l4.step (nat_Gcd.l4 (fun y0 y1 => K (.exit 0) [EV.rsI IntKind.u32 y0 y1] []) n) (fun y0 y1 => K (.exit 0) [EV.rsI IntKind.u32 y0 y1] []) x0 x1 x2 x3
    rw [← ih]
    exact nat_Gcd.l4X.stepEq _ K x0 x1 x2 x3
theorem nat_Gcd.l4X.ok : LoopEq E_nat_Gcd (loopAt Tryd.f50 0) := by
  intro L hL vs H
  have h1 : E_nat_Gcd.lp (firstRegion (loopAt Tryd.f50 0)) = some nat_Gcd.l4.entry := by kernel_rfl
  have h2 : L = nat_Gcd.l4.entry := Option.some.inj (hL.symm.trans h1)
  subst h2
  by_cases hx : ∃ (x0 : Nat) (x1 : Nat → Int) (x2 : Nat) (x3 : Nat → Int), vs = [EV.rsI IntKind.u32 x0 x1, EV.rsI IntKind.u32 x2 x3] ∧ H = []
  · obtain ⟨x0, x1, x2, x3, rfl, rfl⟩ := hx
    right; intro K
    exact exists_congr fun n => iff_of_eq (nat_Gcd.l4X.eq K n x0 x1 x2 x3).symm
  · left; intro K h
    simp only [nat_Gcd.l4.entry] at h
    split at h
    · exact hx ⟨_, _, _, _, rfl, rfl⟩
    · exact h
theorem X_nat_Gcd.eq (a0 : List UInt8) (a1 : List UInt8) (K : EV → Heap → Prop) : evFn E_nat_Gcd Tryd.f50 false [.str a0, .str a1] [] K = nat_Gcd a0 a1 (fun y0 y1 => K (EV.tuple [EV.str y0, EV.int IntKind.i64 y1]) []) := by
  have h : evFnQ E_nat_Gcd Tryd.f50 false [.str a0, .str a1] [] K = nat_Gcd.d a0 a1 (fun y0 y1 => K (EV.tuple [EV.str y0, EV.int IntKind.i64 y1]) []) := by kernel_rfl
  rw [nat_Gcd.is]; exact (evFnQ_eq _ _ _ _ _ _).symm.trans h
theorem X_nat_Gcd.ok : SoundE Tryd.prog gl 50 e_nat_Gcd := by
  refine fnOK (E := E_nat_Gcd) (fn := Tryd.f50) rfl tys_ok rfl (show AllL _ [(72, e_nat_right), (75, e_nat_words), (89, e_nat_parts), (90, e_nat_number)] from ⟨X_nat_right.ok, X_nat_words.ok, X_nat_parts.ok, X_nat_number.ok, trivial⟩) mixed (by kernel_rfl) (by kernel_rfl) (by kernel_rfl) 1 (by kernel_rfl) false ⟨nat_Gcd.l4X.ok, trivial⟩ ?_
  intro args H
  by_cases hx : ∃ (a0 : List UInt8) (a1 : List UInt8), args = [.str a0, .str a1] ∧ H = []
  · obtain ⟨a0, a1, rfl, rfl⟩ := hx
    right; intro K
    exact iff_of_eq (X_nat_Gcd.eq a0 a1 K).symm
  · left; intro K h
    simp only [e_nat_Gcd] at h
    split at h
    · exact hx ⟨_, _, rfl, rfl⟩
    · exact h
noncomputable def e_bits_TrailingZeros64 : Entry := ⟨[none], false, fun args H K => match args, H with
  | [.int .u64 a0], [] => bits_TrailingZeros64 a0 (fun y0 => K (EV.int IntKind.i64 y0) [])
  | _, _ => False⟩
noncomputable def E_bits_TrailingZeros64 : Env := ⟨look tys, look [], look [], gl, lookL [], false⟩
theorem X_bits_TrailingZeros64.eq (a0 : Int) (K : EV → Heap → Prop) : evFn E_bits_TrailingZeros64 Tryd.f110 false [.int .u64 a0] [] K = bits_TrailingZeros64 a0 (fun y0 => K (EV.int IntKind.i64 y0) []) := by
  have h : evFnQ E_bits_TrailingZeros64 Tryd.f110 false [.int .u64 a0] [] K = bits_TrailingZeros64.d a0 (fun y0 => K (EV.int IntKind.i64 y0) []) := by kernel_rfl
  rw [bits_TrailingZeros64.is]; exact (evFnQ_eq _ _ _ _ _ _).symm.trans h
theorem X_bits_TrailingZeros64.ok : SoundE Tryd.prog gl 110 e_bits_TrailingZeros64 := by
  refine fnOK (E := E_bits_TrailingZeros64) (fn := Tryd.f110) rfl tys_ok rfl (show AllL _ [] from trivial) mixed (by kernel_rfl) (by kernel_rfl) (by kernel_rfl) 0 (by kernel_rfl) false trivial ?_
  intro args H
  by_cases hx : ∃ (a0 : Int), args = [.int .u64 a0] ∧ H = []
  · obtain ⟨a0, rfl, rfl⟩ := hx
    right; intro K
    exact iff_of_eq (X_bits_TrailingZeros64.eq a0 K).symm
  · left; intro K h
    simp only [e_bits_TrailingZeros64] at h
    split at h
    · exact hx ⟨_, rfl, rfl⟩
    · exact h
noncomputable def e_word_Low : Entry := ⟨[none], false, fun args H K => match args, H with
  | [.int .u64 a0], [] => word_Low a0 (fun y0 => K (EV.int IntKind.i64 y0) [])
  | _, _ => False⟩
noncomputable def E_word_Low : Env := ⟨look tys, look [(110, e_bits_TrailingZeros64)], look [], gl, lookL [], false⟩
theorem X_word_Low.eq (a0 : Int) (K : EV → Heap → Prop) : evFn E_word_Low Tryd.f91 false [.int .u64 a0] [] K = word_Low a0 (fun y0 => K (EV.int IntKind.i64 y0) []) := by
  have h : evFnQ E_word_Low Tryd.f91 false [.int .u64 a0] [] K = word_Low.d a0 (fun y0 => K (EV.int IntKind.i64 y0) []) := by kernel_rfl
  rw [word_Low.is]; exact (evFnQ_eq _ _ _ _ _ _).symm.trans h
theorem X_word_Low.ok : SoundE Tryd.prog gl 91 e_word_Low := by
  refine fnOK (E := E_word_Low) (fn := Tryd.f91) rfl tys_ok rfl (show AllL _ [(110, e_bits_TrailingZeros64)] from ⟨X_bits_TrailingZeros64.ok, trivial⟩) mixed (by kernel_rfl) (by kernel_rfl) (by kernel_rfl) 0 (by kernel_rfl) false trivial ?_
  intro args H
  by_cases hx : ∃ (a0 : Int), args = [.int .u64 a0] ∧ H = []
  · obtain ⟨a0, rfl, rfl⟩ := hx
    right; intro K
    exact iff_of_eq (X_word_Low.eq a0 K).symm
  · left; intro K h
    simp only [e_word_Low] at h
    split at h
    · exact hx ⟨_, rfl, rfl⟩
    · exact h
noncomputable def e_nat_Low : Entry := ⟨[none], false, fun args H K => match args, H with
  | [.str a0], [] => nat_Low a0 (fun y0 => K (EV.int IntKind.i64 y0) [])
  | _, _ => False⟩
noncomputable def E_nat_Low : Env := ⟨look tys, look [(46, e_nat_Check), (91, e_word_Low)], look [(4, nat_Low.l4.entry)], gl, lookL [], false⟩
theorem nat_Low.l4X.stepEq (R : List EV → Heap → Prop) (K : Ex → List EV → Heap → Prop) (x0 : List UInt8) (x1 : Int) : loopStep (evCode E_nat_Low (loopAt Tryd.f55 0) { (LV.mk 0 [(0, 0)] 4 0 false) with nx := live (.loop (loopAt Tryd.f55 0)) (LV.mk 0 [(0, 0)] 4 0 false) }) (live (.loop (loopAt Tryd.f55 0)) (LV.mk 0 [(0, 0)] 4 0 false)) (LV.mk 0 [(0, 0)] 4 0 false) 0 30 R [EV.str x0, EV.int IntKind.i64 x1] [] K = nat_Low.l4.step (fun x0 x1 => R [EV.str x0, EV.int IntKind.i64 x1] []) (fun y0 => K .ret [EV.int IntKind.i64 y0] []) (K (.exit 0) [] []) x0 x1 := (stepQ_eq _ _ _ _ _ _ _ _ _ _ _).symm.trans (by kernel_rfl)
theorem nat_Low.l4X.eq (K : Ex → List EV → Heap → Prop) : ∀ (n : Nat) (x0 : List UInt8) (x1 : Int), loopE E_nat_Low (loopAt Tryd.f55 0) (LV.mk 0 [(0, 0)] 4 0 false) 0 30 K n [EV.str x0, EV.int IntKind.i64 x1] [] = nat_Low.l4 (fun y0 => K .ret [EV.int IntKind.i64 y0] []) (K (.exit 0) [] []) n x0 x1
  | 0, _, _ => rfl
  | n + 1, x0, x1 => by
    have ih : (fun (x0 : List UInt8) (x1 : Int) => loopE E_nat_Low (loopAt Tryd.f55 0) (LV.mk 0 [(0, 0)] 4 0 false) 0 30 K n [EV.str x0, EV.int IntKind.i64 x1] []) = nat_Low.l4 (fun y0 => K .ret [EV.int IntKind.i64 y0] []) (K (.exit 0) [] []) n := by funext x0 x1; exact nat_Low.l4X.eq K n x0 x1
    show loopStep _ _ _ _ _ (loopE E_nat_Low (loopAt Tryd.f55 0) (LV.mk 0 [(0, 0)] 4 0 false) 0 30 K n) [EV.str x0, EV.int IntKind.i64 x1] [] K = nat_Low.l4.step (nat_Low.l4 (fun y0 => K .ret [EV.int IntKind.i64 y0] []) (K (.exit 0) [] []) n) (fun y0 => K .ret [EV.int IntKind.i64 y0] []) (K (.exit 0) [] []) x0 x1
    rw [← ih]
    exact nat_Low.l4X.stepEq _ K x0 x1
theorem nat_Low.l4X.ok : LoopEq E_nat_Low (loopAt Tryd.f55 0) := by
  intro L hL vs H
  have h1 : E_nat_Low.lp (firstRegion (loopAt Tryd.f55 0)) = some nat_Low.l4.entry := by kernel_rfl
  have h2 : L = nat_Low.l4.entry := Option.some.inj (hL.symm.trans h1)
  subst h2
  by_cases hx : ∃ (x0 : List UInt8) (x1 : Int), vs = [EV.str x0, EV.int IntKind.i64 x1] ∧ H = []
  · obtain ⟨x0, x1, rfl, rfl⟩ := hx
    right; intro K
    exact exists_congr fun n => iff_of_eq (nat_Low.l4X.eq K n x0 x1).symm
  · left; intro K h
    simp only [nat_Low.l4.entry] at h
    split at h
    · exact hx ⟨_, _, rfl, rfl⟩
    · exact h
theorem X_nat_Low.eq (a0 : List UInt8) (K : EV → Heap → Prop) : evFn E_nat_Low Tryd.f55 false [.str a0] [] K = nat_Low a0 (fun y0 => K (EV.int IntKind.i64 y0) []) := by
  have h : evFnQ E_nat_Low Tryd.f55 false [.str a0] [] K = nat_Low.d a0 (fun y0 => K (EV.int IntKind.i64 y0) []) := by kernel_rfl
  rw [nat_Low.is]; exact (evFnQ_eq _ _ _ _ _ _).symm.trans h
theorem X_nat_Low.ok : SoundE Tryd.prog gl 55 e_nat_Low := by
  refine fnOK (E := E_nat_Low) (fn := Tryd.f55) rfl tys_ok rfl (show AllL _ [(46, e_nat_Check), (91, e_word_Low)] from ⟨X_nat_Check.ok, X_word_Low.ok, trivial⟩) mixed (by kernel_rfl) (by kernel_rfl) (by kernel_rfl) 1 (by kernel_rfl) false ⟨nat_Low.l4X.ok, trivial⟩ ?_
  intro args H
  by_cases hx : ∃ (a0 : List UInt8), args = [.str a0] ∧ H = []
  · obtain ⟨a0, rfl, rfl⟩ := hx
    right; intro K
    exact iff_of_eq (X_nat_Low.eq a0 K).symm
  · left; intro K h
    simp only [e_nat_Low] at h
    split at h
    · exact hx ⟨_, rfl, rfl⟩
    · exact h
noncomputable def e_nat_Right : Entry := ⟨[none, none], false, fun args H K => match args, H with
  | [.str a0, .int .i64 a1], [] => nat_Right a0 a1 (fun y0 y1 y2 => K (EV.tuple [EV.str y0, EV.bool y1, EV.int IntKind.i64 y2]) [])
  | _, _ => False⟩
noncomputable def E_nat_Right : Env := ⟨look tys, look [(46, e_nat_Check), (55, e_nat_Low), (75, e_nat_words), (90, e_nat_number), (92, e_nat_down)], look [], gl, lookL [], false⟩
theorem X_nat_Right.eq (a0 : List UInt8) (a1 : Int) (K : EV → Heap → Prop) : evFn E_nat_Right Tryd.f56 false [.str a0, .int .i64 a1] [] K = nat_Right a0 a1 (fun y0 y1 y2 => K (EV.tuple [EV.str y0, EV.bool y1, EV.int IntKind.i64 y2]) []) := by
  have h : evFnQ E_nat_Right Tryd.f56 false [.str a0, .int .i64 a1] [] K = nat_Right.d a0 a1 (fun y0 y1 y2 => K (EV.tuple [EV.str y0, EV.bool y1, EV.int IntKind.i64 y2]) []) := by kernel_rfl
  rw [nat_Right.is]; exact (evFnQ_eq _ _ _ _ _ _).symm.trans h
theorem X_nat_Right.ok : SoundE Tryd.prog gl 56 e_nat_Right := by
  refine fnOK (E := E_nat_Right) (fn := Tryd.f56) rfl tys_ok rfl (show AllL _ [(46, e_nat_Check), (55, e_nat_Low), (75, e_nat_words), (90, e_nat_number), (92, e_nat_down)] from ⟨X_nat_Check.ok, X_nat_Low.ok, X_nat_words.ok, X_nat_number.ok, X_nat_down.ok, trivial⟩) mixed (by kernel_rfl) (by kernel_rfl) (by kernel_rfl) 0 (by kernel_rfl) false trivial ?_
  intro args H
  by_cases hx : ∃ (a0 : List UInt8) (a1 : Int), args = [.str a0, .int .i64 a1] ∧ H = []
  · obtain ⟨a0, a1, rfl, rfl⟩ := hx
    right; intro K
    exact iff_of_eq (X_nat_Right.eq a0 a1 K).symm
  · left; intro K h
    simp only [e_nat_Right] at h
    split at h
    · exact hx ⟨_, _, rfl, rfl⟩
    · exact h
noncomputable def e_nat_Div : Entry := ⟨[none, none], false, fun args H K => match args, H with
  | [.str a0, .str a1], [] => nat_Div a0 a1 (fun y0 y1 y2 => K (EV.tuple [EV.str y0, EV.str y1, EV.int IntKind.i64 y2]) [])
  | _, _ => False⟩
noncomputable def E_nat_Div : Env := ⟨look tys, look [(72, e_nat_right), (75, e_nat_words), (89, e_nat_parts), (90, e_nat_number)], look [], gl, lookL [], false⟩
theorem X_nat_Div.eq (a0 : List UInt8) (a1 : List UInt8) (K : EV → Heap → Prop) : evFn E_nat_Div Tryd.f57 false [.str a0, .str a1] [] K = nat_Div a0 a1 (fun y0 y1 y2 => K (EV.tuple [EV.str y0, EV.str y1, EV.int IntKind.i64 y2]) []) := by
  have h : evFnQ E_nat_Div Tryd.f57 false [.str a0, .str a1] [] K = nat_Div.d a0 a1 (fun y0 y1 y2 => K (EV.tuple [EV.str y0, EV.str y1, EV.int IntKind.i64 y2]) []) := by kernel_rfl
  rw [nat_Div.is]; exact (evFnQ_eq _ _ _ _ _ _).symm.trans h
theorem X_nat_Div.ok : SoundE Tryd.prog gl 57 e_nat_Div := by
  refine fnOK (E := E_nat_Div) (fn := Tryd.f57) rfl tys_ok rfl (show AllL _ [(72, e_nat_right), (75, e_nat_words), (89, e_nat_parts), (90, e_nat_number)] from ⟨X_nat_right.ok, X_nat_words.ok, X_nat_parts.ok, X_nat_number.ok, trivial⟩) mixed (by kernel_rfl) (by kernel_rfl) (by kernel_rfl) 0 (by kernel_rfl) false trivial ?_
  intro args H
  by_cases hx : ∃ (a0 : List UInt8) (a1 : List UInt8), args = [.str a0, .str a1] ∧ H = []
  · obtain ⟨a0, a1, rfl, rfl⟩ := hx
    right; intro K
    exact iff_of_eq (X_nat_Div.eq a0 a1 K).symm
  · left; intro K h
    simp only [e_nat_Div] at h
    split at h
    · exact hx ⟨_, _, rfl, rfl⟩
    · exact h
noncomputable def e_exact_Make : Entry := ⟨[none, none, none, none], false, fun args H K => match args, H with
  | [.bool a0, .str a1, .str a2, .int .i64 a3], [] => exact_Make a0 a1 a2 a3 (fun y0 y1 y2 y3 y4 => K (EV.tuple [EV.agg [EV.bool y0, EV.str y1, EV.str y2, EV.int IntKind.i64 y3], EV.int IntKind.i64 y4]) [])
  | _, _ => False⟩
noncomputable def E_exact_Make : Env := ⟨look tys, look [(46, e_nat_Check), (48, e_exact_within), (49, e_exact_null), (50, e_nat_Gcd), (55, e_nat_Low), (56, e_nat_Right), (57, e_nat_Div)], look [], gl, lookL [], false⟩
theorem X_exact_Make.eq (a0 : Bool) (a1 : List UInt8) (a2 : List UInt8) (a3 : Int) (K : EV → Heap → Prop) : evFn E_exact_Make Tryd.f15 false [.bool a0, .str a1, .str a2, .int .i64 a3] [] K = exact_Make a0 a1 a2 a3 (fun y0 y1 y2 y3 y4 => K (EV.tuple [EV.agg [EV.bool y0, EV.str y1, EV.str y2, EV.int IntKind.i64 y3], EV.int IntKind.i64 y4]) []) := by
  have h : evFnQ E_exact_Make Tryd.f15 false [.bool a0, .str a1, .str a2, .int .i64 a3] [] K = exact_Make.d a0 a1 a2 a3 (fun y0 y1 y2 y3 y4 => K (EV.tuple [EV.agg [EV.bool y0, EV.str y1, EV.str y2, EV.int IntKind.i64 y3], EV.int IntKind.i64 y4]) []) := by kernel_rfl
  rw [exact_Make.is]; exact (evFnQ_eq _ _ _ _ _ _).symm.trans h
theorem X_exact_Make.ok : SoundE Tryd.prog gl 15 e_exact_Make := by
  refine fnOK (E := E_exact_Make) (fn := Tryd.f15) rfl tys_ok rfl (show AllL _ [(46, e_nat_Check), (48, e_exact_within), (49, e_exact_null), (50, e_nat_Gcd), (55, e_nat_Low), (56, e_nat_Right), (57, e_nat_Div)] from ⟨X_nat_Check.ok, X_exact_within.ok, X_exact_null.ok, X_nat_Gcd.ok, X_nat_Low.ok, X_nat_Right.ok, X_nat_Div.ok, trivial⟩) mixed (by kernel_rfl) (by kernel_rfl) (by kernel_rfl) 0 (by kernel_rfl) false trivial ?_
  intro args H
  by_cases hx : ∃ (a0 : Bool) (a1 : List UInt8) (a2 : List UInt8) (a3 : Int), args = [.bool a0, .str a1, .str a2, .int .i64 a3] ∧ H = []
  · obtain ⟨a0, a1, a2, a3, rfl, rfl⟩ := hx
    right; intro K
    exact iff_of_eq (X_exact_Make.eq a0 a1 a2 a3 K).symm
  · left; intro K h
    simp only [e_exact_Make] at h
    split at h
    · exact hx ⟨_, _, _, _, rfl, rfl⟩
    · exact h
noncomputable def e_law06_alive : Entry := ⟨[], false, fun args H K => match args, H with
  | [], [] => law06_alive  (fun y0 => K (EV.bool y0) [])
  | _, _ => False⟩
noncomputable def E_law06_alive : Env := ⟨look tys, look [(15, e_exact_Make)], look [], gl, lookL [], false⟩
theorem X_law06_alive.eq (K : EV → Heap → Prop) : evFn E_law06_alive Tryd.f12 false [] [] K = law06_alive  (fun y0 => K (EV.bool y0) []) := by
  have h : evFnQ E_law06_alive Tryd.f12 false [] [] K = law06_alive.d  (fun y0 => K (EV.bool y0) []) := by kernel_rfl
  rw [law06_alive.is]; exact (evFnQ_eq _ _ _ _ _ _).symm.trans h
theorem X_law06_alive.ok : SoundE Tryd.prog gl 12 e_law06_alive := by
  refine fnOK (E := E_law06_alive) (fn := Tryd.f12) rfl tys_ok rfl (show AllL _ [(15, e_exact_Make)] from ⟨X_exact_Make.ok, trivial⟩) mixed (by kernel_rfl) (by kernel_rfl) (by kernel_rfl) 0 (by kernel_rfl) false trivial ?_
  intro args H
  by_cases hx : args = [] ∧ H = []
  · obtain ⟨rfl, rfl⟩ := hx
    right; intro K
    exact iff_of_eq (X_law06_alive.eq  K).symm
  · left; intro K h
    simp only [e_law06_alive] at h
    split at h
    · exact hx ⟨rfl, rfl⟩
    · exact h
noncomputable def e_exact_odd : Entry := ⟨[none], false, fun args H K => match args, H with
  | [.str a0], [] => exact_odd a0 (fun y0 => K (EV.bool y0) [])
  | _, _ => False⟩
noncomputable def E_exact_odd : Env := ⟨look tys, look [], look [], gl, lookL [], false⟩
theorem X_exact_odd.eq (a0 : List UInt8) (K : EV → Heap → Prop) : evFn E_exact_odd Tryd.f47 false [.str a0] [] K = exact_odd a0 (fun y0 => K (EV.bool y0) []) := by
  have h : evFnQ E_exact_odd Tryd.f47 false [.str a0] [] K = exact_odd.d a0 (fun y0 => K (EV.bool y0) []) := by kernel_rfl
  rw [exact_odd.is]; exact (evFnQ_eq _ _ _ _ _ _).symm.trans h
theorem X_exact_odd.ok : SoundE Tryd.prog gl 47 e_exact_odd := by
  refine fnOK (E := E_exact_odd) (fn := Tryd.f47) rfl tys_ok rfl (show AllL _ [] from trivial) mixed (by kernel_rfl) (by kernel_rfl) (by kernel_rfl) 0 (by kernel_rfl) false trivial ?_
  intro args H
  by_cases hx : ∃ (a0 : List UInt8), args = [.str a0] ∧ H = []
  · obtain ⟨a0, rfl, rfl⟩ := hx
    right; intro K
    exact iff_of_eq (X_exact_odd.eq a0 K).symm
  · left; intro K h
    simp only [e_exact_odd] at h
    split at h
    · exact hx ⟨_, rfl, rfl⟩
    · exact h
noncomputable def e_exact_Check : Entry := ⟨[none], false, fun args H K => match args, H with
  | [.agg [.bool a0_0, .str a0_1, .str a0_2, .int .i64 a0_3]], [] => exact_Check a0_0 a0_1 a0_2 a0_3 (fun y0 => K (EV.int IntKind.i64 y0) [])
  | _, _ => False⟩
noncomputable def E_exact_Check : Env := ⟨look tys, look [(46, e_nat_Check), (47, e_exact_odd), (48, e_exact_within), (49, e_exact_null), (50, e_nat_Gcd)], look [], gl, lookL [], false⟩
theorem X_exact_Check.eq (a0_0 : Bool) (a0_1 : List UInt8) (a0_2 : List UInt8) (a0_3 : Int) (K : EV → Heap → Prop) : evFn E_exact_Check Tryd.f13 false [.agg [.bool a0_0, .str a0_1, .str a0_2, .int .i64 a0_3]] [] K = exact_Check a0_0 a0_1 a0_2 a0_3 (fun y0 => K (EV.int IntKind.i64 y0) []) := by
  have h : evFnQ E_exact_Check Tryd.f13 false [.agg [.bool a0_0, .str a0_1, .str a0_2, .int .i64 a0_3]] [] K = exact_Check.d a0_0 a0_1 a0_2 a0_3 (fun y0 => K (EV.int IntKind.i64 y0) []) := by kernel_rfl
  rw [exact_Check.is]; exact (evFnQ_eq _ _ _ _ _ _).symm.trans h
theorem X_exact_Check.ok : SoundE Tryd.prog gl 13 e_exact_Check := by
  refine fnOK (E := E_exact_Check) (fn := Tryd.f13) rfl tys_ok rfl (show AllL _ [(46, e_nat_Check), (47, e_exact_odd), (48, e_exact_within), (49, e_exact_null), (50, e_nat_Gcd)] from ⟨X_nat_Check.ok, X_exact_odd.ok, X_exact_within.ok, X_exact_null.ok, X_nat_Gcd.ok, trivial⟩) mixed (by kernel_rfl) (by kernel_rfl) (by kernel_rfl) 0 (by kernel_rfl) false trivial ?_
  intro args H
  by_cases hx : ∃ (a0_0 : Bool) (a0_1 : List UInt8) (a0_2 : List UInt8) (a0_3 : Int), args = [.agg [.bool a0_0, .str a0_1, .str a0_2, .int .i64 a0_3]] ∧ H = []
  · obtain ⟨a0_0, a0_1, a0_2, a0_3, rfl, rfl⟩ := hx
    right; intro K
    exact iff_of_eq (X_exact_Check.eq a0_0 a0_1 a0_2 a0_3 K).symm
  · left; intro K h
    simp only [e_exact_Check] at h
    split at h
    · exact hx ⟨_, _, _, _, rfl, rfl⟩
    · exact h
noncomputable def e_r05_May : Entry := ⟨[none], false, fun args H K => match args, H with
  | [.str a0], [] => r05_May a0 (fun y0 => K (EV.bool y0) [])
  | _, _ => False⟩
noncomputable def E_r05_May : Env := ⟨look tys, look [], look [], gl, lookL [], false⟩
theorem X_r05_May.eq (a0 : List UInt8) (K : EV → Heap → Prop) : evFn E_r05_May Tryd.f51 false [.str a0] [] K = r05_May a0 (fun y0 => K (EV.bool y0) []) := by
  have h : evFnQ E_r05_May Tryd.f51 false [.str a0] [] K = r05_May.d a0 (fun y0 => K (EV.bool y0) []) := by kernel_rfl
  rw [r05_May.is]; exact (evFnQ_eq _ _ _ _ _ _).symm.trans h
theorem X_r05_May.ok : SoundE Tryd.prog gl 51 e_r05_May := by
  refine fnOK (E := E_r05_May) (fn := Tryd.f51) rfl tys_ok rfl (show AllL _ [] from trivial) mixed (by kernel_rfl) (by kernel_rfl) (by kernel_rfl) 0 (by kernel_rfl) false trivial ?_
  intro args H
  by_cases hx : ∃ (a0 : List UInt8), args = [.str a0] ∧ H = []
  · obtain ⟨a0, rfl, rfl⟩ := hx
    right; intro K
    exact iff_of_eq (X_r05_May.eq a0 K).symm
  · left; intro K h
    simp only [e_r05_May] at h
    split at h
    · exact hx ⟨_, rfl, rfl⟩
    · exact h
noncomputable def e_r06_odd : Entry := ⟨[none], false, fun args H K => match args, H with
  | [.str a0], [] => r06_odd a0 (fun y0 => K (EV.bool y0) [])
  | _, _ => False⟩
noncomputable def E_r06_odd : Env := ⟨look tys, look [], look [], gl, lookL [], false⟩
theorem X_r06_odd.eq (a0 : List UInt8) (K : EV → Heap → Prop) : evFn E_r06_odd Tryd.f52 false [.str a0] [] K = r06_odd a0 (fun y0 => K (EV.bool y0) []) := by
  have h : evFnQ E_r06_odd Tryd.f52 false [.str a0] [] K = r06_odd.d a0 (fun y0 => K (EV.bool y0) []) := by kernel_rfl
  rw [r06_odd.is]; exact (evFnQ_eq _ _ _ _ _ _).symm.trans h
theorem X_r06_odd.ok : SoundE Tryd.prog gl 52 e_r06_odd := by
  refine fnOK (E := E_r06_odd) (fn := Tryd.f52) rfl tys_ok rfl (show AllL _ [] from trivial) mixed (by kernel_rfl) (by kernel_rfl) (by kernel_rfl) 0 (by kernel_rfl) false trivial ?_
  intro args H
  by_cases hx : ∃ (a0 : List UInt8), args = [.str a0] ∧ H = []
  · obtain ⟨a0, rfl, rfl⟩ := hx
    right; intro K
    exact iff_of_eq (X_r06_odd.eq a0 K).symm
  · left; intro K h
    simp only [e_r06_odd] at h
    split at h
    · exact hx ⟨_, rfl, rfl⟩
    · exact h
noncomputable def e_r06_Null : Entry := ⟨[], false, fun args H K => match args, H with
  | [], [] => r06_Null  (fun y0 y1 y2 y3 => K (EV.agg [EV.bool y0, EV.str y1, EV.str y2, EV.int IntKind.i64 y3]) [])
  | _, _ => False⟩
noncomputable def E_r06_Null : Env := ⟨look tys, look [], look [], gl, lookL [], false⟩
theorem X_r06_Null.eq (K : EV → Heap → Prop) : evFn E_r06_Null Tryd.f53 false [] [] K = r06_Null  (fun y0 y1 y2 y3 => K (EV.agg [EV.bool y0, EV.str y1, EV.str y2, EV.int IntKind.i64 y3]) []) := by
  have h : evFnQ E_r06_Null Tryd.f53 false [] [] K = r06_Null.d  (fun y0 y1 y2 y3 => K (EV.agg [EV.bool y0, EV.str y1, EV.str y2, EV.int IntKind.i64 y3]) []) := by kernel_rfl
  rw [r06_Null.is]; exact (evFnQ_eq _ _ _ _ _ _).symm.trans h
theorem X_r06_Null.ok : SoundE Tryd.prog gl 53 e_r06_Null := by
  refine fnOK (E := E_r06_Null) (fn := Tryd.f53) rfl tys_ok rfl (show AllL _ [] from trivial) mixed (by kernel_rfl) (by kernel_rfl) (by kernel_rfl) 0 (by kernel_rfl) false trivial ?_
  intro args H
  by_cases hx : args = [] ∧ H = []
  · obtain ⟨rfl, rfl⟩ := hx
    right; intro K
    exact iff_of_eq (X_r06_Null.eq  K).symm
  · left; intro K h
    simp only [e_r06_Null] at h
    split at h
    · exact hx ⟨rfl, rfl⟩
    · exact h
noncomputable def e_r05_at : Entry := ⟨[none, none], false, fun args H K => match args, H with
  | [.str a0, .int .i64 a1], [] => r05_at a0 a1 (fun y0 => K (EV.int IntKind.i64 y0) [])
  | _, _ => False⟩
noncomputable def E_r05_at : Env := ⟨look tys, look [], look [], gl, lookL [], false⟩
theorem X_r05_at.eq (a0 : List UInt8) (a1 : Int) (K : EV → Heap → Prop) : evFn E_r05_at Tryd.f93 false [.str a0, .int .i64 a1] [] K = r05_at a0 a1 (fun y0 => K (EV.int IntKind.i64 y0) []) := by
  have h : evFnQ E_r05_at Tryd.f93 false [.str a0, .int .i64 a1] [] K = r05_at.d a0 a1 (fun y0 => K (EV.int IntKind.i64 y0) []) := by kernel_rfl
  rw [r05_at.is]; exact (evFnQ_eq _ _ _ _ _ _).symm.trans h
theorem X_r05_at.ok : SoundE Tryd.prog gl 93 e_r05_at := by
  refine fnOK (E := E_r05_at) (fn := Tryd.f93) rfl tys_ok rfl (show AllL _ [] from trivial) mixed (by kernel_rfl) (by kernel_rfl) (by kernel_rfl) 0 (by kernel_rfl) false trivial ?_
  intro args H
  by_cases hx : ∃ (a0 : List UInt8) (a1 : Int), args = [.str a0, .int .i64 a1] ∧ H = []
  · obtain ⟨a0, a1, rfl, rfl⟩ := hx
    right; intro K
    exact iff_of_eq (X_r05_at.eq a0 a1 K).symm
  · left; intro K h
    simp only [e_r05_at] at h
    split at h
    · exact hx ⟨_, _, rfl, rfl⟩
    · exact h
noncomputable def e_r01_Bit : Entry := ⟨[none, none], false, fun args H K => match args, H with
  | [.int .u64 a0, .int .i64 a1], [] => r01_Bit a0 a1 (fun y0 => K (EV.bool y0) [])
  | _, _ => False⟩
noncomputable def E_r01_Bit : Env := ⟨look tys, look [], look [], gl, lookL [], false⟩
theorem X_r01_Bit.eq (a0 : Int) (a1 : Int) (K : EV → Heap → Prop) : evFn E_r01_Bit Tryd.f111 false [.int .u64 a0, .int .i64 a1] [] K = r01_Bit a0 a1 (fun y0 => K (EV.bool y0) []) := by
  have h : evFnQ E_r01_Bit Tryd.f111 false [.int .u64 a0, .int .i64 a1] [] K = r01_Bit.d a0 a1 (fun y0 => K (EV.bool y0) []) := by kernel_rfl
  rw [r01_Bit.is]; exact (evFnQ_eq _ _ _ _ _ _).symm.trans h
theorem X_r01_Bit.ok : SoundE Tryd.prog gl 111 e_r01_Bit := by
  refine fnOK (E := E_r01_Bit) (fn := Tryd.f111) rfl tys_ok rfl (show AllL _ [] from trivial) mixed (by kernel_rfl) (by kernel_rfl) (by kernel_rfl) 0 (by kernel_rfl) false trivial ?_
  intro args H
  by_cases hx : ∃ (a0 : Int) (a1 : Int), args = [.int .u64 a0, .int .i64 a1] ∧ H = []
  · obtain ⟨a0, a1, rfl, rfl⟩ := hx
    right; intro K
    exact iff_of_eq (X_r01_Bit.eq a0 a1 K).symm
  · left; intro K h
    simp only [e_r01_Bit] at h
    split at h
    · exact hx ⟨_, _, rfl, rfl⟩
    · exact h
noncomputable def e_r01_Low : Entry := ⟨[none], false, fun args H K => match args, H with
  | [.int .u64 a0], [] => r01_Low a0 (fun y0 => K (EV.int IntKind.i64 y0) [])
  | _, _ => False⟩
noncomputable def E_r01_Low : Env := ⟨look tys, look [(111, e_r01_Bit)], look [(2, r01_Low.l2.entry)], gl, lookL [], false⟩
theorem r01_Low.l2X.stepEq (R : List EV → Heap → Prop) (K : Ex → List EV → Heap → Prop) (x0 : Int) (x1 : Int) : loopStep (evCode E_r01_Low (loopAt Tryd.f94 0) { (LV.mk 0 [(0, 0)] 4 0 false) with nx := live (.loop (loopAt Tryd.f94 0)) (LV.mk 0 [(0, 0)] 4 0 false) }) (live (.loop (loopAt Tryd.f94 0)) (LV.mk 0 [(0, 0)] 4 0 false)) (LV.mk 0 [(0, 0)] 4 0 false) 0 12 R [EV.int IntKind.u64 x0, EV.int IntKind.i64 x1] [] K = r01_Low.l2.step (fun x0 x1 => R [EV.int IntKind.u64 x0, EV.int IntKind.i64 x1] []) (fun y0 => K .ret [EV.int IntKind.i64 y0] []) (K (.exit 0) [] []) x0 x1 := (stepQ_eq _ _ _ _ _ _ _ _ _ _ _).symm.trans (by kernel_rfl)
theorem r01_Low.l2X.eq (K : Ex → List EV → Heap → Prop) : ∀ (n : Nat) (x0 : Int) (x1 : Int), loopE E_r01_Low (loopAt Tryd.f94 0) (LV.mk 0 [(0, 0)] 4 0 false) 0 12 K n [EV.int IntKind.u64 x0, EV.int IntKind.i64 x1] [] = r01_Low.l2 (fun y0 => K .ret [EV.int IntKind.i64 y0] []) (K (.exit 0) [] []) n x0 x1
  | 0, _, _ => rfl
  | n + 1, x0, x1 => by
    have ih : (fun (x0 : Int) (x1 : Int) => loopE E_r01_Low (loopAt Tryd.f94 0) (LV.mk 0 [(0, 0)] 4 0 false) 0 12 K n [EV.int IntKind.u64 x0, EV.int IntKind.i64 x1] []) = r01_Low.l2 (fun y0 => K .ret [EV.int IntKind.i64 y0] []) (K (.exit 0) [] []) n := by funext x0 x1; exact r01_Low.l2X.eq K n x0 x1
    show loopStep _ _ _ _ _ (loopE E_r01_Low (loopAt Tryd.f94 0) (LV.mk 0 [(0, 0)] 4 0 false) 0 12 K n) [EV.int IntKind.u64 x0, EV.int IntKind.i64 x1] [] K = r01_Low.l2.step (r01_Low.l2 (fun y0 => K .ret [EV.int IntKind.i64 y0] []) (K (.exit 0) [] []) n) (fun y0 => K .ret [EV.int IntKind.i64 y0] []) (K (.exit 0) [] []) x0 x1
    rw [← ih]
    exact r01_Low.l2X.stepEq _ K x0 x1
theorem r01_Low.l2X.ok : LoopEq E_r01_Low (loopAt Tryd.f94 0) := by
  intro L hL vs H
  have h1 : E_r01_Low.lp (firstRegion (loopAt Tryd.f94 0)) = some r01_Low.l2.entry := by kernel_rfl
  have h2 : L = r01_Low.l2.entry := Option.some.inj (hL.symm.trans h1)
  subst h2
  by_cases hx : ∃ (x0 : Int) (x1 : Int), vs = [EV.int IntKind.u64 x0, EV.int IntKind.i64 x1] ∧ H = []
  · obtain ⟨x0, x1, rfl, rfl⟩ := hx
    right; intro K
    exact exists_congr fun n => iff_of_eq (r01_Low.l2X.eq K n x0 x1).symm
  · left; intro K h
    simp only [r01_Low.l2.entry] at h
    split at h
    · exact hx ⟨_, _, rfl, rfl⟩
    · exact h
theorem X_r01_Low.eq (a0 : Int) (K : EV → Heap → Prop) : evFn E_r01_Low Tryd.f94 false [.int .u64 a0] [] K = r01_Low a0 (fun y0 => K (EV.int IntKind.i64 y0) []) := by
  have h : evFnQ E_r01_Low Tryd.f94 false [.int .u64 a0] [] K = r01_Low.d a0 (fun y0 => K (EV.int IntKind.i64 y0) []) := by kernel_rfl
  rw [r01_Low.is]; exact (evFnQ_eq _ _ _ _ _ _).symm.trans h
theorem X_r01_Low.ok : SoundE Tryd.prog gl 94 e_r01_Low := by
  refine fnOK (E := E_r01_Low) (fn := Tryd.f94) rfl tys_ok rfl (show AllL _ [(111, e_r01_Bit)] from ⟨X_r01_Bit.ok, trivial⟩) mixed (by kernel_rfl) (by kernel_rfl) (by kernel_rfl) 1 (by kernel_rfl) false ⟨r01_Low.l2X.ok, trivial⟩ ?_
  intro args H
  by_cases hx : ∃ (a0 : Int), args = [.int .u64 a0] ∧ H = []
  · obtain ⟨a0, rfl, rfl⟩ := hx
    right; intro K
    exact iff_of_eq (X_r01_Low.eq a0 K).symm
  · left; intro K h
    simp only [e_r01_Low] at h
    split at h
    · exact hx ⟨_, rfl, rfl⟩
    · exact h
noncomputable def e_r05_Low : Entry := ⟨[none], false, fun args H K => match args, H with
  | [.str a0], [] => r05_Low a0 (fun y0 => K (EV.int IntKind.i64 y0) [])
  | _, _ => False⟩
noncomputable def E_r05_Low : Env := ⟨look tys, look [(51, e_r05_May), (93, e_r05_at), (94, e_r01_Low)], look [(4, r05_Low.l4.entry)], gl, lookL [], false⟩
theorem r05_Low.l4X.stepEq (R : List EV → Heap → Prop) (K : Ex → List EV → Heap → Prop) (x0 : List UInt8) (x1 : Int) : loopStep (evCode E_r05_Low (loopAt Tryd.f58 0) { (LV.mk 0 [(0, 0)] 4 0 false) with nx := live (.loop (loopAt Tryd.f58 0)) (LV.mk 0 [(0, 0)] 4 0 false) }) (live (.loop (loopAt Tryd.f58 0)) (LV.mk 0 [(0, 0)] 4 0 false)) (LV.mk 0 [(0, 0)] 4 0 false) 0 25 R [EV.str x0, EV.int IntKind.i64 x1] [] K = r05_Low.l4.step (fun x0 x1 => R [EV.str x0, EV.int IntKind.i64 x1] []) (fun y0 => K .ret [EV.int IntKind.i64 y0] []) (K (.exit 0) [] []) x0 x1 := (stepQ_eq _ _ _ _ _ _ _ _ _ _ _).symm.trans (by kernel_rfl)
theorem r05_Low.l4X.eq (K : Ex → List EV → Heap → Prop) : ∀ (n : Nat) (x0 : List UInt8) (x1 : Int), loopE E_r05_Low (loopAt Tryd.f58 0) (LV.mk 0 [(0, 0)] 4 0 false) 0 25 K n [EV.str x0, EV.int IntKind.i64 x1] [] = r05_Low.l4 (fun y0 => K .ret [EV.int IntKind.i64 y0] []) (K (.exit 0) [] []) n x0 x1
  | 0, _, _ => rfl
  | n + 1, x0, x1 => by
    have ih : (fun (x0 : List UInt8) (x1 : Int) => loopE E_r05_Low (loopAt Tryd.f58 0) (LV.mk 0 [(0, 0)] 4 0 false) 0 25 K n [EV.str x0, EV.int IntKind.i64 x1] []) = r05_Low.l4 (fun y0 => K .ret [EV.int IntKind.i64 y0] []) (K (.exit 0) [] []) n := by funext x0 x1; exact r05_Low.l4X.eq K n x0 x1
    show loopStep _ _ _ _ _ (loopE E_r05_Low (loopAt Tryd.f58 0) (LV.mk 0 [(0, 0)] 4 0 false) 0 25 K n) [EV.str x0, EV.int IntKind.i64 x1] [] K = r05_Low.l4.step (r05_Low.l4 (fun y0 => K .ret [EV.int IntKind.i64 y0] []) (K (.exit 0) [] []) n) (fun y0 => K .ret [EV.int IntKind.i64 y0] []) (K (.exit 0) [] []) x0 x1
    rw [← ih]
    exact r05_Low.l4X.stepEq _ K x0 x1
theorem r05_Low.l4X.ok : LoopEq E_r05_Low (loopAt Tryd.f58 0) := by
  intro L hL vs H
  have h1 : E_r05_Low.lp (firstRegion (loopAt Tryd.f58 0)) = some r05_Low.l4.entry := by kernel_rfl
  have h2 : L = r05_Low.l4.entry := Option.some.inj (hL.symm.trans h1)
  subst h2
  by_cases hx : ∃ (x0 : List UInt8) (x1 : Int), vs = [EV.str x0, EV.int IntKind.i64 x1] ∧ H = []
  · obtain ⟨x0, x1, rfl, rfl⟩ := hx
    right; intro K
    exact exists_congr fun n => iff_of_eq (r05_Low.l4X.eq K n x0 x1).symm
  · left; intro K h
    simp only [r05_Low.l4.entry] at h
    split at h
    · exact hx ⟨_, _, rfl, rfl⟩
    · exact h
theorem X_r05_Low.eq (a0 : List UInt8) (K : EV → Heap → Prop) : evFn E_r05_Low Tryd.f58 false [.str a0] [] K = r05_Low a0 (fun y0 => K (EV.int IntKind.i64 y0) []) := by
  have h : evFnQ E_r05_Low Tryd.f58 false [.str a0] [] K = r05_Low.d a0 (fun y0 => K (EV.int IntKind.i64 y0) []) := by kernel_rfl
  rw [r05_Low.is]; exact (evFnQ_eq _ _ _ _ _ _).symm.trans h
theorem X_r05_Low.ok : SoundE Tryd.prog gl 58 e_r05_Low := by
  refine fnOK (E := E_r05_Low) (fn := Tryd.f58) rfl tys_ok rfl (show AllL _ [(51, e_r05_May), (93, e_r05_at), (94, e_r01_Low)] from ⟨X_r05_May.ok, X_r05_at.ok, X_r01_Low.ok, trivial⟩) mixed (by kernel_rfl) (by kernel_rfl) (by kernel_rfl) 1 (by kernel_rfl) false ⟨r05_Low.l4X.ok, trivial⟩ ?_
  intro args H
  by_cases hx : ∃ (a0 : List UInt8), args = [.str a0] ∧ H = []
  · obtain ⟨a0, rfl, rfl⟩ := hx
    right; intro K
    exact iff_of_eq (X_r05_Low.eq a0 K).symm
  · left; intro K h
    simp only [e_r05_Low] at h
    split at h
    · exact hx ⟨_, rfl, rfl⟩
    · exact h
noncomputable def e_r05_fit : Entry := ⟨[some .u8], false, fun args H K => match args, H with
  | [.rsI .u8 a0n a0], [] => r05_fit a0n a0 (fun y0 => K (EV.str y0) [])
  | _, _ => False⟩
noncomputable def E_r05_fit : Env := ⟨look tys, look [], look [(2, r05_fit.l2.entry), (6, r05_fit.l6.entry)], gl, lookL [], false⟩
theorem r05_fit.l2X.stepEq (R : List EV → Heap → Prop) (K : Ex → List EV → Heap → Prop) (x0 : Nat) (x1 : Nat → Int) (x2 : Int) : loopStep (evCode E_r05_fit (loopAt Tryd.f95 0) { (LV.mk 9 [(0, 9)] 4 0 false) with nx := live (.loop (loopAt Tryd.f95 0)) (LV.mk 9 [(0, 9)] 4 0 false) }) (live (.loop (loopAt Tryd.f95 0)) (LV.mk 9 [(0, 9)] 4 0 false)) (LV.mk 9 [(0, 9)] 4 0 false) 0 39 R [EV.rsI IntKind.u8 x0 x1, EV.int IntKind.i64 x2] [] K = r05_fit.l2.step (fun x0 x1 x2 => R [EV.rsI IntKind.u8 x0 x1, EV.int IntKind.i64 x2] []) (fun y0 y1 y2 => K (.exit 0) [EV.rsI IntKind.u8 y0 y1, EV.int IntKind.i64 y2] []) x0 x1 x2 := (stepQ_eq _ _ _ _ _ _ _ _ _ _ _).symm.trans (by kernel_rfl)
theorem r05_fit.l2X.eq (K : Ex → List EV → Heap → Prop) : ∀ (n : Nat) (x0 : Nat) (x1 : Nat → Int) (x2 : Int), loopE E_r05_fit (loopAt Tryd.f95 0) (LV.mk 9 [(0, 9)] 4 0 false) 0 39 K n [EV.rsI IntKind.u8 x0 x1, EV.int IntKind.i64 x2] [] = r05_fit.l2 (fun y0 y1 y2 => K (.exit 0) [EV.rsI IntKind.u8 y0 y1, EV.int IntKind.i64 y2] []) n x0 x1 x2
  | 0, _, _, _ => rfl
  | n + 1, x0, x1, x2 => by
    have ih : (fun (x0 : Nat) (x1 : Nat → Int) (x2 : Int) => loopE E_r05_fit (loopAt Tryd.f95 0) (LV.mk 9 [(0, 9)] 4 0 false) 0 39 K n [EV.rsI IntKind.u8 x0 x1, EV.int IntKind.i64 x2] []) = r05_fit.l2 (fun y0 y1 y2 => K (.exit 0) [EV.rsI IntKind.u8 y0 y1, EV.int IntKind.i64 y2] []) n := by funext x0 x1 x2; exact r05_fit.l2X.eq K n x0 x1 x2
    show loopStep _ _ _ _ _ (loopE E_r05_fit (loopAt Tryd.f95 0) (LV.mk 9 [(0, 9)] 4 0 false) 0 39 K n) [EV.rsI IntKind.u8 x0 x1, EV.int IntKind.i64 x2] [] K = r05_fit.l2.step (r05_fit.l2 (fun y0 y1 y2 => K (.exit 0) [EV.rsI IntKind.u8 y0 y1, EV.int IntKind.i64 y2] []) n) (fun y0 y1 y2 => K (.exit 0) [EV.rsI IntKind.u8 y0 y1, EV.int IntKind.i64 y2] []) x0 x1 x2
    rw [← ih]
    exact r05_fit.l2X.stepEq _ K x0 x1 x2
theorem r05_fit.l2X.ok : LoopEq E_r05_fit (loopAt Tryd.f95 0) := by
  intro L hL vs H
  have h1 : E_r05_fit.lp (firstRegion (loopAt Tryd.f95 0)) = some r05_fit.l2.entry := by kernel_rfl
  have h2 : L = r05_fit.l2.entry := Option.some.inj (hL.symm.trans h1)
  subst h2
  by_cases hx : ∃ (x0 : Nat) (x1 : Nat → Int) (x2 : Int), vs = [EV.rsI IntKind.u8 x0 x1, EV.int IntKind.i64 x2] ∧ H = []
  · obtain ⟨x0, x1, x2, rfl, rfl⟩ := hx
    right; intro K
    exact exists_congr fun n => iff_of_eq (r05_fit.l2X.eq K n x0 x1 x2).symm
  · left; intro K h
    simp only [r05_fit.l2.entry] at h
    split at h
    · exact hx ⟨_, _, _, rfl, rfl⟩
    · exact h
theorem r05_fit.l6X.stepEq (R : List EV → Heap → Prop) (K : Ex → List EV → Heap → Prop) (x0 : Nat) (x1 : Nat → Int) (x2 : Int) (x3 : Nat) (x4 : Nat) (x5 : Int) (x6 : Nat) (x7 : Nat → Int) : loopStep (evCode E_r05_fit (loopAt Tryd.f95 1) { (LV.mk 16 [(2, 16)] 4 0 false) with nx := live (.loop (loopAt Tryd.f95 1)) (LV.mk 16 [(2, 16)] 4 0 false) }) (live (.loop (loopAt Tryd.f95 1)) (LV.mk 16 [(2, 16)] 4 0 false)) (LV.mk 16 [(2, 16)] 4 0 false) 0 39 R [EV.rsI IntKind.u8 x0 x1, EV.int IntKind.i64 x2, EV.slice 0 0 x3 (some x4) 1, EV.int IntKind.i64 x5] [some (EV.arr IntKind.u8 x6 x7)] K = r05_fit.l6.step (fun x0 x1 x2 x3 x4 x5 x6 x7 => R [EV.rsI IntKind.u8 x0 x1, EV.int IntKind.i64 x2, EV.slice 0 0 x3 (some x4) 1, EV.int IntKind.i64 x5] [some (EV.arr IntKind.u8 x6 x7)]) (fun y0 y1 y2 y3 => K (.exit 2) [EV.slice 0 0 y0 (some y1) 1] [some (EV.arr IntKind.u8 y2 y3)]) x0 x1 x2 x3 x4 x5 x6 x7 := (stepQ_eq _ _ _ _ _ _ _ _ _ _ _).symm.trans (by kernel_rfl)
theorem r05_fit.l6X.eq (K : Ex → List EV → Heap → Prop) : ∀ (n : Nat) (x0 : Nat) (x1 : Nat → Int) (x2 : Int) (x3 : Nat) (x4 : Nat) (x5 : Int) (x6 : Nat) (x7 : Nat → Int), loopE E_r05_fit (loopAt Tryd.f95 1) (LV.mk 16 [(2, 16)] 4 0 false) 0 39 K n [EV.rsI IntKind.u8 x0 x1, EV.int IntKind.i64 x2, EV.slice 0 0 x3 (some x4) 1, EV.int IntKind.i64 x5] [some (EV.arr IntKind.u8 x6 x7)] = r05_fit.l6 (fun y0 y1 y2 y3 => K (.exit 2) [EV.slice 0 0 y0 (some y1) 1] [some (EV.arr IntKind.u8 y2 y3)]) n x0 x1 x2 x3 x4 x5 x6 x7
  | 0, _, _, _, _, _, _, _, _ => rfl
  | n + 1, x0, x1, x2, x3, x4, x5, x6, x7 => by
    have ih : (fun (x0 : Nat) (x1 : Nat → Int) (x2 : Int) (x3 : Nat) (x4 : Nat) (x5 : Int) (x6 : Nat) (x7 : Nat → Int) => loopE E_r05_fit (loopAt Tryd.f95 1) (LV.mk 16 [(2, 16)] 4 0 false) 0 39 K n [EV.rsI IntKind.u8 x0 x1, EV.int IntKind.i64 x2, EV.slice 0 0 x3 (some x4) 1, EV.int IntKind.i64 x5] [some (EV.arr IntKind.u8 x6 x7)]) = r05_fit.l6 (fun y0 y1 y2 y3 => K (.exit 2) [EV.slice 0 0 y0 (some y1) 1] [some (EV.arr IntKind.u8 y2 y3)]) n := by funext x0 x1 x2 x3 x4 x5 x6 x7; exact r05_fit.l6X.eq K n x0 x1 x2 x3 x4 x5 x6 x7
    show loopStep _ _ _ _ _ (loopE E_r05_fit (loopAt Tryd.f95 1) (LV.mk 16 [(2, 16)] 4 0 false) 0 39 K n) [EV.rsI IntKind.u8 x0 x1, EV.int IntKind.i64 x2, EV.slice 0 0 x3 (some x4) 1, EV.int IntKind.i64 x5] [some (EV.arr IntKind.u8 x6 x7)] K = r05_fit.l6.step (r05_fit.l6 (fun y0 y1 y2 y3 => K (.exit 2) [EV.slice 0 0 y0 (some y1) 1] [some (EV.arr IntKind.u8 y2 y3)]) n) (fun y0 y1 y2 y3 => K (.exit 2) [EV.slice 0 0 y0 (some y1) 1] [some (EV.arr IntKind.u8 y2 y3)]) x0 x1 x2 x3 x4 x5 x6 x7
    rw [← ih]
    exact r05_fit.l6X.stepEq _ K x0 x1 x2 x3 x4 x5 x6 x7
theorem r05_fit.l6X.ok : LoopEq E_r05_fit (loopAt Tryd.f95 1) := by
  intro L hL vs H
  have h1 : E_r05_fit.lp (firstRegion (loopAt Tryd.f95 1)) = some r05_fit.l6.entry := by kernel_rfl
  have h2 : L = r05_fit.l6.entry := Option.some.inj (hL.symm.trans h1)
  subst h2
  by_cases hx : ∃ (x0 : Nat) (x1 : Nat → Int) (x2 : Int) (x3 : Nat) (x4 : Nat) (x5 : Int) (x6 : Nat) (x7 : Nat → Int), vs = [EV.rsI IntKind.u8 x0 x1, EV.int IntKind.i64 x2, EV.slice 0 0 x3 (some x4) 1, EV.int IntKind.i64 x5] ∧ H = [some (EV.arr IntKind.u8 x6 x7)]
  · obtain ⟨x0, x1, x2, x3, x4, x5, x6, x7, rfl, rfl⟩ := hx
    right; intro K
    exact exists_congr fun n => iff_of_eq (r05_fit.l6X.eq K n x0 x1 x2 x3 x4 x5 x6 x7).symm
  · left; intro K h
    simp only [r05_fit.l6.entry] at h
    split at h
    · exact hx ⟨_, _, _, _, _, _, _, _, rfl, rfl⟩
    · exact h
theorem X_r05_fit.eq (a0n : Nat) (a0 : Nat → Int) (K : EV → Heap → Prop) : evFn E_r05_fit Tryd.f95 false [.rsI .u8 a0n a0] [] K = r05_fit a0n a0 (fun y0 => K (EV.str y0) []) := by
  have h : evFnQ E_r05_fit Tryd.f95 false [.rsI .u8 a0n a0] [] K = r05_fit.d a0n a0 (fun y0 => K (EV.str y0) []) := by kernel_rfl
  rw [r05_fit.is]; exact (evFnQ_eq _ _ _ _ _ _).symm.trans h
theorem X_r05_fit.ok : SoundE Tryd.prog gl 95 e_r05_fit := by
  refine fnOK (E := E_r05_fit) (fn := Tryd.f95) rfl tys_ok rfl (show AllL _ [] from trivial) mixed (by kernel_rfl) (by kernel_rfl) (by kernel_rfl) 2 (by kernel_rfl) false ⟨r05_fit.l2X.ok, r05_fit.l6X.ok, trivial⟩ ?_
  intro args H
  by_cases hx : ∃ (a0n : Nat) (a0 : Nat → Int), args = [.rsI .u8 a0n a0] ∧ H = []
  · obtain ⟨a0n, a0, rfl, rfl⟩ := hx
    right; intro K
    exact iff_of_eq (X_r05_fit.eq a0n a0 K).symm
  · left; intro K h
    simp only [e_r05_fit] at h
    split at h
    · exact hx ⟨_, _, rfl, rfl⟩
    · exact h
noncomputable def e_r05_Right : Entry := ⟨[none, none], false, fun args H K => match args, H with
  | [.str a0, .int .i64 a1], [] => r05_Right a0 a1 (fun y0 y1 y2 => K (EV.tuple [EV.str y0, EV.bool y1, EV.int IntKind.i64 y2]) [])
  | _, _ => False⟩
noncomputable def E_r05_Right : Env := ⟨look tys, look [(58, e_r05_Low), (93, e_r05_at), (95, e_r05_fit)], look [(11, r05_Right.l11.entry)], gl, lookL [], false⟩
theorem r05_Right.l11X.stepEq (R : List EV → Heap → Prop) (K : Ex → List EV → Heap → Prop) (x0 : List UInt8) (x1 : Int) (x2 : Bool) (x3 : Int) (x4 : Nat) (x5 : Nat) (x6 : Int) (x7 : Nat) (x8 : Nat → Int) : loopStep (evCode E_r05_Right (loopAt Tryd.f59 0) { (LV.mk 640 [(0, 640)] 112 0 false) with nx := live (.loop (loopAt Tryd.f59 0)) (LV.mk 640 [(0, 640)] 112 0 false) }) (live (.loop (loopAt Tryd.f59 0)) (LV.mk 640 [(0, 640)] 112 0 false)) (LV.mk 640 [(0, 640)] 112 0 false) 0 65 R [EV.str x0, EV.int IntKind.i64 x1, EV.bool x2, EV.int IntKind.i64 x3, EV.slice 0 0 x4 (some x5) 1, EV.int IntKind.i64 x6] [some (EV.arr IntKind.u8 x7 x8)] K = r05_Right.l11.step (fun x0 x1 x2 x3 x4 x5 x6 x7 x8 => R [EV.str x0, EV.int IntKind.i64 x1, EV.bool x2, EV.int IntKind.i64 x3, EV.slice 0 0 x4 (some x5) 1, EV.int IntKind.i64 x6] [some (EV.arr IntKind.u8 x7 x8)]) (fun y0 y1 y2 y3 y4 => K (.exit 0) [EV.bool y0, EV.slice 0 0 y1 (some y2) 1] [some (EV.arr IntKind.u8 y3 y4)]) x0 x1 x2 x3 x4 x5 x6 x7 x8 := (stepQ_eq _ _ _ _ _ _ _ _ _ _ _).symm.trans (by kernel_rfl)
theorem r05_Right.l11X.eq (K : Ex → List EV → Heap → Prop) : ∀ (n : Nat) (x0 : List UInt8) (x1 : Int) (x2 : Bool) (x3 : Int) (x4 : Nat) (x5 : Nat) (x6 : Int) (x7 : Nat) (x8 : Nat → Int), loopE E_r05_Right (loopAt Tryd.f59 0) (LV.mk 640 [(0, 640)] 112 0 false) 0 65 K n [EV.str x0, EV.int IntKind.i64 x1, EV.bool x2, EV.int IntKind.i64 x3, EV.slice 0 0 x4 (some x5) 1, EV.int IntKind.i64 x6] [some (EV.arr IntKind.u8 x7 x8)] = r05_Right.l11 (fun y0 y1 y2 y3 y4 => K (.exit 0) [EV.bool y0, EV.slice 0 0 y1 (some y2) 1] [some (EV.arr IntKind.u8 y3 y4)]) n x0 x1 x2 x3 x4 x5 x6 x7 x8
  | 0, _, _, _, _, _, _, _, _, _ => rfl
  | n + 1, x0, x1, x2, x3, x4, x5, x6, x7, x8 => by
    have ih : (fun (x0 : List UInt8) (x1 : Int) (x2 : Bool) (x3 : Int) (x4 : Nat) (x5 : Nat) (x6 : Int) (x7 : Nat) (x8 : Nat → Int) => loopE E_r05_Right (loopAt Tryd.f59 0) (LV.mk 640 [(0, 640)] 112 0 false) 0 65 K n [EV.str x0, EV.int IntKind.i64 x1, EV.bool x2, EV.int IntKind.i64 x3, EV.slice 0 0 x4 (some x5) 1, EV.int IntKind.i64 x6] [some (EV.arr IntKind.u8 x7 x8)]) = r05_Right.l11 (fun y0 y1 y2 y3 y4 => K (.exit 0) [EV.bool y0, EV.slice 0 0 y1 (some y2) 1] [some (EV.arr IntKind.u8 y3 y4)]) n := by funext x0 x1 x2 x3 x4 x5 x6 x7 x8; exact r05_Right.l11X.eq K n x0 x1 x2 x3 x4 x5 x6 x7 x8
    show loopStep _ _ _ _ _ (loopE E_r05_Right (loopAt Tryd.f59 0) (LV.mk 640 [(0, 640)] 112 0 false) 0 65 K n) [EV.str x0, EV.int IntKind.i64 x1, EV.bool x2, EV.int IntKind.i64 x3, EV.slice 0 0 x4 (some x5) 1, EV.int IntKind.i64 x6] [some (EV.arr IntKind.u8 x7 x8)] K = r05_Right.l11.step (r05_Right.l11 (fun y0 y1 y2 y3 y4 => K (.exit 0) [EV.bool y0, EV.slice 0 0 y1 (some y2) 1] [some (EV.arr IntKind.u8 y3 y4)]) n) (fun y0 y1 y2 y3 y4 => K (.exit 0) [EV.bool y0, EV.slice 0 0 y1 (some y2) 1] [some (EV.arr IntKind.u8 y3 y4)]) x0 x1 x2 x3 x4 x5 x6 x7 x8
    rw [← ih]
    exact r05_Right.l11X.stepEq _ K x0 x1 x2 x3 x4 x5 x6 x7 x8
theorem r05_Right.l11X.ok : LoopEq E_r05_Right (loopAt Tryd.f59 0) := by
  intro L hL vs H
  have h1 : E_r05_Right.lp (firstRegion (loopAt Tryd.f59 0)) = some r05_Right.l11.entry := by kernel_rfl
  have h2 : L = r05_Right.l11.entry := Option.some.inj (hL.symm.trans h1)
  subst h2
  by_cases hx : ∃ (x0 : List UInt8) (x1 : Int) (x2 : Bool) (x3 : Int) (x4 : Nat) (x5 : Nat) (x6 : Int) (x7 : Nat) (x8 : Nat → Int), vs = [EV.str x0, EV.int IntKind.i64 x1, EV.bool x2, EV.int IntKind.i64 x3, EV.slice 0 0 x4 (some x5) 1, EV.int IntKind.i64 x6] ∧ H = [some (EV.arr IntKind.u8 x7 x8)]
  · obtain ⟨x0, x1, x2, x3, x4, x5, x6, x7, x8, rfl, rfl⟩ := hx
    right; intro K
    exact exists_congr fun n => iff_of_eq (r05_Right.l11X.eq K n x0 x1 x2 x3 x4 x5 x6 x7 x8).symm
  · left; intro K h
    simp only [r05_Right.l11.entry] at h
    split at h
    · exact hx ⟨_, _, _, _, _, _, _, _, _, rfl, rfl⟩
    · exact h
theorem X_r05_Right.eq (a0 : List UInt8) (a1 : Int) (K : EV → Heap → Prop) : evFn E_r05_Right Tryd.f59 false [.str a0, .int .i64 a1] [] K = r05_Right a0 a1 (fun y0 y1 y2 => K (EV.tuple [EV.str y0, EV.bool y1, EV.int IntKind.i64 y2]) []) := by
  have h : evFnQ E_r05_Right Tryd.f59 false [.str a0, .int .i64 a1] [] K = r05_Right.d a0 a1 (fun y0 y1 y2 => K (EV.tuple [EV.str y0, EV.bool y1, EV.int IntKind.i64 y2]) []) := by kernel_rfl
  rw [r05_Right.is]; exact (evFnQ_eq _ _ _ _ _ _).symm.trans h
theorem X_r05_Right.ok : SoundE Tryd.prog gl 59 e_r05_Right := by
  refine fnOK (E := E_r05_Right) (fn := Tryd.f59) rfl tys_ok rfl (show AllL _ [(58, e_r05_Low), (93, e_r05_at), (95, e_r05_fit)] from ⟨X_r05_Low.ok, X_r05_at.ok, X_r05_fit.ok, trivial⟩) mixed (by kernel_rfl) (by kernel_rfl) (by kernel_rfl) 1 (by kernel_rfl) false ⟨r05_Right.l11X.ok, trivial⟩ ?_
  intro args H
  by_cases hx : ∃ (a0 : List UInt8) (a1 : Int), args = [.str a0, .int .i64 a1] ∧ H = []
  · obtain ⟨a0, a1, rfl, rfl⟩ := hx
    right; intro K
    exact iff_of_eq (X_r05_Right.eq a0 a1 K).symm
  · left; intro K h
    simp only [e_r05_Right] at h
    split at h
    · exact hx ⟨_, _, rfl, rfl⟩
    · exact h
noncomputable def e_r01_Len : Entry := ⟨[none], false, fun args H K => match args, H with
  | [.int .u64 a0], [] => r01_Len a0 (fun y0 => K (EV.int IntKind.i64 y0) [])
  | _, _ => False⟩
noncomputable def E_r01_Len : Env := ⟨look tys, look [(111, e_r01_Bit)], look [(3, r01_Len.l3.entry)], gl, lookL [], false⟩
theorem r01_Len.l3X.stepEq (R : List EV → Heap → Prop) (K : Ex → List EV → Heap → Prop) (x0 : Int) (x1 : Int) (x2 : Int) : loopStep (evCode E_r01_Len (loopAt Tryd.f102 0) { (LV.mk 8 [(0, 8)] 4 0 false) with nx := live (.loop (loopAt Tryd.f102 0)) (LV.mk 8 [(0, 8)] 4 0 false) }) (live (.loop (loopAt Tryd.f102 0)) (LV.mk 8 [(0, 8)] 4 0 false)) (LV.mk 8 [(0, 8)] 4 0 false) 0 15 R [EV.int IntKind.u64 x0, EV.int IntKind.i64 x1, EV.int IntKind.i64 x2] [] K = r01_Len.l3.step (fun x0 x1 x2 => R [EV.int IntKind.u64 x0, EV.int IntKind.i64 x1, EV.int IntKind.i64 x2] []) (fun y0 => K (.exit 0) [EV.int IntKind.i64 y0] []) x0 x1 x2 := (stepQ_eq _ _ _ _ _ _ _ _ _ _ _).symm.trans (by kernel_rfl)
theorem r01_Len.l3X.eq (K : Ex → List EV → Heap → Prop) : ∀ (n : Nat) (x0 : Int) (x1 : Int) (x2 : Int), loopE E_r01_Len (loopAt Tryd.f102 0) (LV.mk 8 [(0, 8)] 4 0 false) 0 15 K n [EV.int IntKind.u64 x0, EV.int IntKind.i64 x1, EV.int IntKind.i64 x2] [] = r01_Len.l3 (fun y0 => K (.exit 0) [EV.int IntKind.i64 y0] []) n x0 x1 x2
  | 0, _, _, _ => rfl
  | n + 1, x0, x1, x2 => by
    have ih : (fun (x0 : Int) (x1 : Int) (x2 : Int) => loopE E_r01_Len (loopAt Tryd.f102 0) (LV.mk 8 [(0, 8)] 4 0 false) 0 15 K n [EV.int IntKind.u64 x0, EV.int IntKind.i64 x1, EV.int IntKind.i64 x2] []) = r01_Len.l3 (fun y0 => K (.exit 0) [EV.int IntKind.i64 y0] []) n := by funext x0 x1 x2; exact r01_Len.l3X.eq K n x0 x1 x2
    show loopStep _ _ _ _ _ (loopE E_r01_Len (loopAt Tryd.f102 0) (LV.mk 8 [(0, 8)] 4 0 false) 0 15 K n) [EV.int IntKind.u64 x0, EV.int IntKind.i64 x1, EV.int IntKind.i64 x2] [] K = r01_Len.l3.step (r01_Len.l3 (fun y0 => K (.exit 0) [EV.int IntKind.i64 y0] []) n) (fun y0 => K (.exit 0) [EV.int IntKind.i64 y0] []) x0 x1 x2
    rw [← ih]
    exact r01_Len.l3X.stepEq _ K x0 x1 x2
theorem r01_Len.l3X.ok : LoopEq E_r01_Len (loopAt Tryd.f102 0) := by
  intro L hL vs H
  have h1 : E_r01_Len.lp (firstRegion (loopAt Tryd.f102 0)) = some r01_Len.l3.entry := by kernel_rfl
  have h2 : L = r01_Len.l3.entry := Option.some.inj (hL.symm.trans h1)
  subst h2
  by_cases hx : ∃ (x0 : Int) (x1 : Int) (x2 : Int), vs = [EV.int IntKind.u64 x0, EV.int IntKind.i64 x1, EV.int IntKind.i64 x2] ∧ H = []
  · obtain ⟨x0, x1, x2, rfl, rfl⟩ := hx
    right; intro K
    exact exists_congr fun n => iff_of_eq (r01_Len.l3X.eq K n x0 x1 x2).symm
  · left; intro K h
    simp only [r01_Len.l3.entry] at h
    split at h
    · exact hx ⟨_, _, _, rfl, rfl⟩
    · exact h
theorem X_r01_Len.eq (a0 : Int) (K : EV → Heap → Prop) : evFn E_r01_Len Tryd.f102 false [.int .u64 a0] [] K = r01_Len a0 (fun y0 => K (EV.int IntKind.i64 y0) []) := by
  have h : evFnQ E_r01_Len Tryd.f102 false [.int .u64 a0] [] K = r01_Len.d a0 (fun y0 => K (EV.int IntKind.i64 y0) []) := by kernel_rfl
  rw [r01_Len.is]; exact (evFnQ_eq _ _ _ _ _ _).symm.trans h
theorem X_r01_Len.ok : SoundE Tryd.prog gl 102 e_r01_Len := by
  refine fnOK (E := E_r01_Len) (fn := Tryd.f102) rfl tys_ok rfl (show AllL _ [(111, e_r01_Bit)] from ⟨X_r01_Bit.ok, trivial⟩) mixed (by kernel_rfl) (by kernel_rfl) (by kernel_rfl) 1 (by kernel_rfl) false ⟨r01_Len.l3X.ok, trivial⟩ ?_
  intro args H
  by_cases hx : ∃ (a0 : Int), args = [.int .u64 a0] ∧ H = []
  · obtain ⟨a0, rfl, rfl⟩ := hx
    right; intro K
    exact iff_of_eq (X_r01_Len.eq a0 K).symm
  · left; intro K h
    simp only [e_r01_Len] at h
    split at h
    · exact hx ⟨_, rfl, rfl⟩
    · exact h
noncomputable def e_r05_Len : Entry := ⟨[none], false, fun args H K => match args, H with
  | [.str a0], [] => r05_Len a0 (fun y0 => K (EV.int IntKind.i64 y0) [])
  | _, _ => False⟩
noncomputable def E_r05_Len : Env := ⟨look tys, look [(51, e_r05_May), (102, e_r01_Len)], look [], gl, lookL [], false⟩
theorem X_r05_Len.eq (a0 : List UInt8) (K : EV → Heap → Prop) : evFn E_r05_Len Tryd.f68 false [.str a0] [] K = r05_Len a0 (fun y0 => K (EV.int IntKind.i64 y0) []) := by
  have h : evFnQ E_r05_Len Tryd.f68 false [.str a0] [] K = r05_Len.d a0 (fun y0 => K (EV.int IntKind.i64 y0) []) := by kernel_rfl
  rw [r05_Len.is]; exact (evFnQ_eq _ _ _ _ _ _).symm.trans h
theorem X_r05_Len.ok : SoundE Tryd.prog gl 68 e_r05_Len := by
  refine fnOK (E := E_r05_Len) (fn := Tryd.f68) rfl tys_ok rfl (show AllL _ [(51, e_r05_May), (102, e_r01_Len)] from ⟨X_r05_May.ok, X_r01_Len.ok, trivial⟩) mixed (by kernel_rfl) (by kernel_rfl) (by kernel_rfl) 0 (by kernel_rfl) false trivial ?_
  intro args H
  by_cases hx : ∃ (a0 : List UInt8), args = [.str a0] ∧ H = []
  · obtain ⟨a0, rfl, rfl⟩ := hx
    right; intro K
    exact iff_of_eq (X_r05_Len.eq a0 K).symm
  · left; intro K h
    simp only [e_r05_Len] at h
    split at h
    · exact hx ⟨_, rfl, rfl⟩
    · exact h
noncomputable def e_r05_Cmp : Entry := ⟨[none, none], false, fun args H K => match args, H with
  | [.str a0, .str a1], [] => r05_Cmp a0 a1 (fun y0 => K (EV.int IntKind.i64 y0) [])
  | _, _ => False⟩
noncomputable def E_r05_Cmp : Env := ⟨look tys, look [], look [], gl, lookL [], false⟩
theorem X_r05_Cmp.eq (a0 : List UInt8) (a1 : List UInt8) (K : EV → Heap → Prop) : evFn E_r05_Cmp Tryd.f70 false [.str a0, .str a1] [] K = r05_Cmp a0 a1 (fun y0 => K (EV.int IntKind.i64 y0) []) := by
  have h : evFnQ E_r05_Cmp Tryd.f70 false [.str a0, .str a1] [] K = r05_Cmp.d a0 a1 (fun y0 => K (EV.int IntKind.i64 y0) []) := by kernel_rfl
  rw [r05_Cmp.is]; exact (evFnQ_eq _ _ _ _ _ _).symm.trans h
theorem X_r05_Cmp.ok : SoundE Tryd.prog gl 70 e_r05_Cmp := by
  refine fnOK (E := E_r05_Cmp) (fn := Tryd.f70) rfl tys_ok rfl (show AllL _ [] from trivial) mixed (by kernel_rfl) (by kernel_rfl) (by kernel_rfl) 0 (by kernel_rfl) false trivial ?_
  intro args H
  by_cases hx : ∃ (a0 : List UInt8) (a1 : List UInt8), args = [.str a0, .str a1] ∧ H = []
  · obtain ⟨a0, a1, rfl, rfl⟩ := hx
    right; intro K
    exact iff_of_eq (X_r05_Cmp.eq a0 a1 K).symm
  · left; intro K h
    simp only [e_r05_Cmp] at h
    split at h
    · exact hx ⟨_, _, rfl, rfl⟩
    · exact h
noncomputable def e_r05_double : Entry := ⟨[none, none], false, fun args H K => match args, H with
  | [.str a0, .int .i64 a1], [] => r05_double a0 a1 (fun y0 => K (EV.str y0) [])
  | _, _ => False⟩
noncomputable def E_r05_double : Env := ⟨look tys, look [(93, e_r05_at), (95, e_r05_fit)], look [(4, r05_double.l4.entry)], gl, lookL [], false⟩
theorem r05_double.l4X.stepEq (R : List EV → Heap → Prop) (K : Ex → List EV → Heap → Prop) (x0 : List UInt8) (x1 : Nat) (x2 : Nat) (x3 : Int) (x4 : Int) (x5 : Nat) (x6 : Nat → Int) : loopStep (evCode E_r05_double (loopAt Tryd.f96 0) { (LV.mk 32 [(0, 32)] 16 0 false) with nx := live (.loop (loopAt Tryd.f96 0)) (LV.mk 32 [(0, 32)] 16 0 false) }) (live (.loop (loopAt Tryd.f96 0)) (LV.mk 32 [(0, 32)] 16 0 false)) (LV.mk 32 [(0, 32)] 16 0 false) 0 34 R [EV.str x0, EV.slice 0 0 x1 (some x2) 1, EV.int IntKind.i64 x3, EV.int IntKind.i64 x4] [some (EV.arr IntKind.u8 x5 x6)] K = r05_double.l4.step (fun x0 x1 x2 x3 x4 x5 x6 => R [EV.str x0, EV.slice 0 0 x1 (some x2) 1, EV.int IntKind.i64 x3, EV.int IntKind.i64 x4] [some (EV.arr IntKind.u8 x5 x6)]) (fun y0 y1 y2 y3 => K (.exit 0) [EV.slice 0 0 y0 (some y1) 1] [some (EV.arr IntKind.u8 y2 y3)]) x0 x1 x2 x3 x4 x5 x6 := (stepQ_eq _ _ _ _ _ _ _ _ _ _ _).symm.trans (by kernel_rfl)
theorem r05_double.l4X.eq (K : Ex → List EV → Heap → Prop) : ∀ (n : Nat) (x0 : List UInt8) (x1 : Nat) (x2 : Nat) (x3 : Int) (x4 : Int) (x5 : Nat) (x6 : Nat → Int), loopE E_r05_double (loopAt Tryd.f96 0) (LV.mk 32 [(0, 32)] 16 0 false) 0 34 K n [EV.str x0, EV.slice 0 0 x1 (some x2) 1, EV.int IntKind.i64 x3, EV.int IntKind.i64 x4] [some (EV.arr IntKind.u8 x5 x6)] = r05_double.l4 (fun y0 y1 y2 y3 => K (.exit 0) [EV.slice 0 0 y0 (some y1) 1] [some (EV.arr IntKind.u8 y2 y3)]) n x0 x1 x2 x3 x4 x5 x6
  | 0, _, _, _, _, _, _, _ => rfl
  | n + 1, x0, x1, x2, x3, x4, x5, x6 => by
    have ih : (fun (x0 : List UInt8) (x1 : Nat) (x2 : Nat) (x3 : Int) (x4 : Int) (x5 : Nat) (x6 : Nat → Int) => loopE E_r05_double (loopAt Tryd.f96 0) (LV.mk 32 [(0, 32)] 16 0 false) 0 34 K n [EV.str x0, EV.slice 0 0 x1 (some x2) 1, EV.int IntKind.i64 x3, EV.int IntKind.i64 x4] [some (EV.arr IntKind.u8 x5 x6)]) = r05_double.l4 (fun y0 y1 y2 y3 => K (.exit 0) [EV.slice 0 0 y0 (some y1) 1] [some (EV.arr IntKind.u8 y2 y3)]) n := by funext x0 x1 x2 x3 x4 x5 x6; exact r05_double.l4X.eq K n x0 x1 x2 x3 x4 x5 x6
    show loopStep _ _ _ _ _ (loopE E_r05_double (loopAt Tryd.f96 0) (LV.mk 32 [(0, 32)] 16 0 false) 0 34 K n) [EV.str x0, EV.slice 0 0 x1 (some x2) 1, EV.int IntKind.i64 x3, EV.int IntKind.i64 x4] [some (EV.arr IntKind.u8 x5 x6)] K = r05_double.l4.step (r05_double.l4 (fun y0 y1 y2 y3 => K (.exit 0) [EV.slice 0 0 y0 (some y1) 1] [some (EV.arr IntKind.u8 y2 y3)]) n) (fun y0 y1 y2 y3 => K (.exit 0) [EV.slice 0 0 y0 (some y1) 1] [some (EV.arr IntKind.u8 y2 y3)]) x0 x1 x2 x3 x4 x5 x6
    rw [← ih]
    exact r05_double.l4X.stepEq _ K x0 x1 x2 x3 x4 x5 x6
theorem r05_double.l4X.ok : LoopEq E_r05_double (loopAt Tryd.f96 0) := by
  intro L hL vs H
  have h1 : E_r05_double.lp (firstRegion (loopAt Tryd.f96 0)) = some r05_double.l4.entry := by kernel_rfl
  have h2 : L = r05_double.l4.entry := Option.some.inj (hL.symm.trans h1)
  subst h2
  by_cases hx : ∃ (x0 : List UInt8) (x1 : Nat) (x2 : Nat) (x3 : Int) (x4 : Int) (x5 : Nat) (x6 : Nat → Int), vs = [EV.str x0, EV.slice 0 0 x1 (some x2) 1, EV.int IntKind.i64 x3, EV.int IntKind.i64 x4] ∧ H = [some (EV.arr IntKind.u8 x5 x6)]
  · obtain ⟨x0, x1, x2, x3, x4, x5, x6, rfl, rfl⟩ := hx
    right; intro K
    exact exists_congr fun n => iff_of_eq (r05_double.l4X.eq K n x0 x1 x2 x3 x4 x5 x6).symm
  · left; intro K h
    simp only [r05_double.l4.entry] at h
    split at h
    · exact hx ⟨_, _, _, _, _, _, _, rfl, rfl⟩
    · exact h
theorem X_r05_double.eq (a0 : List UInt8) (a1 : Int) (K : EV → Heap → Prop) : evFn E_r05_double Tryd.f96 false [.str a0, .int .i64 a1] [] K = r05_double a0 a1 (fun y0 => K (EV.str y0) []) := by
  have h : evFnQ E_r05_double Tryd.f96 false [.str a0, .int .i64 a1] [] K = r05_double.d a0 a1 (fun y0 => K (EV.str y0) []) := by kernel_rfl
  rw [r05_double.is]; exact (evFnQ_eq _ _ _ _ _ _).symm.trans h
theorem X_r05_double.ok : SoundE Tryd.prog gl 96 e_r05_double := by
  refine fnOK (E := E_r05_double) (fn := Tryd.f96) rfl tys_ok rfl (show AllL _ [(93, e_r05_at), (95, e_r05_fit)] from ⟨X_r05_at.ok, X_r05_fit.ok, trivial⟩) mixed (by kernel_rfl) (by kernel_rfl) (by kernel_rfl) 1 (by kernel_rfl) false ⟨r05_double.l4X.ok, trivial⟩ ?_
  intro args H
  by_cases hx : ∃ (a0 : List UInt8) (a1 : Int), args = [.str a0, .int .i64 a1] ∧ H = []
  · obtain ⟨a0, a1, rfl, rfl⟩ := hx
    right; intro K
    exact iff_of_eq (X_r05_double.eq a0 a1 K).symm
  · left; intro K h
    simp only [e_r05_double] at h
    split at h
    · exact hx ⟨_, _, rfl, rfl⟩
    · exact h
noncomputable def e_r05_bit : Entry := ⟨[none, none], false, fun args H K => match args, H with
  | [.str a0, .int .i64 a1], [] => r05_bit a0 a1 (fun y0 => K (EV.int IntKind.i64 y0) [])
  | _, _ => False⟩
noncomputable def E_r05_bit : Env := ⟨look tys, look [(93, e_r05_at)], look [], gl, lookL [], false⟩
theorem X_r05_bit.eq (a0 : List UInt8) (a1 : Int) (K : EV → Heap → Prop) : evFn E_r05_bit Tryd.f97 false [.str a0, .int .i64 a1] [] K = r05_bit a0 a1 (fun y0 => K (EV.int IntKind.i64 y0) []) := by
  have h : evFnQ E_r05_bit Tryd.f97 false [.str a0, .int .i64 a1] [] K = r05_bit.d a0 a1 (fun y0 => K (EV.int IntKind.i64 y0) []) := by kernel_rfl
  rw [r05_bit.is]; exact (evFnQ_eq _ _ _ _ _ _).symm.trans h
theorem X_r05_bit.ok : SoundE Tryd.prog gl 97 e_r05_bit := by
  refine fnOK (E := E_r05_bit) (fn := Tryd.f97) rfl tys_ok rfl (show AllL _ [(93, e_r05_at)] from ⟨X_r05_at.ok, trivial⟩) mixed (by kernel_rfl) (by kernel_rfl) (by kernel_rfl) 0 (by kernel_rfl) false trivial ?_
  intro args H
  by_cases hx : ∃ (a0 : List UInt8) (a1 : Int), args = [.str a0, .int .i64 a1] ∧ H = []
  · obtain ⟨a0, a1, rfl, rfl⟩ := hx
    right; intro K
    exact iff_of_eq (X_r05_bit.eq a0 a1 K).symm
  · left; intro K h
    simp only [e_r05_bit] at h
    split at h
    · exact hx ⟨_, _, rfl, rfl⟩
    · exact h
noncomputable def e_r05_sub : Entry := ⟨[none, none], false, fun args H K => match args, H with
  | [.str a0, .str a1], [] => r05_sub a0 a1 (fun y0 => K (EV.str y0) [])
  | _, _ => False⟩
noncomputable def E_r05_sub : Env := ⟨look tys, look [(93, e_r05_at), (95, e_r05_fit)], look [(4, r05_sub.l4.entry)], gl, lookL [], false⟩
theorem r05_sub.l4X.stepEq (R : List EV → Heap → Prop) (K : Ex → List EV → Heap → Prop) (x0 : List UInt8) (x1 : List UInt8) (x2 : Nat) (x3 : Nat) (x4 : Int) (x5 : Int) (x6 : Nat) (x7 : Nat → Int) : loopStep (evCode E_r05_sub (loopAt Tryd.f98 0) { (LV.mk 32 [(0, 32)] 16 0 false) with nx := live (.loop (loopAt Tryd.f98 0)) (LV.mk 32 [(0, 32)] 16 0 false) }) (live (.loop (loopAt Tryd.f98 0)) (LV.mk 32 [(0, 32)] 16 0 false)) (LV.mk 32 [(0, 32)] 16 0 false) 0 35 R [EV.str x0, EV.str x1, EV.slice 0 0 x2 (some x3) 1, EV.int IntKind.i64 x4, EV.int IntKind.i64 x5] [some (EV.arr IntKind.u8 x6 x7)] K = r05_sub.l4.step (fun x0 x1 x2 x3 x4 x5 x6 x7 => R [EV.str x0, EV.str x1, EV.slice 0 0 x2 (some x3) 1, EV.int IntKind.i64 x4, EV.int IntKind.i64 x5] [some (EV.arr IntKind.u8 x6 x7)]) (fun y0 y1 y2 y3 => K (.exit 0) [EV.slice 0 0 y0 (some y1) 1] [some (EV.arr IntKind.u8 y2 y3)]) x0 x1 x2 x3 x4 x5 x6 x7 := (stepQ_eq _ _ _ _ _ _ _ _ _ _ _).symm.trans (by kernel_rfl)
theorem r05_sub.l4X.eq (K : Ex → List EV → Heap → Prop) : ∀ (n : Nat) (x0 : List UInt8) (x1 : List UInt8) (x2 : Nat) (x3 : Nat) (x4 : Int) (x5 : Int) (x6 : Nat) (x7 : Nat → Int), loopE E_r05_sub (loopAt Tryd.f98 0) (LV.mk 32 [(0, 32)] 16 0 false) 0 35 K n [EV.str x0, EV.str x1, EV.slice 0 0 x2 (some x3) 1, EV.int IntKind.i64 x4, EV.int IntKind.i64 x5] [some (EV.arr IntKind.u8 x6 x7)] = r05_sub.l4 (fun y0 y1 y2 y3 => K (.exit 0) [EV.slice 0 0 y0 (some y1) 1] [some (EV.arr IntKind.u8 y2 y3)]) n x0 x1 x2 x3 x4 x5 x6 x7
  | 0, _, _, _, _, _, _, _, _ => rfl
  | n + 1, x0, x1, x2, x3, x4, x5, x6, x7 => by
    have ih : (fun (x0 : List UInt8) (x1 : List UInt8) (x2 : Nat) (x3 : Nat) (x4 : Int) (x5 : Int) (x6 : Nat) (x7 : Nat → Int) => loopE E_r05_sub (loopAt Tryd.f98 0) (LV.mk 32 [(0, 32)] 16 0 false) 0 35 K n [EV.str x0, EV.str x1, EV.slice 0 0 x2 (some x3) 1, EV.int IntKind.i64 x4, EV.int IntKind.i64 x5] [some (EV.arr IntKind.u8 x6 x7)]) = r05_sub.l4 (fun y0 y1 y2 y3 => K (.exit 0) [EV.slice 0 0 y0 (some y1) 1] [some (EV.arr IntKind.u8 y2 y3)]) n := by funext x0 x1 x2 x3 x4 x5 x6 x7; exact r05_sub.l4X.eq K n x0 x1 x2 x3 x4 x5 x6 x7
    show loopStep _ _ _ _ _ (loopE E_r05_sub (loopAt Tryd.f98 0) (LV.mk 32 [(0, 32)] 16 0 false) 0 35 K n) [EV.str x0, EV.str x1, EV.slice 0 0 x2 (some x3) 1, EV.int IntKind.i64 x4, EV.int IntKind.i64 x5] [some (EV.arr IntKind.u8 x6 x7)] K = r05_sub.l4.step (r05_sub.l4 (fun y0 y1 y2 y3 => K (.exit 0) [EV.slice 0 0 y0 (some y1) 1] [some (EV.arr IntKind.u8 y2 y3)]) n) (fun y0 y1 y2 y3 => K (.exit 0) [EV.slice 0 0 y0 (some y1) 1] [some (EV.arr IntKind.u8 y2 y3)]) x0 x1 x2 x3 x4 x5 x6 x7
    rw [← ih]
    exact r05_sub.l4X.stepEq _ K x0 x1 x2 x3 x4 x5 x6 x7
theorem r05_sub.l4X.ok : LoopEq E_r05_sub (loopAt Tryd.f98 0) := by
  intro L hL vs H
  have h1 : E_r05_sub.lp (firstRegion (loopAt Tryd.f98 0)) = some r05_sub.l4.entry := by kernel_rfl
  have h2 : L = r05_sub.l4.entry := Option.some.inj (hL.symm.trans h1)
  subst h2
  by_cases hx : ∃ (x0 : List UInt8) (x1 : List UInt8) (x2 : Nat) (x3 : Nat) (x4 : Int) (x5 : Int) (x6 : Nat) (x7 : Nat → Int), vs = [EV.str x0, EV.str x1, EV.slice 0 0 x2 (some x3) 1, EV.int IntKind.i64 x4, EV.int IntKind.i64 x5] ∧ H = [some (EV.arr IntKind.u8 x6 x7)]
  · obtain ⟨x0, x1, x2, x3, x4, x5, x6, x7, rfl, rfl⟩ := hx
    right; intro K
    exact exists_congr fun n => iff_of_eq (r05_sub.l4X.eq K n x0 x1 x2 x3 x4 x5 x6 x7).symm
  · left; intro K h
    simp only [r05_sub.l4.entry] at h
    split at h
    · exact hx ⟨_, _, _, _, _, _, _, _, rfl, rfl⟩
    · exact h
theorem X_r05_sub.eq (a0 : List UInt8) (a1 : List UInt8) (K : EV → Heap → Prop) : evFn E_r05_sub Tryd.f98 false [.str a0, .str a1] [] K = r05_sub a0 a1 (fun y0 => K (EV.str y0) []) := by
  have h : evFnQ E_r05_sub Tryd.f98 false [.str a0, .str a1] [] K = r05_sub.d a0 a1 (fun y0 => K (EV.str y0) []) := by kernel_rfl
  rw [r05_sub.is]; exact (evFnQ_eq _ _ _ _ _ _).symm.trans h
theorem X_r05_sub.ok : SoundE Tryd.prog gl 98 e_r05_sub := by
  refine fnOK (E := E_r05_sub) (fn := Tryd.f98) rfl tys_ok rfl (show AllL _ [(93, e_r05_at), (95, e_r05_fit)] from ⟨X_r05_at.ok, X_r05_fit.ok, trivial⟩) mixed (by kernel_rfl) (by kernel_rfl) (by kernel_rfl) 1 (by kernel_rfl) false ⟨r05_sub.l4X.ok, trivial⟩ ?_
  intro args H
  by_cases hx : ∃ (a0 : List UInt8) (a1 : List UInt8), args = [.str a0, .str a1] ∧ H = []
  · obtain ⟨a0, a1, rfl, rfl⟩ := hx
    right; intro K
    exact iff_of_eq (X_r05_sub.eq a0 a1 K).symm
  · left; intro K h
    simp only [e_r05_sub] at h
    split at h
    · exact hx ⟨_, _, rfl, rfl⟩
    · exact h
noncomputable def e_r05_Div : Entry := ⟨[none, none], false, fun args H K => match args, H with
  | [.str a0, .str a1], [] => r05_Div a0 a1 (fun y0 y1 y2 => K (EV.tuple [EV.str y0, EV.str y1, EV.int IntKind.i64 y2]) [])
  | _, _ => False⟩
noncomputable def E_r05_Div : Env := ⟨look tys, look [(59, e_r05_Right), (68, e_r05_Len), (70, e_r05_Cmp), (95, e_r05_fit), (96, e_r05_double), (97, e_r05_bit), (98, e_r05_sub)], look [(10, r05_Div.l10.entry)], gl, lookL [], false⟩
theorem r05_Div.l10X.stepEq (R : List EV → Heap → Prop) (K : Ex → List EV → Heap → Prop) (x0 : List UInt8) (x1 : List UInt8) (x2 : List UInt8) (x3 : Nat) (x4 : Nat) (x5 : Int) (x6 : Nat) (x7 : Nat → Int) : loopStep (evCode E_r05_Div (loopAt Tryd.f60 0) { (LV.mk 4608 [(0, 4608)] 112 0 false) with nx := live (.loop (loopAt Tryd.f60 0)) (LV.mk 4608 [(0, 4608)] 112 0 false) }) (live (.loop (loopAt Tryd.f60 0)) (LV.mk 4608 [(0, 4608)] 112 0 false)) (LV.mk 4608 [(0, 4608)] 112 0 false) 0 76 R [EV.str x0, EV.str x1, EV.str x2, EV.slice 0 0 x3 (some x4) 1, EV.int IntKind.i64 x5] [some (EV.arr IntKind.u8 x6 x7)] K = r05_Div.l10.step (fun x0 x1 x2 x3 x4 x5 x6 x7 => R [EV.str x0, EV.str x1, EV.str x2, EV.slice 0 0 x3 (some x4) 1, EV.int IntKind.i64 x5] [some (EV.arr IntKind.u8 x6 x7)]) (fun y0 y1 y2 y3 y4 => K (.exit 0) [EV.str y0, EV.slice 0 0 y1 (some y2) 1] [some (EV.arr IntKind.u8 y3 y4)]) x0 x1 x2 x3 x4 x5 x6 x7 := (stepQ_eq _ _ _ _ _ _ _ _ _ _ _).symm.trans (by kernel_rfl)
theorem r05_Div.l10X.eq (K : Ex → List EV → Heap → Prop) : ∀ (n : Nat) (x0 : List UInt8) (x1 : List UInt8) (x2 : List UInt8) (x3 : Nat) (x4 : Nat) (x5 : Int) (x6 : Nat) (x7 : Nat → Int), loopE E_r05_Div (loopAt Tryd.f60 0) (LV.mk 4608 [(0, 4608)] 112 0 false) 0 76 K n [EV.str x0, EV.str x1, EV.str x2, EV.slice 0 0 x3 (some x4) 1, EV.int IntKind.i64 x5] [some (EV.arr IntKind.u8 x6 x7)] = r05_Div.l10 (fun y0 y1 y2 y3 y4 => K (.exit 0) [EV.str y0, EV.slice 0 0 y1 (some y2) 1] [some (EV.arr IntKind.u8 y3 y4)]) n x0 x1 x2 x3 x4 x5 x6 x7
  | 0, _, _, _, _, _, _, _, _ => rfl
  | n + 1, x0, x1, x2, x3, x4, x5, x6, x7 => by
    have ih : (fun (x0 : List UInt8) (x1 : List UInt8) (x2 : List UInt8) (x3 : Nat) (x4 : Nat) (x5 : Int) (x6 : Nat) (x7 : Nat → Int) => loopE E_r05_Div (loopAt Tryd.f60 0) (LV.mk 4608 [(0, 4608)] 112 0 false) 0 76 K n [EV.str x0, EV.str x1, EV.str x2, EV.slice 0 0 x3 (some x4) 1, EV.int IntKind.i64 x5] [some (EV.arr IntKind.u8 x6 x7)]) = r05_Div.l10 (fun y0 y1 y2 y3 y4 => K (.exit 0) [EV.str y0, EV.slice 0 0 y1 (some y2) 1] [some (EV.arr IntKind.u8 y3 y4)]) n := by funext x0 x1 x2 x3 x4 x5 x6 x7; exact r05_Div.l10X.eq K n x0 x1 x2 x3 x4 x5 x6 x7
    show loopStep _ _ _ _ _ (loopE E_r05_Div (loopAt Tryd.f60 0) (LV.mk 4608 [(0, 4608)] 112 0 false) 0 76 K n) [EV.str x0, EV.str x1, EV.str x2, EV.slice 0 0 x3 (some x4) 1, EV.int IntKind.i64 x5] [some (EV.arr IntKind.u8 x6 x7)] K = r05_Div.l10.step (r05_Div.l10 (fun y0 y1 y2 y3 y4 => K (.exit 0) [EV.str y0, EV.slice 0 0 y1 (some y2) 1] [some (EV.arr IntKind.u8 y3 y4)]) n) (fun y0 y1 y2 y3 y4 => K (.exit 0) [EV.str y0, EV.slice 0 0 y1 (some y2) 1] [some (EV.arr IntKind.u8 y3 y4)]) x0 x1 x2 x3 x4 x5 x6 x7
    rw [← ih]
    exact r05_Div.l10X.stepEq _ K x0 x1 x2 x3 x4 x5 x6 x7
theorem r05_Div.l10X.ok : LoopEq E_r05_Div (loopAt Tryd.f60 0) := by
  intro L hL vs H
  have h1 : E_r05_Div.lp (firstRegion (loopAt Tryd.f60 0)) = some r05_Div.l10.entry := by kernel_rfl
  have h2 : L = r05_Div.l10.entry := Option.some.inj (hL.symm.trans h1)
  subst h2
  by_cases hx : ∃ (x0 : List UInt8) (x1 : List UInt8) (x2 : List UInt8) (x3 : Nat) (x4 : Nat) (x5 : Int) (x6 : Nat) (x7 : Nat → Int), vs = [EV.str x0, EV.str x1, EV.str x2, EV.slice 0 0 x3 (some x4) 1, EV.int IntKind.i64 x5] ∧ H = [some (EV.arr IntKind.u8 x6 x7)]
  · obtain ⟨x0, x1, x2, x3, x4, x5, x6, x7, rfl, rfl⟩ := hx
    right; intro K
    exact exists_congr fun n => iff_of_eq (r05_Div.l10X.eq K n x0 x1 x2 x3 x4 x5 x6 x7).symm
  · left; intro K h
    simp only [r05_Div.l10.entry] at h
    split at h
    · exact hx ⟨_, _, _, _, _, _, _, _, rfl, rfl⟩
    · exact h
theorem X_r05_Div.eq (a0 : List UInt8) (a1 : List UInt8) (K : EV → Heap → Prop) : evFn E_r05_Div Tryd.f60 false [.str a0, .str a1] [] K = r05_Div a0 a1 (fun y0 y1 y2 => K (EV.tuple [EV.str y0, EV.str y1, EV.int IntKind.i64 y2]) []) := by
  have h : evFnQ E_r05_Div Tryd.f60 false [.str a0, .str a1] [] K = r05_Div.d a0 a1 (fun y0 y1 y2 => K (EV.tuple [EV.str y0, EV.str y1, EV.int IntKind.i64 y2]) []) := by kernel_rfl
  rw [r05_Div.is]; exact (evFnQ_eq _ _ _ _ _ _).symm.trans h
theorem X_r05_Div.ok : SoundE Tryd.prog gl 60 e_r05_Div := by
  refine fnOK (E := E_r05_Div) (fn := Tryd.f60) rfl tys_ok rfl (show AllL _ [(59, e_r05_Right), (68, e_r05_Len), (70, e_r05_Cmp), (95, e_r05_fit), (96, e_r05_double), (97, e_r05_bit), (98, e_r05_sub)] from ⟨X_r05_Right.ok, X_r05_Len.ok, X_r05_Cmp.ok, X_r05_fit.ok, X_r05_double.ok, X_r05_bit.ok, X_r05_sub.ok, trivial⟩) mixed (by kernel_rfl) (by kernel_rfl) (by kernel_rfl) 1 (by kernel_rfl) false ⟨r05_Div.l10X.ok, trivial⟩ ?_
  intro args H
  by_cases hx : ∃ (a0 : List UInt8) (a1 : List UInt8), args = [.str a0, .str a1] ∧ H = []
  · obtain ⟨a0, a1, rfl, rfl⟩ := hx
    right; intro K
    exact iff_of_eq (X_r05_Div.eq a0 a1 K).symm
  · left; intro K h
    simp only [e_r05_Div] at h
    split at h
    · exact hx ⟨_, _, rfl, rfl⟩
    · exact h
noncomputable def e_r05_Gcd : Entry := ⟨[none, none], false, fun args H K => match args, H with
  | [.str a0, .str a1], [] => r05_Gcd a0 a1 (fun y0 => K (EV.str y0) [])
  | _, _ => False⟩
noncomputable def E_r05_Gcd : Env := ⟨look tys, look [(60, e_r05_Div)], look [(1, r05_Gcd.l1.entry)], gl, lookL [], false⟩
theorem r05_Gcd.l1X.stepEq (R : List EV → Heap → Prop) (K : Ex → List EV → Heap → Prop) (x0 : List UInt8) (x1 : List UInt8) : loopStep (evCode E_r05_Gcd (loopAt Tryd.f54 0) { (LV.mk 1 [(0, 1)] 16 0 false) with nx := live (.loop (loopAt Tryd.f54 0)) (LV.mk 1 [(0, 1)] 16 0 false) }) (live (.loop (loopAt Tryd.f54 0)) (LV.mk 1 [(0, 1)] 16 0 false)) (LV.mk 1 [(0, 1)] 16 0 false) 0 20 R [EV.str x0, EV.str x1] [] K = r05_Gcd.l1.step (fun x0 x1 => R [EV.str x0, EV.str x1] []) (fun y0 => K (.exit 0) [EV.str y0] []) x0 x1 := (stepQ_eq _ _ _ _ _ _ _ _ _ _ _).symm.trans (by kernel_rfl)
theorem r05_Gcd.l1X.eq (K : Ex → List EV → Heap → Prop) : ∀ (n : Nat) (x0 : List UInt8) (x1 : List UInt8), loopE E_r05_Gcd (loopAt Tryd.f54 0) (LV.mk 1 [(0, 1)] 16 0 false) 0 20 K n [EV.str x0, EV.str x1] [] = r05_Gcd.l1 (fun y0 => K (.exit 0) [EV.str y0] []) n x0 x1
  | 0, _, _ => rfl
  | n + 1, x0, x1 => by
    have ih : (fun (x0 : List UInt8) (x1 : List UInt8) => loopE E_r05_Gcd (loopAt Tryd.f54 0) (LV.mk 1 [(0, 1)] 16 0 false) 0 20 K n [EV.str x0, EV.str x1] []) = r05_Gcd.l1 (fun y0 => K (.exit 0) [EV.str y0] []) n := by funext x0 x1; exact r05_Gcd.l1X.eq K n x0 x1
    show loopStep _ _ _ _ _ (loopE E_r05_Gcd (loopAt Tryd.f54 0) (LV.mk 1 [(0, 1)] 16 0 false) 0 20 K n) [EV.str x0, EV.str x1] [] K = r05_Gcd.l1.step (r05_Gcd.l1 (fun y0 => K (.exit 0) [EV.str y0] []) n) (fun y0 => K (.exit 0) [EV.str y0] []) x0 x1
    rw [← ih]
    exact r05_Gcd.l1X.stepEq _ K x0 x1
theorem r05_Gcd.l1X.ok : LoopEq E_r05_Gcd (loopAt Tryd.f54 0) := by
  intro L hL vs H
  have h1 : E_r05_Gcd.lp (firstRegion (loopAt Tryd.f54 0)) = some r05_Gcd.l1.entry := by kernel_rfl
  have h2 : L = r05_Gcd.l1.entry := Option.some.inj (hL.symm.trans h1)
  subst h2
  by_cases hx : ∃ (x0 : List UInt8) (x1 : List UInt8), vs = [EV.str x0, EV.str x1] ∧ H = []
  · obtain ⟨x0, x1, rfl, rfl⟩ := hx
    right; intro K
    exact exists_congr fun n => iff_of_eq (r05_Gcd.l1X.eq K n x0 x1).symm
  · left; intro K h
    simp only [r05_Gcd.l1.entry] at h
    split at h
    · exact hx ⟨_, _, rfl, rfl⟩
    · exact h
theorem X_r05_Gcd.eq (a0 : List UInt8) (a1 : List UInt8) (K : EV → Heap → Prop) : evFn E_r05_Gcd Tryd.f54 false [.str a0, .str a1] [] K = r05_Gcd a0 a1 (fun y0 => K (EV.str y0) []) := by
  have h : evFnQ E_r05_Gcd Tryd.f54 false [.str a0, .str a1] [] K = r05_Gcd.d a0 a1 (fun y0 => K (EV.str y0) []) := by kernel_rfl
  rw [r05_Gcd.is]; exact (evFnQ_eq _ _ _ _ _ _).symm.trans h
theorem X_r05_Gcd.ok : SoundE Tryd.prog gl 54 e_r05_Gcd := by
  refine fnOK (E := E_r05_Gcd) (fn := Tryd.f54) rfl tys_ok rfl (show AllL _ [(60, e_r05_Div)] from ⟨X_r05_Div.ok, trivial⟩) mixed (by kernel_rfl) (by kernel_rfl) (by kernel_rfl) 1 (by kernel_rfl) false ⟨r05_Gcd.l1X.ok, trivial⟩ ?_
  intro args H
  by_cases hx : ∃ (a0 : List UInt8) (a1 : List UInt8), args = [.str a0, .str a1] ∧ H = []
  · obtain ⟨a0, a1, rfl, rfl⟩ := hx
    right; intro K
    exact iff_of_eq (X_r05_Gcd.eq a0 a1 K).symm
  · left; intro K h
    simp only [e_r05_Gcd] at h
    split at h
    · exact hx ⟨_, _, rfl, rfl⟩
    · exact h
noncomputable def e_r06_May : Entry := ⟨[none], false, fun args H K => match args, H with
  | [.agg [.bool a0_0, .str a0_1, .str a0_2, .int .i64 a0_3]], [] => r06_May a0_0 a0_1 a0_2 a0_3 (fun y0 => K (EV.bool y0) [])
  | _, _ => False⟩
noncomputable def E_r06_May : Env := ⟨look tys, look [(51, e_r05_May), (52, e_r06_odd), (53, e_r06_Null), (54, e_r05_Gcd)], look [], gl, lookL [], false⟩
theorem X_r06_May.eq (a0_0 : Bool) (a0_1 : List UInt8) (a0_2 : List UInt8) (a0_3 : Int) (K : EV → Heap → Prop) : evFn E_r06_May Tryd.f14 false [.agg [.bool a0_0, .str a0_1, .str a0_2, .int .i64 a0_3]] [] K = r06_May a0_0 a0_1 a0_2 a0_3 (fun y0 => K (EV.bool y0) []) := by
  have h : evFnQ E_r06_May Tryd.f14 false [.agg [.bool a0_0, .str a0_1, .str a0_2, .int .i64 a0_3]] [] K = r06_May.d a0_0 a0_1 a0_2 a0_3 (fun y0 => K (EV.bool y0) []) := by kernel_rfl
  rw [r06_May.is]; exact (evFnQ_eq _ _ _ _ _ _).symm.trans h
theorem X_r06_May.ok : SoundE Tryd.prog gl 14 e_r06_May := by
  refine fnOK (E := E_r06_May) (fn := Tryd.f14) rfl tys_ok rfl (show AllL _ [(51, e_r05_May), (52, e_r06_odd), (53, e_r06_Null), (54, e_r05_Gcd)] from ⟨X_r05_May.ok, X_r06_odd.ok, X_r06_Null.ok, X_r05_Gcd.ok, trivial⟩) mixed (by kernel_rfl) (by kernel_rfl) (by kernel_rfl) 0 (by kernel_rfl) false trivial ?_
  intro args H
  by_cases hx : ∃ (a0_0 : Bool) (a0_1 : List UInt8) (a0_2 : List UInt8) (a0_3 : Int), args = [.agg [.bool a0_0, .str a0_1, .str a0_2, .int .i64 a0_3]] ∧ H = []
  · obtain ⟨a0_0, a0_1, a0_2, a0_3, rfl, rfl⟩ := hx
    right; intro K
    exact iff_of_eq (X_r06_May.eq a0_0 a0_1 a0_2 a0_3 K).symm
  · left; intro K h
    simp only [e_r06_May] at h
    split at h
    · exact hx ⟨_, _, _, _, rfl, rfl⟩
    · exact h
noncomputable def e_exact_Neg : Entry := ⟨[none], false, fun args H K => match args, H with
  | [.agg [.bool a0_0, .str a0_1, .str a0_2, .int .i64 a0_3]], [] => exact_Neg a0_0 a0_1 a0_2 a0_3 (fun y0 y1 y2 y3 => K (EV.agg [EV.bool y0, EV.str y1, EV.str y2, EV.int IntKind.i64 y3]) [])
  | _, _ => False⟩
noncomputable def E_exact_Neg : Env := ⟨look tys, look [(13, e_exact_Check)], look [], gl, lookL [], false⟩
theorem X_exact_Neg.eq (a0_0 : Bool) (a0_1 : List UInt8) (a0_2 : List UInt8) (a0_3 : Int) (K : EV → Heap → Prop) : evFn E_exact_Neg Tryd.f23 false [.agg [.bool a0_0, .str a0_1, .str a0_2, .int .i64 a0_3]] [] K = exact_Neg a0_0 a0_1 a0_2 a0_3 (fun y0 y1 y2 y3 => K (EV.agg [EV.bool y0, EV.str y1, EV.str y2, EV.int IntKind.i64 y3]) []) := by
  have h : evFnQ E_exact_Neg Tryd.f23 false [.agg [.bool a0_0, .str a0_1, .str a0_2, .int .i64 a0_3]] [] K = exact_Neg.d a0_0 a0_1 a0_2 a0_3 (fun y0 y1 y2 y3 => K (EV.agg [EV.bool y0, EV.str y1, EV.str y2, EV.int IntKind.i64 y3]) []) := by kernel_rfl
  rw [exact_Neg.is]; exact (evFnQ_eq _ _ _ _ _ _).symm.trans h
theorem X_exact_Neg.ok : SoundE Tryd.prog gl 23 e_exact_Neg := by
  refine fnOK (E := E_exact_Neg) (fn := Tryd.f23) rfl tys_ok rfl (show AllL _ [(13, e_exact_Check)] from ⟨X_exact_Check.ok, trivial⟩) mixed (by kernel_rfl) (by kernel_rfl) (by kernel_rfl) 0 (by kernel_rfl) false trivial ?_
  intro args H
  by_cases hx : ∃ (a0_0 : Bool) (a0_1 : List UInt8) (a0_2 : List UInt8) (a0_3 : Int), args = [.agg [.bool a0_0, .str a0_1, .str a0_2, .int .i64 a0_3]] ∧ H = []
  · obtain ⟨a0_0, a0_1, a0_2, a0_3, rfl, rfl⟩ := hx
    right; intro K
    exact iff_of_eq (X_exact_Neg.eq a0_0 a0_1 a0_2 a0_3 K).symm
  · left; intro K h
    simp only [e_exact_Neg] at h
    split at h
    · exact hx ⟨_, _, _, _, rfl, rfl⟩
    · exact h
noncomputable def e_exact_Sign : Entry := ⟨[none], false, fun args H K => match args, H with
  | [.agg [.bool a0_0, .str a0_1, .str a0_2, .int .i64 a0_3]], [] => exact_Sign a0_0 a0_1 a0_2 a0_3 (fun y0 => K (EV.int IntKind.i64 y0) [])
  | _, _ => False⟩
noncomputable def E_exact_Sign : Env := ⟨look tys, look [(13, e_exact_Check)], look [], gl, lookL [], false⟩
theorem X_exact_Sign.eq (a0_0 : Bool) (a0_1 : List UInt8) (a0_2 : List UInt8) (a0_3 : Int) (K : EV → Heap → Prop) : evFn E_exact_Sign Tryd.f21 false [.agg [.bool a0_0, .str a0_1, .str a0_2, .int .i64 a0_3]] [] K = exact_Sign a0_0 a0_1 a0_2 a0_3 (fun y0 => K (EV.int IntKind.i64 y0) []) := by
  have h : evFnQ E_exact_Sign Tryd.f21 false [.agg [.bool a0_0, .str a0_1, .str a0_2, .int .i64 a0_3]] [] K = exact_Sign.d a0_0 a0_1 a0_2 a0_3 (fun y0 => K (EV.int IntKind.i64 y0) []) := by kernel_rfl
  rw [exact_Sign.is]; exact (evFnQ_eq _ _ _ _ _ _).symm.trans h
theorem X_exact_Sign.ok : SoundE Tryd.prog gl 21 e_exact_Sign := by
  refine fnOK (E := E_exact_Sign) (fn := Tryd.f21) rfl tys_ok rfl (show AllL _ [(13, e_exact_Check)] from ⟨X_exact_Check.ok, trivial⟩) mixed (by kernel_rfl) (by kernel_rfl) (by kernel_rfl) 0 (by kernel_rfl) false trivial ?_
  intro args H
  by_cases hx : ∃ (a0_0 : Bool) (a0_1 : List UInt8) (a0_2 : List UInt8) (a0_3 : Int), args = [.agg [.bool a0_0, .str a0_1, .str a0_2, .int .i64 a0_3]] ∧ H = []
  · obtain ⟨a0_0, a0_1, a0_2, a0_3, rfl, rfl⟩ := hx
    right; intro K
    exact iff_of_eq (X_exact_Sign.eq a0_0 a0_1 a0_2 a0_3 K).symm
  · left; intro K h
    simp only [e_exact_Sign] at h
    split at h
    · exact hx ⟨_, _, _, _, rfl, rfl⟩
    · exact h
noncomputable def e_exact_right : Entry := ⟨[none, none], false, fun args H K => match args, H with
  | [.agg [.bool a0_0, .str a0_1, .str a0_2, .int .i64 a0_3], .agg [.bool a1_0, .str a1_1, .str a1_2, .int .i64 a1_3]], [] => exact_right a0_0 a0_1 a0_2 a0_3 a1_0 a1_1 a1_2 a1_3 (fun y0 => K (EV.bool y0) [])
  | _, _ => False⟩
noncomputable def E_exact_right : Env := ⟨look tys, look [(13, e_exact_Check)], look [], gl, lookL [], false⟩
theorem X_exact_right.eq (a0_0 : Bool) (a0_1 : List UInt8) (a0_2 : List UInt8) (a0_3 : Int) (a1_0 : Bool) (a1_1 : List UInt8) (a1_2 : List UInt8) (a1_3 : Int) (K : EV → Heap → Prop) : evFn E_exact_right Tryd.f63 false [.agg [.bool a0_0, .str a0_1, .str a0_2, .int .i64 a0_3], .agg [.bool a1_0, .str a1_1, .str a1_2, .int .i64 a1_3]] [] K = exact_right a0_0 a0_1 a0_2 a0_3 a1_0 a1_1 a1_2 a1_3 (fun y0 => K (EV.bool y0) []) := by
  have h : evFnQ E_exact_right Tryd.f63 false [.agg [.bool a0_0, .str a0_1, .str a0_2, .int .i64 a0_3], .agg [.bool a1_0, .str a1_1, .str a1_2, .int .i64 a1_3]] [] K = exact_right.d a0_0 a0_1 a0_2 a0_3 a1_0 a1_1 a1_2 a1_3 (fun y0 => K (EV.bool y0) []) := by kernel_rfl
  rw [exact_right.is]; exact (evFnQ_eq _ _ _ _ _ _).symm.trans h
theorem X_exact_right.ok : SoundE Tryd.prog gl 63 e_exact_right := by
  refine fnOK (E := E_exact_right) (fn := Tryd.f63) rfl tys_ok rfl (show AllL _ [(13, e_exact_Check)] from ⟨X_exact_Check.ok, trivial⟩) mixed (by kernel_rfl) (by kernel_rfl) (by kernel_rfl) 0 (by kernel_rfl) false trivial ?_
  intro args H
  by_cases hx : ∃ (a0_0 : Bool) (a0_1 : List UInt8) (a0_2 : List UInt8) (a0_3 : Int) (a1_0 : Bool) (a1_1 : List UInt8) (a1_2 : List UInt8) (a1_3 : Int), args = [.agg [.bool a0_0, .str a0_1, .str a0_2, .int .i64 a0_3], .agg [.bool a1_0, .str a1_1, .str a1_2, .int .i64 a1_3]] ∧ H = []
  · obtain ⟨a0_0, a0_1, a0_2, a0_3, a1_0, a1_1, a1_2, a1_3, rfl, rfl⟩ := hx
    right; intro K
    exact iff_of_eq (X_exact_right.eq a0_0 a0_1 a0_2 a0_3 a1_0 a1_1 a1_2 a1_3 K).symm
  · left; intro K h
    simp only [e_exact_right] at h
    split at h
    · exact hx ⟨_, _, _, _, _, _, _, _, rfl, rfl⟩
    · exact h
noncomputable def e_exact_firm_nat : Entry := ⟨[none, none, none], true, fun args H K => match args, H with
  | [.ptr 0 [], .str a1, .int .i64 a2], [some (.agg [.int .i64 a0_0])] => exact_firm_nat a0_0 a1 a2 (fun y0 y1 => K (EV.str y0) [some (EV.agg [EV.int IntKind.i64 y1])])
  | _, _ => False⟩
noncomputable def E_exact_firm_nat : Env := ⟨look tys, look [], look [], gl, lookL [], false⟩
theorem X_exact_firm_nat.eq (a0_0 : Int) (a1 : List UInt8) (a2 : Int) (K : EV → Heap → Prop) : evFn E_exact_firm_nat Tryd.f78 false [.ptr 0 [], .str a1, .int .i64 a2] [some (.agg [.int .i64 a0_0])] K = exact_firm_nat a0_0 a1 a2 (fun y0 y1 => K (EV.str y0) [some (EV.agg [EV.int IntKind.i64 y1])]) := by
  have h : evFnQ E_exact_firm_nat Tryd.f78 false [.ptr 0 [], .str a1, .int .i64 a2] [some (.agg [.int .i64 a0_0])] K = exact_firm_nat.d a0_0 a1 a2 (fun y0 y1 => K (EV.str y0) [some (EV.agg [EV.int IntKind.i64 y1])]) := by kernel_rfl
  rw [exact_firm_nat.is]; exact (evFnQ_eq _ _ _ _ _ _).symm.trans h
theorem X_exact_firm_nat.ok : SoundE Tryd.prog gl 78 e_exact_firm_nat := by
  refine fnOK (E := E_exact_firm_nat) (fn := Tryd.f78) rfl tys_ok rfl (show AllL _ [] from trivial) mixed (by kernel_rfl) (by kernel_rfl) (by kernel_rfl) 0 (by kernel_rfl) false trivial ?_
  intro args H
  by_cases hx : ∃ (a0_0 : Int) (a1 : List UInt8) (a2 : Int), args = [.ptr 0 [], .str a1, .int .i64 a2] ∧ H = [some (.agg [.int .i64 a0_0])]
  · obtain ⟨a0_0, a1, a2, rfl, rfl⟩ := hx
    right; intro K
    exact iff_of_eq (X_exact_firm_nat.eq a0_0 a1 a2 K).symm
  · left; intro K h
    simp only [e_exact_firm_nat] at h
    split at h
    · exact hx ⟨_, _, _, rfl, rfl⟩
    · exact h
noncomputable def e_nat_told : Entry := ⟨[some .u32], false, fun args H K => match args, H with
  | [.rsI .u32 a0n a0], [] => nat_told a0n a0 (fun y0 y1 => K (EV.tuple [EV.str y0, EV.int IntKind.i64 y1]) [])
  | _, _ => False⟩
noncomputable def E_nat_told : Env := ⟨look tys, look [(90, e_nat_number)], look [], gl, lookL [], false⟩
theorem X_nat_told.eq (a0n : Nat) (a0 : Nat → Int) (K : EV → Heap → Prop) : evFn E_nat_told Tryd.f73 false [.rsI .u32 a0n a0] [] K = nat_told a0n a0 (fun y0 y1 => K (EV.tuple [EV.str y0, EV.int IntKind.i64 y1]) []) := by
  have h : evFnQ E_nat_told Tryd.f73 false [.rsI .u32 a0n a0] [] K = nat_told.d a0n a0 (fun y0 y1 => K (EV.tuple [EV.str y0, EV.int IntKind.i64 y1]) []) := by kernel_rfl
  rw [nat_told.is]; exact (evFnQ_eq _ _ _ _ _ _).symm.trans h
theorem X_nat_told.ok : SoundE Tryd.prog gl 73 e_nat_told := by
  refine fnOK (E := E_nat_told) (fn := Tryd.f73) rfl tys_ok rfl (show AllL _ [(90, e_nat_number)] from ⟨X_nat_number.ok, trivial⟩) mixed (by kernel_rfl) (by kernel_rfl) (by kernel_rfl) 0 (by kernel_rfl) false trivial ?_
  intro args H
  by_cases hx : ∃ (a0n : Nat) (a0 : Nat → Int), args = [.rsI .u32 a0n a0] ∧ H = []
  · obtain ⟨a0n, a0, rfl, rfl⟩ := hx
    right; intro K
    exact iff_of_eq (X_nat_told.eq a0n a0 K).symm
  · left; intro K h
    simp only [e_nat_told] at h
    split at h
    · exact hx ⟨_, _, rfl, rfl⟩
    · exact h
noncomputable def e_nat_times : Entry := ⟨[some .u32, some .u32], false, fun args H K => match args, H with
  | [.rsI .u32 a0n a0, .rsI .u32 a1n a1], [] => nat_times a0n a0 a1n a1 (fun y0 y1 => K (EV.rsI IntKind.u32 y0 y1) [])
  | _, _ => False⟩
noncomputable def E_nat_times : Env := ⟨look tys, look [(103, e_nat_cut)], look [(3, nat_times.l3.entry), (7, nat_times.l7.entry)], gl, lookL [], false⟩
theorem nat_times.l3X.stepEq (R : List EV → Heap → Prop) (K : Ex → List EV → Heap → Prop) (x0 : Nat) (x1 : Nat → Int) (x2 : Nat) (x3 : Nat) (x4 : Nat) (x5 : Nat → Int) (x6 : Int) (x7 : Int) (x8 : Nat) (x9 : Nat → Int) : loopStep (evCode E_nat_times (loopAt Tryd.f105 0) { (LV.mk 32 [(0, 32)] 16 0 false) with nx := live (.loop (loopAt Tryd.f105 0)) (LV.mk 32 [(0, 32)] 16 0 false) }) (live (.loop (loopAt Tryd.f105 0)) (LV.mk 32 [(0, 32)] 16 0 false)) (LV.mk 32 [(0, 32)] 16 0 false) 0 67 R [EV.rsI IntKind.u32 x0 x1, EV.slice 0 0 x2 (some x3) 1, EV.rsI IntKind.u32 x4 x5, EV.int IntKind.i64 x6, EV.int IntKind.i64 x7] [some (EV.arr IntKind.u32 x8 x9)] K = nat_times.l3.step (fun x0 x1 x2 x3 x4 x5 x6 x7 x8 x9 => R [EV.rsI IntKind.u32 x0 x1, EV.slice 0 0 x2 (some x3) 1, EV.rsI IntKind.u32 x4 x5, EV.int IntKind.i64 x6, EV.int IntKind.i64 x7] [some (EV.arr IntKind.u32 x8 x9)]) (fun y0 y1 y2 y3 => K (.exit 0) [EV.slice 0 0 y0 (some y1) 1] [some (EV.arr IntKind.u32 y2 y3)]) x0 x1 x2 x3 x4 x5 x6 x7 x8 x9 := (stepQ_eq _ _ _ _ _ _ _ _ _ _ _).symm.trans (by kernel_rfl)
theorem nat_times.l3X.eq (K : Ex → List EV → Heap → Prop) : ∀ (n : Nat) (x0 : Nat) (x1 : Nat → Int) (x2 : Nat) (x3 : Nat) (x4 : Nat) (x5 : Nat → Int) (x6 : Int) (x7 : Int) (x8 : Nat) (x9 : Nat → Int), loopE E_nat_times (loopAt Tryd.f105 0) (LV.mk 32 [(0, 32)] 16 0 false) 0 67 K n [EV.rsI IntKind.u32 x0 x1, EV.slice 0 0 x2 (some x3) 1, EV.rsI IntKind.u32 x4 x5, EV.int IntKind.i64 x6, EV.int IntKind.i64 x7] [some (EV.arr IntKind.u32 x8 x9)] = nat_times.l3 (fun y0 y1 y2 y3 => K (.exit 0) [EV.slice 0 0 y0 (some y1) 1] [some (EV.arr IntKind.u32 y2 y3)]) n x0 x1 x2 x3 x4 x5 x6 x7 x8 x9
  | 0, _, _, _, _, _, _, _, _, _, _ => rfl
  | n + 1, x0, x1, x2, x3, x4, x5, x6, x7, x8, x9 => by
    have ih : (fun (x0 : Nat) (x1 : Nat → Int) (x2 : Nat) (x3 : Nat) (x4 : Nat) (x5 : Nat → Int) (x6 : Int) (x7 : Int) (x8 : Nat) (x9 : Nat → Int) => loopE E_nat_times (loopAt Tryd.f105 0) (LV.mk 32 [(0, 32)] 16 0 false) 0 67 K n [EV.rsI IntKind.u32 x0 x1, EV.slice 0 0 x2 (some x3) 1, EV.rsI IntKind.u32 x4 x5, EV.int IntKind.i64 x6, EV.int IntKind.i64 x7] [some (EV.arr IntKind.u32 x8 x9)]) = nat_times.l3 (fun y0 y1 y2 y3 => K (.exit 0) [EV.slice 0 0 y0 (some y1) 1] [some (EV.arr IntKind.u32 y2 y3)]) n := by funext x0 x1 x2 x3 x4 x5 x6 x7 x8 x9; exact nat_times.l3X.eq K n x0 x1 x2 x3 x4 x5 x6 x7 x8 x9
    show loopStep _ _ _ _ _ (loopE E_nat_times (loopAt Tryd.f105 0) (LV.mk 32 [(0, 32)] 16 0 false) 0 67 K n) [EV.rsI IntKind.u32 x0 x1, EV.slice 0 0 x2 (some x3) 1, EV.rsI IntKind.u32 x4 x5, EV.int IntKind.i64 x6, EV.int IntKind.i64 x7] [some (EV.arr IntKind.u32 x8 x9)] K = nat_times.l3.step (nat_times.l3 (fun y0 y1 y2 y3 => K (.exit 0) [EV.slice 0 0 y0 (some y1) 1] [some (EV.arr IntKind.u32 y2 y3)]) n) (fun y0 y1 y2 y3 => K (.exit 0) [EV.slice 0 0 y0 (some y1) 1] [some (EV.arr IntKind.u32 y2 y3)]) x0 x1 x2 x3 x4 x5 x6 x7 x8 x9
    rw [← ih]
    exact nat_times.l3X.stepEq _ K x0 x1 x2 x3 x4 x5 x6 x7 x8 x9
theorem nat_times.l3X.ok : LoopEq E_nat_times (loopAt Tryd.f105 0) := by
  intro L hL vs H
  have h1 : E_nat_times.lp (firstRegion (loopAt Tryd.f105 0)) = some nat_times.l3.entry := by kernel_rfl
  have h2 : L = nat_times.l3.entry := Option.some.inj (hL.symm.trans h1)
  subst h2
  by_cases hx : ∃ (x0 : Nat) (x1 : Nat → Int) (x2 : Nat) (x3 : Nat) (x4 : Nat) (x5 : Nat → Int) (x6 : Int) (x7 : Int) (x8 : Nat) (x9 : Nat → Int), vs = [EV.rsI IntKind.u32 x0 x1, EV.slice 0 0 x2 (some x3) 1, EV.rsI IntKind.u32 x4 x5, EV.int IntKind.i64 x6, EV.int IntKind.i64 x7] ∧ H = [some (EV.arr IntKind.u32 x8 x9)]
  · obtain ⟨x0, x1, x2, x3, x4, x5, x6, x7, x8, x9, rfl, rfl⟩ := hx
    right; intro K
    exact exists_congr fun n => iff_of_eq (nat_times.l3X.eq K n x0 x1 x2 x3 x4 x5 x6 x7 x8 x9).symm
  · left; intro K h
    simp only [nat_times.l3.entry] at h
    split at h
    · exact hx ⟨_, _, _, _, _, _, _, _, _, _, rfl, rfl⟩
    · exact h
theorem nat_times.l7X.stepEq (R : List EV → Heap → Prop) (K : Ex → List EV → Heap → Prop) (x0 : Nat) (x1 : Nat → Int) (x2 : Nat) (x3 : Nat) (x4 : Int) (x5 : Int) (x6 : Int) (x7 : Nat) (x8 : Nat → Int) (x9 : Int) (x10 : Int) (x11 : Nat) (x12 : Nat → Int) (x13 : Int) (x14 : Int) (x15 : Nat) (x16 : Nat → Int) : loopStep (evCode E_nat_times (loopAt Tryd.f105 1) { (LV.mk 917858 [(2, 917858), (1, 917538), (0, 32)] 16 0 false) with nx := live (.loop (loopAt Tryd.f105 1)) (LV.mk 917858 [(2, 917858), (1, 917538), (0, 32)] 16 0 false) }) (live (.loop (loopAt Tryd.f105 1)) (LV.mk 917858 [(2, 917858), (1, 917538), (0, 32)] 16 0 false)) (LV.mk 917858 [(2, 917858), (1, 917538), (0, 32)] 16 0 false) 0 67 R [EV.rsI IntKind.u32 x0 x1, EV.slice 0 0 x2 (some x3) 1, EV.int IntKind.i64 x4, EV.int IntKind.u32 x5, EV.int IntKind.u64 x6, EV.rsI IntKind.u32 x7 x8, EV.int IntKind.i64 x9, EV.int IntKind.i64 x10, EV.rsI IntKind.u32 x11 x12, EV.int IntKind.i64 x13, EV.int IntKind.i64 x14] [some (EV.arr IntKind.u32 x15 x16)] K = nat_times.l7.step (fun x0 x1 x2 x3 x4 x5 x6 x7 x8 x9 x10 x11 x12 x13 x14 x15 x16 => R [EV.rsI IntKind.u32 x0 x1, EV.slice 0 0 x2 (some x3) 1, EV.int IntKind.i64 x4, EV.int IntKind.u32 x5, EV.int IntKind.u64 x6, EV.rsI IntKind.u32 x7 x8, EV.int IntKind.i64 x9, EV.int IntKind.i64 x10, EV.rsI IntKind.u32 x11 x12, EV.int IntKind.i64 x13, EV.int IntKind.i64 x14] [some (EV.arr IntKind.u32 x15 x16)]) (fun y0 y1 y2 y3 y4 y5 y6 y7 y8 y9 y10 y11 => K (.exit 2) [EV.rsI IntKind.u32 y0 y1, EV.slice 0 0 y2 (some y3) 1, EV.int IntKind.i64 y4, EV.int IntKind.u64 y5, EV.rsI IntKind.u32 y6 y7, EV.int IntKind.i64 y8, EV.int IntKind.i64 y9] [some (EV.arr IntKind.u32 y10 y11)]) x0 x1 x2 x3 x4 x5 x6 x7 x8 x9 x10 x11 x12 x13 x14 x15 x16 := (stepQ_eq _ _ _ _ _ _ _ _ _ _ _).symm.trans (by kernel_rfl)
theorem nat_times.l7X.eq (K : Ex → List EV → Heap → Prop) : ∀ (n : Nat) (x0 : Nat) (x1 : Nat → Int) (x2 : Nat) (x3 : Nat) (x4 : Int) (x5 : Int) (x6 : Int) (x7 : Nat) (x8 : Nat → Int) (x9 : Int) (x10 : Int) (x11 : Nat) (x12 : Nat → Int) (x13 : Int) (x14 : Int) (x15 : Nat) (x16 : Nat → Int), loopE E_nat_times (loopAt Tryd.f105 1) (LV.mk 917858 [(2, 917858), (1, 917538), (0, 32)] 16 0 false) 0 67 K n [EV.rsI IntKind.u32 x0 x1, EV.slice 0 0 x2 (some x3) 1, EV.int IntKind.i64 x4, EV.int IntKind.u32 x5, EV.int IntKind.u64 x6, EV.rsI IntKind.u32 x7 x8, EV.int IntKind.i64 x9, EV.int IntKind.i64 x10, EV.rsI IntKind.u32 x11 x12, EV.int IntKind.i64 x13, EV.int IntKind.i64 x14] [some (EV.arr IntKind.u32 x15 x16)] = nat_times.l7 (fun y0 y1 y2 y3 y4 y5 y6 y7 y8 y9 y10 y11 => K (.exit 2) [EV.rsI IntKind.u32 y0 y1, EV.slice 0 0 y2 (some y3) 1, EV.int IntKind.i64 y4, EV.int IntKind.u64 y5, EV.rsI IntKind.u32 y6 y7, EV.int IntKind.i64 y8, EV.int IntKind.i64 y9] [some (EV.arr IntKind.u32 y10 y11)]) n x0 x1 x2 x3 x4 x5 x6 x7 x8 x9 x10 x11 x12 x13 x14 x15 x16
  | 0, _, _, _, _, _, _, _, _, _, _, _, _, _, _, _, _, _ => rfl
  | n + 1, x0, x1, x2, x3, x4, x5, x6, x7, x8, x9, x10, x11, x12, x13, x14, x15, x16 => by
    have ih : (fun (x0 : Nat) (x1 : Nat → Int) (x2 : Nat) (x3 : Nat) (x4 : Int) (x5 : Int) (x6 : Int) (x7 : Nat) (x8 : Nat → Int) (x9 : Int) (x10 : Int) (x11 : Nat) (x12 : Nat → Int) (x13 : Int) (x14 : Int) (x15 : Nat) (x16 : Nat → Int) => loopE E_nat_times (loopAt Tryd.f105 1) (LV.mk 917858 [(2, 917858), (1, 917538), (0, 32)] 16 0 false) 0 67 K n [EV.rsI IntKind.u32 x0 x1, EV.slice 0 0 x2 (some x3) 1, EV.int IntKind.i64 x4, EV.int IntKind.u32 x5, EV.int IntKind.u64 x6, EV.rsI IntKind.u32 x7 x8, EV.int IntKind.i64 x9, EV.int IntKind.i64 x10, EV.rsI IntKind.u32 x11 x12, EV.int IntKind.i64 x13, EV.int IntKind.i64 x14] [some (EV.arr IntKind.u32 x15 x16)]) = nat_times.l7 (fun y0 y1 y2 y3 y4 y5 y6 y7 y8 y9 y10 y11 => K (.exit 2) [EV.rsI IntKind.u32 y0 y1, EV.slice 0 0 y2 (some y3) 1, EV.int IntKind.i64 y4, EV.int IntKind.u64 y5, EV.rsI IntKind.u32 y6 y7, EV.int IntKind.i64 y8, EV.int IntKind.i64 y9] [some (EV.arr IntKind.u32 y10 y11)]) n := by funext x0 x1 x2 x3 x4 x5 x6 x7 x8 x9 x10 x11 x12 x13 x14 x15 x16; exact nat_times.l7X.eq K n x0 x1 x2 x3 x4 x5 x6 x7 x8 x9 x10 x11 x12 x13 x14 x15 x16
    show loopStep _ _ _ _ _ (loopE E_nat_times (loopAt Tryd.f105 1) (LV.mk 917858 [(2, 917858), (1, 917538), (0, 32)] 16 0 false) 0 67 K n) [EV.rsI IntKind.u32 x0 x1, EV.slice 0 0 x2 (some x3) 1, EV.int IntKind.i64 x4, EV.int IntKind.u32 x5, EV.int IntKind.u64 x6, EV.rsI IntKind.u32 x7 x8, EV.int IntKind.i64 x9, EV.int IntKind.i64 x10, EV.rsI IntKind.u32 x11 x12, EV.int IntKind.i64 x13, EV.int IntKind.i64 x14] [some (EV.arr IntKind.u32 x15 x16)] K = nat_times.l7.step (nat_times.l7 (fun y0 y1 y2 y3 y4 y5 y6 y7 y8 y9 y10 y11 => K (.exit 2) [EV.rsI IntKind.u32 y0 y1, EV.slice 0 0 y2 (some y3) 1, EV.int IntKind.i64 y4, EV.int IntKind.u64 y5, EV.rsI IntKind.u32 y6 y7, EV.int IntKind.i64 y8, EV.int IntKind.i64 y9] [some (EV.arr IntKind.u32 y10 y11)]) n) (fun y0 y1 y2 y3 y4 y5 y6 y7 y8 y9 y10 y11 => K (.exit 2) [EV.rsI IntKind.u32 y0 y1, EV.slice 0 0 y2 (some y3) 1, EV.int IntKind.i64 y4, EV.int IntKind.u64 y5, EV.rsI IntKind.u32 y6 y7, EV.int IntKind.i64 y8, EV.int IntKind.i64 y9] [some (EV.arr IntKind.u32 y10 y11)]) x0 x1 x2 x3 x4 x5 x6 x7 x8 x9 x10 x11 x12 x13 x14 x15 x16
    rw [← ih]
    exact nat_times.l7X.stepEq _ K x0 x1 x2 x3 x4 x5 x6 x7 x8 x9 x10 x11 x12 x13 x14 x15 x16
theorem nat_times.l7X.ok : LoopEq E_nat_times (loopAt Tryd.f105 1) := by
  intro L hL vs H
  have h1 : E_nat_times.lp (firstRegion (loopAt Tryd.f105 1)) = some nat_times.l7.entry := by kernel_rfl
  have h2 : L = nat_times.l7.entry := Option.some.inj (hL.symm.trans h1)
  subst h2
  by_cases hx : ∃ (x0 : Nat) (x1 : Nat → Int) (x2 : Nat) (x3 : Nat) (x4 : Int) (x5 : Int) (x6 : Int) (x7 : Nat) (x8 : Nat → Int) (x9 : Int) (x10 : Int) (x11 : Nat) (x12 : Nat → Int) (x13 : Int) (x14 : Int) (x15 : Nat) (x16 : Nat → Int), vs = [EV.rsI IntKind.u32 x0 x1, EV.slice 0 0 x2 (some x3) 1, EV.int IntKind.i64 x4, EV.int IntKind.u32 x5, EV.int IntKind.u64 x6, EV.rsI IntKind.u32 x7 x8, EV.int IntKind.i64 x9, EV.int IntKind.i64 x10, EV.rsI IntKind.u32 x11 x12, EV.int IntKind.i64 x13, EV.int IntKind.i64 x14] ∧ H = [some (EV.arr IntKind.u32 x15 x16)]
  · obtain ⟨x0, x1, x2, x3, x4, x5, x6, x7, x8, x9, x10, x11, x12, x13, x14, x15, x16, rfl, rfl⟩ := hx
    right; intro K
    exact exists_congr fun n => iff_of_eq (nat_times.l7X.eq K n x0 x1 x2 x3 x4 x5 x6 x7 x8 x9 x10 x11 x12 x13 x14 x15 x16).symm
  · left; intro K h
    simp only [nat_times.l7.entry] at h
    split at h
    · exact hx ⟨_, _, _, _, _, _, _, _, _, _, _, _, _, _, _, _, _, rfl, rfl⟩
    · exact h
theorem X_nat_times.eq (a0n : Nat) (a0 : Nat → Int) (a1n : Nat) (a1 : Nat → Int) (K : EV → Heap → Prop) : evFn E_nat_times Tryd.f105 false [.rsI .u32 a0n a0, .rsI .u32 a1n a1] [] K = nat_times a0n a0 a1n a1 (fun y0 y1 => K (EV.rsI IntKind.u32 y0 y1) []) := by
  have h : evFnQ E_nat_times Tryd.f105 false [.rsI .u32 a0n a0, .rsI .u32 a1n a1] [] K = nat_times.d a0n a0 a1n a1 (fun y0 y1 => K (EV.rsI IntKind.u32 y0 y1) []) := by kernel_rfl
  rw [nat_times.is]; exact (evFnQ_eq _ _ _ _ _ _).symm.trans h
theorem X_nat_times.ok : SoundE Tryd.prog gl 105 e_nat_times := by
  refine fnOK (E := E_nat_times) (fn := Tryd.f105) rfl tys_ok rfl (show AllL _ [(103, e_nat_cut)] from ⟨X_nat_cut.ok, trivial⟩) mixed (by kernel_rfl) (by kernel_rfl) (by kernel_rfl) 2 (by kernel_rfl) false ⟨nat_times.l3X.ok, nat_times.l7X.ok, trivial⟩ ?_
  intro args H
  by_cases hx : ∃ (a0n : Nat) (a0 : Nat → Int) (a1n : Nat) (a1 : Nat → Int), args = [.rsI .u32 a0n a0, .rsI .u32 a1n a1] ∧ H = []
  · obtain ⟨a0n, a0, a1n, a1, rfl, rfl⟩ := hx
    right; intro K
    exact iff_of_eq (X_nat_times.eq a0n a0 a1n a1 K).symm
  · left; intro K h
    simp only [e_nat_times] at h
    split at h
    · exact hx ⟨_, _, _, _, rfl, rfl⟩
    · exact h
noncomputable def e_nat_Mul : Entry := ⟨[none, none], false, fun args H K => match args, H with
  | [.str a0, .str a1], [] => nat_Mul a0 a1 (fun y0 y1 => K (EV.tuple [EV.str y0, EV.int IntKind.i64 y1]) [])
  | _, _ => False⟩
noncomputable def E_nat_Mul : Env := ⟨look tys, look [(72, e_nat_right), (73, e_nat_told), (75, e_nat_words), (105, e_nat_times)], look [], gl, lookL [], false⟩
theorem X_nat_Mul.eq (a0 : List UInt8) (a1 : List UInt8) (K : EV → Heap → Prop) : evFn E_nat_Mul Tryd.f79 false [.str a0, .str a1] [] K = nat_Mul a0 a1 (fun y0 y1 => K (EV.tuple [EV.str y0, EV.int IntKind.i64 y1]) []) := by
  have h : evFnQ E_nat_Mul Tryd.f79 false [.str a0, .str a1] [] K = nat_Mul.d a0 a1 (fun y0 y1 => K (EV.tuple [EV.str y0, EV.int IntKind.i64 y1]) []) := by kernel_rfl
  rw [nat_Mul.is]; exact (evFnQ_eq _ _ _ _ _ _).symm.trans h
theorem X_nat_Mul.ok : SoundE Tryd.prog gl 79 e_nat_Mul := by
  refine fnOK (E := E_nat_Mul) (fn := Tryd.f79) rfl tys_ok rfl (show AllL _ [(72, e_nat_right), (73, e_nat_told), (75, e_nat_words), (105, e_nat_times)] from ⟨X_nat_right.ok, X_nat_told.ok, X_nat_words.ok, X_nat_times.ok, trivial⟩) mixed (by kernel_rfl) (by kernel_rfl) (by kernel_rfl) 0 (by kernel_rfl) false trivial ?_
  intro args H
  by_cases hx : ∃ (a0 : List UInt8) (a1 : List UInt8), args = [.str a0, .str a1] ∧ H = []
  · obtain ⟨a0, a1, rfl, rfl⟩ := hx
    right; intro K
    exact iff_of_eq (X_nat_Mul.eq a0 a1 K).symm
  · left; intro K h
    simp only [e_nat_Mul] at h
    split at h
    · exact hx ⟨_, _, rfl, rfl⟩
    · exact h
noncomputable def e_exact_times : Entry := ⟨[none, none, none, none, none, none], false, fun args H K => match args, H with
  | [.bool a0, .str a1, .str a2, .str a3, .str a4, .int .i64 a5], [] => exact_times a0 a1 a2 a3 a4 a5 (fun y0 y1 y2 y3 y4 => K (EV.tuple [EV.agg [EV.bool y0, EV.str y1, EV.str y2, EV.int IntKind.i64 y3], EV.int IntKind.i64 y4]) [])
  | _, _ => False⟩
noncomputable def E_exact_times : Env := ⟨look tys, look [(15, e_exact_Make), (48, e_exact_within), (78, e_exact_firm_nat), (79, e_nat_Mul)], look [], gl, lookL [], false⟩
theorem X_exact_times.eq (a0 : Bool) (a1 : List UInt8) (a2 : List UInt8) (a3 : List UInt8) (a4 : List UInt8) (a5 : Int) (K : EV → Heap → Prop) : evFn E_exact_times Tryd.f64 false [.bool a0, .str a1, .str a2, .str a3, .str a4, .int .i64 a5] [] K = exact_times a0 a1 a2 a3 a4 a5 (fun y0 y1 y2 y3 y4 => K (EV.tuple [EV.agg [EV.bool y0, EV.str y1, EV.str y2, EV.int IntKind.i64 y3], EV.int IntKind.i64 y4]) []) := by
  have h : evFnQ E_exact_times Tryd.f64 false [.bool a0, .str a1, .str a2, .str a3, .str a4, .int .i64 a5] [] K = exact_times.d a0 a1 a2 a3 a4 a5 (fun y0 y1 y2 y3 y4 => K (EV.tuple [EV.agg [EV.bool y0, EV.str y1, EV.str y2, EV.int IntKind.i64 y3], EV.int IntKind.i64 y4]) []) := by kernel_rfl
  rw [exact_times.is]; exact (evFnQ_eq _ _ _ _ _ _).symm.trans h
theorem X_exact_times.ok : SoundE Tryd.prog gl 64 e_exact_times := by
  refine fnOK (E := E_exact_times) (fn := Tryd.f64) rfl tys_ok rfl (show AllL _ [(15, e_exact_Make), (48, e_exact_within), (78, e_exact_firm_nat), (79, e_nat_Mul)] from ⟨X_exact_Make.ok, X_exact_within.ok, X_exact_firm_nat.ok, X_nat_Mul.ok, trivial⟩) mixed (by kernel_rfl) (by kernel_rfl) (by kernel_rfl) 0 (by kernel_rfl) false trivial ?_
  intro args H
  by_cases hx : ∃ (a0 : Bool) (a1 : List UInt8) (a2 : List UInt8) (a3 : List UInt8) (a4 : List UInt8) (a5 : Int), args = [.bool a0, .str a1, .str a2, .str a3, .str a4, .int .i64 a5] ∧ H = []
  · obtain ⟨a0, a1, a2, a3, a4, a5, rfl, rfl⟩ := hx
    right; intro K
    exact iff_of_eq (X_exact_times.eq a0 a1 a2 a3 a4 a5 K).symm
  · left; intro K h
    simp only [e_exact_times] at h
    split at h
    · exact hx ⟨_, _, _, _, _, _, rfl, rfl⟩
    · exact h
noncomputable def e_exact_Mul : Entry := ⟨[none, none], false, fun args H K => match args, H with
  | [.agg [.bool a0_0, .str a0_1, .str a0_2, .int .i64 a0_3], .agg [.bool a1_0, .str a1_1, .str a1_2, .int .i64 a1_3]], [] => exact_Mul a0_0 a0_1 a0_2 a0_3 a1_0 a1_1 a1_2 a1_3 (fun y0 y1 y2 y3 y4 => K (EV.tuple [EV.agg [EV.bool y0, EV.str y1, EV.str y2, EV.int IntKind.i64 y3], EV.int IntKind.i64 y4]) [])
  | _, _ => False⟩
noncomputable def E_exact_Mul : Env := ⟨look tys, look [(49, e_exact_null), (63, e_exact_right), (64, e_exact_times)], look [], gl, lookL [], false⟩
theorem X_exact_Mul.eq (a0_0 : Bool) (a0_1 : List UInt8) (a0_2 : List UInt8) (a0_3 : Int) (a1_0 : Bool) (a1_1 : List UInt8) (a1_2 : List UInt8) (a1_3 : Int) (K : EV → Heap → Prop) : evFn E_exact_Mul Tryd.f27 false [.agg [.bool a0_0, .str a0_1, .str a0_2, .int .i64 a0_3], .agg [.bool a1_0, .str a1_1, .str a1_2, .int .i64 a1_3]] [] K = exact_Mul a0_0 a0_1 a0_2 a0_3 a1_0 a1_1 a1_2 a1_3 (fun y0 y1 y2 y3 y4 => K (EV.tuple [EV.agg [EV.bool y0, EV.str y1, EV.str y2, EV.int IntKind.i64 y3], EV.int IntKind.i64 y4]) []) := by
  have h : evFnQ E_exact_Mul Tryd.f27 false [.agg [.bool a0_0, .str a0_1, .str a0_2, .int .i64 a0_3], .agg [.bool a1_0, .str a1_1, .str a1_2, .int .i64 a1_3]] [] K = exact_Mul.d a0_0 a0_1 a0_2 a0_3 a1_0 a1_1 a1_2 a1_3 (fun y0 y1 y2 y3 y4 => K (EV.tuple [EV.agg [EV.bool y0, EV.str y1, EV.str y2, EV.int IntKind.i64 y3], EV.int IntKind.i64 y4]) []) := by kernel_rfl
  rw [exact_Mul.is]; exact (evFnQ_eq _ _ _ _ _ _).symm.trans h
theorem X_exact_Mul.ok : SoundE Tryd.prog gl 27 e_exact_Mul := by
  refine fnOK (E := E_exact_Mul) (fn := Tryd.f27) rfl tys_ok rfl (show AllL _ [(49, e_exact_null), (63, e_exact_right), (64, e_exact_times)] from ⟨X_exact_null.ok, X_exact_right.ok, X_exact_times.ok, trivial⟩) mixed (by kernel_rfl) (by kernel_rfl) (by kernel_rfl) 0 (by kernel_rfl) false trivial ?_
  intro args H
  by_cases hx : ∃ (a0_0 : Bool) (a0_1 : List UInt8) (a0_2 : List UInt8) (a0_3 : Int) (a1_0 : Bool) (a1_1 : List UInt8) (a1_2 : List UInt8) (a1_3 : Int), args = [.agg [.bool a0_0, .str a0_1, .str a0_2, .int .i64 a0_3], .agg [.bool a1_0, .str a1_1, .str a1_2, .int .i64 a1_3]] ∧ H = []
  · obtain ⟨a0_0, a0_1, a0_2, a0_3, a1_0, a1_1, a1_2, a1_3, rfl, rfl⟩ := hx
    right; intro K
    exact iff_of_eq (X_exact_Mul.eq a0_0 a0_1 a0_2 a0_3 a1_0 a1_1 a1_2 a1_3 K).symm
  · left; intro K h
    simp only [e_exact_Mul] at h
    split at h
    · exact hx ⟨_, _, _, _, _, _, _, _, rfl, rfl⟩
    · exact h
noncomputable def e_exact_Quo : Entry := ⟨[none, none], false, fun args H K => match args, H with
  | [.agg [.bool a0_0, .str a0_1, .str a0_2, .int .i64 a0_3], .agg [.bool a1_0, .str a1_1, .str a1_2, .int .i64 a1_3]], [] => exact_Quo a0_0 a0_1 a0_2 a0_3 a1_0 a1_1 a1_2 a1_3 (fun y0 y1 y2 y3 y4 => K (EV.tuple [EV.agg [EV.bool y0, EV.str y1, EV.str y2, EV.int IntKind.i64 y3], EV.int IntKind.i64 y4]) [])
  | _, _ => False⟩
noncomputable def E_exact_Quo : Env := ⟨look tys, look [(49, e_exact_null), (63, e_exact_right), (64, e_exact_times)], look [], gl, lookL [], false⟩
theorem X_exact_Quo.eq (a0_0 : Bool) (a0_1 : List UInt8) (a0_2 : List UInt8) (a0_3 : Int) (a1_0 : Bool) (a1_1 : List UInt8) (a1_2 : List UInt8) (a1_3 : Int) (K : EV → Heap → Prop) : evFn E_exact_Quo Tryd.f28 false [.agg [.bool a0_0, .str a0_1, .str a0_2, .int .i64 a0_3], .agg [.bool a1_0, .str a1_1, .str a1_2, .int .i64 a1_3]] [] K = exact_Quo a0_0 a0_1 a0_2 a0_3 a1_0 a1_1 a1_2 a1_3 (fun y0 y1 y2 y3 y4 => K (EV.tuple [EV.agg [EV.bool y0, EV.str y1, EV.str y2, EV.int IntKind.i64 y3], EV.int IntKind.i64 y4]) []) := by
  have h : evFnQ E_exact_Quo Tryd.f28 false [.agg [.bool a0_0, .str a0_1, .str a0_2, .int .i64 a0_3], .agg [.bool a1_0, .str a1_1, .str a1_2, .int .i64 a1_3]] [] K = exact_Quo.d a0_0 a0_1 a0_2 a0_3 a1_0 a1_1 a1_2 a1_3 (fun y0 y1 y2 y3 y4 => K (EV.tuple [EV.agg [EV.bool y0, EV.str y1, EV.str y2, EV.int IntKind.i64 y3], EV.int IntKind.i64 y4]) []) := by kernel_rfl
  rw [exact_Quo.is]; exact (evFnQ_eq _ _ _ _ _ _).symm.trans h
theorem X_exact_Quo.ok : SoundE Tryd.prog gl 28 e_exact_Quo := by
  refine fnOK (E := E_exact_Quo) (fn := Tryd.f28) rfl tys_ok rfl (show AllL _ [(49, e_exact_null), (63, e_exact_right), (64, e_exact_times)] from ⟨X_exact_null.ok, X_exact_right.ok, X_exact_times.ok, trivial⟩) mixed (by kernel_rfl) (by kernel_rfl) (by kernel_rfl) 0 (by kernel_rfl) false trivial ?_
  intro args H
  by_cases hx : ∃ (a0_0 : Bool) (a0_1 : List UInt8) (a0_2 : List UInt8) (a0_3 : Int) (a1_0 : Bool) (a1_1 : List UInt8) (a1_2 : List UInt8) (a1_3 : Int), args = [.agg [.bool a0_0, .str a0_1, .str a0_2, .int .i64 a0_3], .agg [.bool a1_0, .str a1_1, .str a1_2, .int .i64 a1_3]] ∧ H = []
  · obtain ⟨a0_0, a0_1, a0_2, a0_3, a1_0, a1_1, a1_2, a1_3, rfl, rfl⟩ := hx
    right; intro K
    exact iff_of_eq (X_exact_Quo.eq a0_0 a0_1 a0_2 a0_3 a1_0 a1_1 a1_2 a1_3 K).symm
  · left; intro K h
    simp only [e_exact_Quo] at h
    split at h
    · exact hx ⟨_, _, _, _, _, _, _, _, rfl, rfl⟩
    · exact h
noncomputable def e_nat_Len : Entry := ⟨[none], false, fun args H K => match args, H with
  | [.str a0], [] => nat_Len a0 (fun y0 => K (EV.int IntKind.i64 y0) [])
  | _, _ => False⟩
noncomputable def E_nat_Len : Env := ⟨look tys, look [(46, e_nat_Check), (109, e_word_Len)], look [], gl, lookL [], false⟩
theorem X_nat_Len.eq (a0 : List UInt8) (K : EV → Heap → Prop) : evFn E_nat_Len Tryd.f100 false [.str a0] [] K = nat_Len a0 (fun y0 => K (EV.int IntKind.i64 y0) []) := by
  have h : evFnQ E_nat_Len Tryd.f100 false [.str a0] [] K = nat_Len.d a0 (fun y0 => K (EV.int IntKind.i64 y0) []) := by kernel_rfl
  rw [nat_Len.is]; exact (evFnQ_eq _ _ _ _ _ _).symm.trans h
theorem X_nat_Len.ok : SoundE Tryd.prog gl 100 e_nat_Len := by
  refine fnOK (E := E_nat_Len) (fn := Tryd.f100) rfl tys_ok rfl (show AllL _ [(46, e_nat_Check), (109, e_word_Len)] from ⟨X_nat_Check.ok, X_word_Len.ok, trivial⟩) mixed (by kernel_rfl) (by kernel_rfl) (by kernel_rfl) 0 (by kernel_rfl) false trivial ?_
  intro args H
  by_cases hx : ∃ (a0 : List UInt8), args = [.str a0] ∧ H = []
  · obtain ⟨a0, rfl, rfl⟩ := hx
    right; intro K
    exact iff_of_eq (X_nat_Len.eq a0 K).symm
  · left; intro K h
    simp only [e_nat_Len] at h
    split at h
    · exact hx ⟨_, rfl, rfl⟩
    · exact h
noncomputable def e_nat_Left : Entry := ⟨[none, none], false, fun args H K => match args, H with
  | [.str a0, .int .i64 a1], [] => nat_Left a0 a1 (fun y0 y1 => K (EV.tuple [EV.str y0, EV.int IntKind.i64 y1]) [])
  | _, _ => False⟩
noncomputable def E_nat_Left : Env := ⟨look tys, look [(46, e_nat_Check), (73, e_nat_told), (75, e_nat_words), (100, e_nat_Len), (101, e_nat_up)], look [], gl, lookL [], false⟩
theorem X_nat_Left.eq (a0 : List UInt8) (a1 : Int) (K : EV → Heap → Prop) : evFn E_nat_Left Tryd.f67 false [.str a0, .int .i64 a1] [] K = nat_Left a0 a1 (fun y0 y1 => K (EV.tuple [EV.str y0, EV.int IntKind.i64 y1]) []) := by
  have h : evFnQ E_nat_Left Tryd.f67 false [.str a0, .int .i64 a1] [] K = nat_Left.d a0 a1 (fun y0 y1 => K (EV.tuple [EV.str y0, EV.int IntKind.i64 y1]) []) := by kernel_rfl
  rw [nat_Left.is]; exact (evFnQ_eq _ _ _ _ _ _).symm.trans h
theorem X_nat_Left.ok : SoundE Tryd.prog gl 67 e_nat_Left := by
  refine fnOK (E := E_nat_Left) (fn := Tryd.f67) rfl tys_ok rfl (show AllL _ [(46, e_nat_Check), (73, e_nat_told), (75, e_nat_words), (100, e_nat_Len), (101, e_nat_up)] from ⟨X_nat_Check.ok, X_nat_told.ok, X_nat_words.ok, X_nat_Len.ok, X_nat_up.ok, trivial⟩) mixed (by kernel_rfl) (by kernel_rfl) (by kernel_rfl) 0 (by kernel_rfl) false trivial ?_
  intro args H
  by_cases hx : ∃ (a0 : List UInt8) (a1 : Int), args = [.str a0, .int .i64 a1] ∧ H = []
  · obtain ⟨a0, a1, rfl, rfl⟩ := hx
    right; intro K
    exact iff_of_eq (X_nat_Left.eq a0 a1 K).symm
  · left; intro K h
    simp only [e_nat_Left] at h
    split at h
    · exact hx ⟨_, _, rfl, rfl⟩
    · exact h
noncomputable def e_nat_Cmp : Entry := ⟨[none, none], false, fun args H K => match args, H with
  | [.str a0, .str a1], [] => nat_Cmp a0 a1 (fun y0 y1 => K (EV.tuple [EV.int IntKind.i64 y0, EV.int IntKind.i64 y1]) [])
  | _, _ => False⟩
noncomputable def E_nat_Cmp : Env := ⟨look tys, look [(72, e_nat_right), (75, e_nat_words), (104, e_nat_cmp)], look [], gl, lookL [], false⟩
theorem X_nat_Cmp.eq (a0 : List UInt8) (a1 : List UInt8) (K : EV → Heap → Prop) : evFn E_nat_Cmp Tryd.f77 false [.str a0, .str a1] [] K = nat_Cmp a0 a1 (fun y0 y1 => K (EV.tuple [EV.int IntKind.i64 y0, EV.int IntKind.i64 y1]) []) := by
  have h : evFnQ E_nat_Cmp Tryd.f77 false [.str a0, .str a1] [] K = nat_Cmp.d a0 a1 (fun y0 y1 => K (EV.tuple [EV.int IntKind.i64 y0, EV.int IntKind.i64 y1]) []) := by kernel_rfl
  rw [nat_Cmp.is]; exact (evFnQ_eq _ _ _ _ _ _).symm.trans h
theorem X_nat_Cmp.ok : SoundE Tryd.prog gl 77 e_nat_Cmp := by
  refine fnOK (E := E_nat_Cmp) (fn := Tryd.f77) rfl tys_ok rfl (show AllL _ [(72, e_nat_right), (75, e_nat_words), (104, e_nat_cmp)] from ⟨X_nat_right.ok, X_nat_words.ok, X_nat_cmp.ok, trivial⟩) mixed (by kernel_rfl) (by kernel_rfl) (by kernel_rfl) 0 (by kernel_rfl) false trivial ?_
  intro args H
  by_cases hx : ∃ (a0 : List UInt8) (a1 : List UInt8), args = [.str a0, .str a1] ∧ H = []
  · obtain ⟨a0, a1, rfl, rfl⟩ := hx
    right; intro K
    exact iff_of_eq (X_nat_Cmp.eq a0 a1 K).symm
  · left; intro K h
    simp only [e_nat_Cmp] at h
    split at h
    · exact hx ⟨_, _, rfl, rfl⟩
    · exact h
noncomputable def e_exact_level : Entry := ⟨[none, none], false, fun args H K => match args, H with
  | [.agg [.bool a0_0, .str a0_1, .str a0_2, .int .i64 a0_3], .agg [.bool a1_0, .str a1_1, .str a1_2, .int .i64 a1_3]], [] => exact_level a0_0 a0_1 a0_2 a0_3 a1_0 a1_1 a1_2 a1_3 (fun y0 y1 y2 y3 => K (EV.tuple [EV.str y0, EV.str y1, EV.int IntKind.i64 y2, EV.int IntKind.i64 y3]) [])
  | _, _ => False⟩
noncomputable def E_exact_level : Env := ⟨look tys, look [(67, e_nat_Left), (78, e_exact_firm_nat), (79, e_nat_Mul)], look [], gl, lookL [], false⟩
theorem X_exact_level.eq (a0_0 : Bool) (a0_1 : List UInt8) (a0_2 : List UInt8) (a0_3 : Int) (a1_0 : Bool) (a1_1 : List UInt8) (a1_2 : List UInt8) (a1_3 : Int) (K : EV → Heap → Prop) : evFn E_exact_level Tryd.f76 false [.agg [.bool a0_0, .str a0_1, .str a0_2, .int .i64 a0_3], .agg [.bool a1_0, .str a1_1, .str a1_2, .int .i64 a1_3]] [] K = exact_level a0_0 a0_1 a0_2 a0_3 a1_0 a1_1 a1_2 a1_3 (fun y0 y1 y2 y3 => K (EV.tuple [EV.str y0, EV.str y1, EV.int IntKind.i64 y2, EV.int IntKind.i64 y3]) []) := by
  have h : evFnQ E_exact_level Tryd.f76 false [.agg [.bool a0_0, .str a0_1, .str a0_2, .int .i64 a0_3], .agg [.bool a1_0, .str a1_1, .str a1_2, .int .i64 a1_3]] [] K = exact_level.d a0_0 a0_1 a0_2 a0_3 a1_0 a1_1 a1_2 a1_3 (fun y0 y1 y2 y3 => K (EV.tuple [EV.str y0, EV.str y1, EV.int IntKind.i64 y2, EV.int IntKind.i64 y3]) []) := by kernel_rfl
  rw [exact_level.is]; exact (evFnQ_eq _ _ _ _ _ _).symm.trans h
theorem X_exact_level.ok : SoundE Tryd.prog gl 76 e_exact_level := by
  refine fnOK (E := E_exact_level) (fn := Tryd.f76) rfl tys_ok rfl (show AllL _ [(67, e_nat_Left), (78, e_exact_firm_nat), (79, e_nat_Mul)] from ⟨X_nat_Left.ok, X_exact_firm_nat.ok, X_nat_Mul.ok, trivial⟩) mixed (by kernel_rfl) (by kernel_rfl) (by kernel_rfl) 0 (by kernel_rfl) false trivial ?_
  intro args H
  by_cases hx : ∃ (a0_0 : Bool) (a0_1 : List UInt8) (a0_2 : List UInt8) (a0_3 : Int) (a1_0 : Bool) (a1_1 : List UInt8) (a1_2 : List UInt8) (a1_3 : Int), args = [.agg [.bool a0_0, .str a0_1, .str a0_2, .int .i64 a0_3], .agg [.bool a1_0, .str a1_1, .str a1_2, .int .i64 a1_3]] ∧ H = []
  · obtain ⟨a0_0, a0_1, a0_2, a0_3, a1_0, a1_1, a1_2, a1_3, rfl, rfl⟩ := hx
    right; intro K
    exact iff_of_eq (X_exact_level.eq a0_0 a0_1 a0_2 a0_3 a1_0 a1_1 a1_2 a1_3 K).symm
  · left; intro K h
    simp only [e_exact_level] at h
    split at h
    · exact hx ⟨_, _, _, _, _, _, _, _, rfl, rfl⟩
    · exact h
noncomputable def e_nat_sum : Entry := ⟨[some .u32, some .u32], false, fun args H K => match args, H with
  | [.rsI .u32 a0n a0, .rsI .u32 a1n a1], [] => nat_sum a0n a0 a1n a1 (fun y0 y1 => K (EV.rsI IntKind.u32 y0 y1) [])
  | _, _ => False⟩
noncomputable def E_nat_sum : Env := ⟨look tys, look [(103, e_nat_cut)], look [(7, nat_sum.l7.entry)], gl, lookL [], false⟩
theorem nat_sum.l7X.stepEq (R : List EV → Heap → Prop) (K : Ex → List EV → Heap → Prop) (x0 : Nat) (x1 : Nat → Int) (x2 : Nat) (x3 : Nat) (x4 : Int) (x5 : Int) (x6 : Nat) (x7 : Nat → Int) : loopStep (evCode E_nat_sum (loopAt Tryd.f74 0) { (LV.mk 32 [(0, 32)] 16 0 false) with nx := live (.loop (loopAt Tryd.f74 0)) (LV.mk 32 [(0, 32)] 16 0 false) }) (live (.loop (loopAt Tryd.f74 0)) (LV.mk 32 [(0, 32)] 16 0 false)) (LV.mk 32 [(0, 32)] 16 0 false) 0 59 R [EV.rsI IntKind.u32 x0 x1, EV.slice 0 0 x2 (some x3) 1, EV.int IntKind.u64 x4, EV.int IntKind.i64 x5] [some (EV.arr IntKind.u32 x6 x7)] K = nat_sum.l7.step (fun x0 x1 x2 x3 x4 x5 x6 x7 => R [EV.rsI IntKind.u32 x0 x1, EV.slice 0 0 x2 (some x3) 1, EV.int IntKind.u64 x4, EV.int IntKind.i64 x5] [some (EV.arr IntKind.u32 x6 x7)]) (fun y0 y1 y2 y3 => K (.exit 0) [EV.slice 0 0 y0 (some y1) 1] [some (EV.arr IntKind.u32 y2 y3)]) x0 x1 x2 x3 x4 x5 x6 x7 := (stepQ_eq _ _ _ _ _ _ _ _ _ _ _).symm.trans (by kernel_rfl)
theorem nat_sum.l7X.eq (K : Ex → List EV → Heap → Prop) : ∀ (n : Nat) (x0 : Nat) (x1 : Nat → Int) (x2 : Nat) (x3 : Nat) (x4 : Int) (x5 : Int) (x6 : Nat) (x7 : Nat → Int), loopE E_nat_sum (loopAt Tryd.f74 0) (LV.mk 32 [(0, 32)] 16 0 false) 0 59 K n [EV.rsI IntKind.u32 x0 x1, EV.slice 0 0 x2 (some x3) 1, EV.int IntKind.u64 x4, EV.int IntKind.i64 x5] [some (EV.arr IntKind.u32 x6 x7)] = nat_sum.l7 (fun y0 y1 y2 y3 => K (.exit 0) [EV.slice 0 0 y0 (some y1) 1] [some (EV.arr IntKind.u32 y2 y3)]) n x0 x1 x2 x3 x4 x5 x6 x7
  | 0, _, _, _, _, _, _, _, _ => rfl
  | n + 1, x0, x1, x2, x3, x4, x5, x6, x7 => by
    have ih : (fun (x0 : Nat) (x1 : Nat → Int) (x2 : Nat) (x3 : Nat) (x4 : Int) (x5 : Int) (x6 : Nat) (x7 : Nat → Int) => loopE E_nat_sum (loopAt Tryd.f74 0) (LV.mk 32 [(0, 32)] 16 0 false) 0 59 K n [EV.rsI IntKind.u32 x0 x1, EV.slice 0 0 x2 (some x3) 1, EV.int IntKind.u64 x4, EV.int IntKind.i64 x5] [some (EV.arr IntKind.u32 x6 x7)]) = nat_sum.l7 (fun y0 y1 y2 y3 => K (.exit 0) [EV.slice 0 0 y0 (some y1) 1] [some (EV.arr IntKind.u32 y2 y3)]) n := by funext x0 x1 x2 x3 x4 x5 x6 x7; exact nat_sum.l7X.eq K n x0 x1 x2 x3 x4 x5 x6 x7
    show loopStep _ _ _ _ _ (loopE E_nat_sum (loopAt Tryd.f74 0) (LV.mk 32 [(0, 32)] 16 0 false) 0 59 K n) [EV.rsI IntKind.u32 x0 x1, EV.slice 0 0 x2 (some x3) 1, EV.int IntKind.u64 x4, EV.int IntKind.i64 x5] [some (EV.arr IntKind.u32 x6 x7)] K = nat_sum.l7.step (nat_sum.l7 (fun y0 y1 y2 y3 => K (.exit 0) [EV.slice 0 0 y0 (some y1) 1] [some (EV.arr IntKind.u32 y2 y3)]) n) (fun y0 y1 y2 y3 => K (.exit 0) [EV.slice 0 0 y0 (some y1) 1] [some (EV.arr IntKind.u32 y2 y3)]) x0 x1 x2 x3 x4 x5 x6 x7
    rw [← ih]
    exact nat_sum.l7X.stepEq _ K x0 x1 x2 x3 x4 x5 x6 x7
theorem nat_sum.l7X.ok : LoopEq E_nat_sum (loopAt Tryd.f74 0) := by
  intro L hL vs H
  have h1 : E_nat_sum.lp (firstRegion (loopAt Tryd.f74 0)) = some nat_sum.l7.entry := by kernel_rfl
  have h2 : L = nat_sum.l7.entry := Option.some.inj (hL.symm.trans h1)
  subst h2
  by_cases hx : ∃ (x0 : Nat) (x1 : Nat → Int) (x2 : Nat) (x3 : Nat) (x4 : Int) (x5 : Int) (x6 : Nat) (x7 : Nat → Int), vs = [EV.rsI IntKind.u32 x0 x1, EV.slice 0 0 x2 (some x3) 1, EV.int IntKind.u64 x4, EV.int IntKind.i64 x5] ∧ H = [some (EV.arr IntKind.u32 x6 x7)]
  · obtain ⟨x0, x1, x2, x3, x4, x5, x6, x7, rfl, rfl⟩ := hx
    right; intro K
    exact exists_congr fun n => iff_of_eq (nat_sum.l7X.eq K n x0 x1 x2 x3 x4 x5 x6 x7).symm
  · left; intro K h
    simp only [nat_sum.l7.entry] at h
    split at h
    · exact hx ⟨_, _, _, _, _, _, _, _, rfl, rfl⟩
    · exact h
theorem X_nat_sum.eq (a0n : Nat) (a0 : Nat → Int) (a1n : Nat) (a1 : Nat → Int) (K : EV → Heap → Prop) : evFn E_nat_sum Tryd.f74 false [.rsI .u32 a0n a0, .rsI .u32 a1n a1] [] K = nat_sum a0n a0 a1n a1 (fun y0 y1 => K (EV.rsI IntKind.u32 y0 y1) []) := by
  have h : evFnQ E_nat_sum Tryd.f74 false [.rsI .u32 a0n a0, .rsI .u32 a1n a1] [] K = nat_sum.d a0n a0 a1n a1 (fun y0 y1 => K (EV.rsI IntKind.u32 y0 y1) []) := by kernel_rfl
  rw [nat_sum.is]; exact (evFnQ_eq _ _ _ _ _ _).symm.trans h
theorem X_nat_sum.ok : SoundE Tryd.prog gl 74 e_nat_sum := by
  refine fnOK (E := E_nat_sum) (fn := Tryd.f74) rfl tys_ok rfl (show AllL _ [(103, e_nat_cut)] from ⟨X_nat_cut.ok, trivial⟩) mixed (by kernel_rfl) (by kernel_rfl) (by kernel_rfl) 1 (by kernel_rfl) false ⟨nat_sum.l7X.ok, trivial⟩ ?_
  intro args H
  by_cases hx : ∃ (a0n : Nat) (a0 : Nat → Int) (a1n : Nat) (a1 : Nat → Int), args = [.rsI .u32 a0n a0, .rsI .u32 a1n a1] ∧ H = []
  · obtain ⟨a0n, a0, a1n, a1, rfl, rfl⟩ := hx
    right; intro K
    exact iff_of_eq (X_nat_sum.eq a0n a0 a1n a1 K).symm
  · left; intro K h
    simp only [e_nat_sum] at h
    split at h
    · exact hx ⟨_, _, _, _, rfl, rfl⟩
    · exact h
noncomputable def e_nat_Add : Entry := ⟨[none, none], false, fun args H K => match args, H with
  | [.str a0, .str a1], [] => nat_Add a0 a1 (fun y0 y1 => K (EV.tuple [EV.str y0, EV.int IntKind.i64 y1]) [])
  | _, _ => False⟩
noncomputable def E_nat_Add : Env := ⟨look tys, look [(72, e_nat_right), (73, e_nat_told), (74, e_nat_sum), (75, e_nat_words)], look [], gl, lookL [], false⟩
theorem X_nat_Add.eq (a0 : List UInt8) (a1 : List UInt8) (K : EV → Heap → Prop) : evFn E_nat_Add Tryd.f37 false [.str a0, .str a1] [] K = nat_Add a0 a1 (fun y0 y1 => K (EV.tuple [EV.str y0, EV.int IntKind.i64 y1]) []) := by
  have h : evFnQ E_nat_Add Tryd.f37 false [.str a0, .str a1] [] K = nat_Add.d a0 a1 (fun y0 y1 => K (EV.tuple [EV.str y0, EV.int IntKind.i64 y1]) []) := by kernel_rfl
  rw [nat_Add.is]; exact (evFnQ_eq _ _ _ _ _ _).symm.trans h
theorem X_nat_Add.ok : SoundE Tryd.prog gl 37 e_nat_Add := by
  refine fnOK (E := E_nat_Add) (fn := Tryd.f37) rfl tys_ok rfl (show AllL _ [(72, e_nat_right), (73, e_nat_told), (74, e_nat_sum), (75, e_nat_words)] from ⟨X_nat_right.ok, X_nat_told.ok, X_nat_sum.ok, X_nat_words.ok, trivial⟩) mixed (by kernel_rfl) (by kernel_rfl) (by kernel_rfl) 0 (by kernel_rfl) false trivial ?_
  intro args H
  by_cases hx : ∃ (a0 : List UInt8) (a1 : List UInt8), args = [.str a0, .str a1] ∧ H = []
  · obtain ⟨a0, a1, rfl, rfl⟩ := hx
    right; intro K
    exact iff_of_eq (X_nat_Add.eq a0 a1 K).symm
  · left; intro K h
    simp only [e_nat_Add] at h
    split at h
    · exact hx ⟨_, _, rfl, rfl⟩
    · exact h
noncomputable def e_nat_less : Entry := ⟨[some .u32, some .u32], false, fun args H K => match args, H with
  | [.rsI .u32 a0n a0, .rsI .u32 a1n a1], [] => nat_less a0n a0 a1n a1 (fun y0 y1 => K (EV.rsI IntKind.u32 y0 y1) [])
  | _, _ => False⟩
noncomputable def E_nat_less : Env := ⟨look tys, look [(103, e_nat_cut)], look [(4, nat_less.l4.entry)], gl, lookL [], false⟩
theorem nat_less.l4X.stepEq (R : List EV → Heap → Prop) (K : Ex → List EV → Heap → Prop) (x0 : Nat) (x1 : Nat → Int) (x2 : Nat) (x3 : Nat → Int) (x4 : Nat) (x5 : Nat) (x6 : Int) (x7 : Int) (x8 : Int) (x9 : Nat) (x10 : Nat → Int) : loopStep (evCode E_nat_less (loopAt Tryd.f106 0) { (LV.mk 32 [(0, 32)] 16 0 false) with nx := live (.loop (loopAt Tryd.f106 0)) (LV.mk 32 [(0, 32)] 16 0 false) }) (live (.loop (loopAt Tryd.f106 0)) (LV.mk 32 [(0, 32)] 16 0 false)) (LV.mk 32 [(0, 32)] 16 0 false) 0 44 R [EV.rsI IntKind.u32 x0 x1, EV.rsI IntKind.u32 x2 x3, EV.slice 0 0 x4 (some x5) 1, EV.int IntKind.i64 x6, EV.int IntKind.i64 x7, EV.int IntKind.i64 x8] [some (EV.arr IntKind.u32 x9 x10)] K = nat_less.l4.step (fun x0 x1 x2 x3 x4 x5 x6 x7 x8 x9 x10 => R [EV.rsI IntKind.u32 x0 x1, EV.rsI IntKind.u32 x2 x3, EV.slice 0 0 x4 (some x5) 1, EV.int IntKind.i64 x6, EV.int IntKind.i64 x7, EV.int IntKind.i64 x8] [some (EV.arr IntKind.u32 x9 x10)]) (fun y0 y1 y2 y3 => K (.exit 0) [EV.slice 0 0 y0 (some y1) 1] [some (EV.arr IntKind.u32 y2 y3)]) x0 x1 x2 x3 x4 x5 x6 x7 x8 x9 x10 := (stepQ_eq _ _ _ _ _ _ _ _ _ _ _).symm.trans (by kernel_rfl)
theorem nat_less.l4X.eq (K : Ex → List EV → Heap → Prop) : ∀ (n : Nat) (x0 : Nat) (x1 : Nat → Int) (x2 : Nat) (x3 : Nat → Int) (x4 : Nat) (x5 : Nat) (x6 : Int) (x7 : Int) (x8 : Int) (x9 : Nat) (x10 : Nat → Int), loopE E_nat_less (loopAt Tryd.f106 0) (LV.mk 32 [(0, 32)] 16 0 false) 0 44 K n [EV.rsI IntKind.u32 x0 x1, EV.rsI IntKind.u32 x2 x3, EV.slice 0 0 x4 (some x5) 1, EV.int IntKind.i64 x6, EV.int IntKind.i64 x7, EV.int IntKind.i64 x8] [some (EV.arr IntKind.u32 x9 x10)] = nat_less.l4 (fun y0 y1 y2 y3 => K (.exit 0) [EV.slice 0 0 y0 (some y1) 1] [some (EV.arr IntKind.u32 y2 y3)]) n x0 x1 x2 x3 x4 x5 x6 x7 x8 x9 x10
  | 0, _, _, _, _, _, _, _, _, _, _, _ => rfl
  | n + 1, x0, x1, x2, x3, x4, x5, x6, x7, x8, x9, x10 => by
    have ih : (fun (x0 : Nat) (x1 : Nat → Int) (x2 : Nat) (x3 : Nat → Int) (x4 : Nat) (x5 : Nat) (x6 : Int) (x7 : Int) (x8 : Int) (x9 : Nat) (x10 : Nat → Int) => loopE E_nat_less (loopAt Tryd.f106 0) (LV.mk 32 [(0, 32)] 16 0 false) 0 44 K n [EV.rsI IntKind.u32 x0 x1, EV.rsI IntKind.u32 x2 x3, EV.slice 0 0 x4 (some x5) 1, EV.int IntKind.i64 x6, EV.int IntKind.i64 x7, EV.int IntKind.i64 x8] [some (EV.arr IntKind.u32 x9 x10)]) = nat_less.l4 (fun y0 y1 y2 y3 => K (.exit 0) [EV.slice 0 0 y0 (some y1) 1] [some (EV.arr IntKind.u32 y2 y3)]) n := by funext x0 x1 x2 x3 x4 x5 x6 x7 x8 x9 x10; exact nat_less.l4X.eq K n x0 x1 x2 x3 x4 x5 x6 x7 x8 x9 x10
    show loopStep _ _ _ _ _ (loopE E_nat_less (loopAt Tryd.f106 0) (LV.mk 32 [(0, 32)] 16 0 false) 0 44 K n) [EV.rsI IntKind.u32 x0 x1, EV.rsI IntKind.u32 x2 x3, EV.slice 0 0 x4 (some x5) 1, EV.int IntKind.i64 x6, EV.int IntKind.i64 x7, EV.int IntKind.i64 x8] [some (EV.arr IntKind.u32 x9 x10)] K = nat_less.l4.step (nat_less.l4 (fun y0 y1 y2 y3 => K (.exit 0) [EV.slice 0 0 y0 (some y1) 1] [some (EV.arr IntKind.u32 y2 y3)]) n) (fun y0 y1 y2 y3 => K (.exit 0) [EV.slice 0 0 y0 (some y1) 1] [some (EV.arr IntKind.u32 y2 y3)]) x0 x1 x2 x3 x4 x5 x6 x7 x8 x9 x10
    rw [← ih]
    exact nat_less.l4X.stepEq _ K x0 x1 x2 x3 x4 x5 x6 x7 x8 x9 x10
theorem nat_less.l4X.ok : LoopEq E_nat_less (loopAt Tryd.f106 0) := by
  intro L hL vs H
  have h1 : E_nat_less.lp (firstRegion (loopAt Tryd.f106 0)) = some nat_less.l4.entry := by kernel_rfl
  have h2 : L = nat_less.l4.entry := Option.some.inj (hL.symm.trans h1)
  subst h2
  by_cases hx : ∃ (x0 : Nat) (x1 : Nat → Int) (x2 : Nat) (x3 : Nat → Int) (x4 : Nat) (x5 : Nat) (x6 : Int) (x7 : Int) (x8 : Int) (x9 : Nat) (x10 : Nat → Int), vs = [EV.rsI IntKind.u32 x0 x1, EV.rsI IntKind.u32 x2 x3, EV.slice 0 0 x4 (some x5) 1, EV.int IntKind.i64 x6, EV.int IntKind.i64 x7, EV.int IntKind.i64 x8] ∧ H = [some (EV.arr IntKind.u32 x9 x10)]
  · obtain ⟨x0, x1, x2, x3, x4, x5, x6, x7, x8, x9, x10, rfl, rfl⟩ := hx
    right; intro K
    exact exists_congr fun n => iff_of_eq (nat_less.l4X.eq K n x0 x1 x2 x3 x4 x5 x6 x7 x8 x9 x10).symm
  · left; intro K h
    simp only [nat_less.l4.entry] at h
    split at h
    · exact hx ⟨_, _, _, _, _, _, _, _, _, _, _, rfl, rfl⟩
    · exact h
theorem X_nat_less.eq (a0n : Nat) (a0 : Nat → Int) (a1n : Nat) (a1 : Nat → Int) (K : EV → Heap → Prop) : evFn E_nat_less Tryd.f106 false [.rsI .u32 a0n a0, .rsI .u32 a1n a1] [] K = nat_less a0n a0 a1n a1 (fun y0 y1 => K (EV.rsI IntKind.u32 y0 y1) []) := by
  have h : evFnQ E_nat_less Tryd.f106 false [.rsI .u32 a0n a0, .rsI .u32 a1n a1] [] K = nat_less.d a0n a0 a1n a1 (fun y0 y1 => K (EV.rsI IntKind.u32 y0 y1) []) := by kernel_rfl
  rw [nat_less.is]; exact (evFnQ_eq _ _ _ _ _ _).symm.trans h
theorem X_nat_less.ok : SoundE Tryd.prog gl 106 e_nat_less := by
  refine fnOK (E := E_nat_less) (fn := Tryd.f106) rfl tys_ok rfl (show AllL _ [(103, e_nat_cut)] from ⟨X_nat_cut.ok, trivial⟩) mixed (by kernel_rfl) (by kernel_rfl) (by kernel_rfl) 1 (by kernel_rfl) false ⟨nat_less.l4X.ok, trivial⟩ ?_
  intro args H
  by_cases hx : ∃ (a0n : Nat) (a0 : Nat → Int) (a1n : Nat) (a1 : Nat → Int), args = [.rsI .u32 a0n a0, .rsI .u32 a1n a1] ∧ H = []
  · obtain ⟨a0n, a0, a1n, a1, rfl, rfl⟩ := hx
    right; intro K
    exact iff_of_eq (X_nat_less.eq a0n a0 a1n a1 K).symm
  · left; intro K h
    simp only [e_nat_less] at h
    split at h
    · exact hx ⟨_, _, _, _, rfl, rfl⟩
    · exact h
noncomputable def e_nat_Sub : Entry := ⟨[none, none], false, fun args H K => match args, H with
  | [.str a0, .str a1], [] => nat_Sub a0 a1 (fun y0 y1 => K (EV.tuple [EV.str y0, EV.int IntKind.i64 y1]) [])
  | _, _ => False⟩
noncomputable def E_nat_Sub : Env := ⟨look tys, look [(73, e_nat_told), (75, e_nat_words), (77, e_nat_Cmp), (106, e_nat_less)], look [], gl, lookL [], false⟩
theorem X_nat_Sub.eq (a0 : List UInt8) (a1 : List UInt8) (K : EV → Heap → Prop) : evFn E_nat_Sub Tryd.f80 false [.str a0, .str a1] [] K = nat_Sub a0 a1 (fun y0 y1 => K (EV.tuple [EV.str y0, EV.int IntKind.i64 y1]) []) := by
  have h : evFnQ E_nat_Sub Tryd.f80 false [.str a0, .str a1] [] K = nat_Sub.d a0 a1 (fun y0 y1 => K (EV.tuple [EV.str y0, EV.int IntKind.i64 y1]) []) := by kernel_rfl
  rw [nat_Sub.is]; exact (evFnQ_eq _ _ _ _ _ _).symm.trans h
theorem X_nat_Sub.ok : SoundE Tryd.prog gl 80 e_nat_Sub := by
  refine fnOK (E := E_nat_Sub) (fn := Tryd.f80) rfl tys_ok rfl (show AllL _ [(73, e_nat_told), (75, e_nat_words), (77, e_nat_Cmp), (106, e_nat_less)] from ⟨X_nat_told.ok, X_nat_words.ok, X_nat_Cmp.ok, X_nat_less.ok, trivial⟩) mixed (by kernel_rfl) (by kernel_rfl) (by kernel_rfl) 0 (by kernel_rfl) false trivial ?_
  intro args H
  by_cases hx : ∃ (a0 : List UInt8) (a1 : List UInt8), args = [.str a0, .str a1] ∧ H = []
  · obtain ⟨a0, a1, rfl, rfl⟩ := hx
    right; intro K
    exact iff_of_eq (X_nat_Sub.eq a0 a1 K).symm
  · left; intro K h
    simp only [e_nat_Sub] at h
    split at h
    · exact hx ⟨_, _, rfl, rfl⟩
    · exact h
noncomputable def e_exact_Add : Entry := ⟨[none, none], false, fun args H K => match args, H with
  | [.agg [.bool a0_0, .str a0_1, .str a0_2, .int .i64 a0_3], .agg [.bool a1_0, .str a1_1, .str a1_2, .int .i64 a1_3]], [] => exact_Add a0_0 a0_1 a0_2 a0_3 a1_0 a1_1 a1_2 a1_3 (fun y0 y1 y2 y3 y4 => K (EV.tuple [EV.agg [EV.bool y0, EV.str y1, EV.str y2, EV.int IntKind.i64 y3], EV.int IntKind.i64 y4]) [])
  | _, _ => False⟩
noncomputable def E_exact_Add : Env := ⟨look tys, look [(15, e_exact_Make), (37, e_nat_Add), (63, e_exact_right), (76, e_exact_level), (77, e_nat_Cmp), (78, e_exact_firm_nat), (79, e_nat_Mul), (80, e_nat_Sub)], look [], gl, lookL [], false⟩
theorem X_exact_Add.eq (a0_0 : Bool) (a0_1 : List UInt8) (a0_2 : List UInt8) (a0_3 : Int) (a1_0 : Bool) (a1_1 : List UInt8) (a1_2 : List UInt8) (a1_3 : Int) (K : EV → Heap → Prop) : evFn E_exact_Add Tryd.f39 false [.agg [.bool a0_0, .str a0_1, .str a0_2, .int .i64 a0_3], .agg [.bool a1_0, .str a1_1, .str a1_2, .int .i64 a1_3]] [] K = exact_Add a0_0 a0_1 a0_2 a0_3 a1_0 a1_1 a1_2 a1_3 (fun y0 y1 y2 y3 y4 => K (EV.tuple [EV.agg [EV.bool y0, EV.str y1, EV.str y2, EV.int IntKind.i64 y3], EV.int IntKind.i64 y4]) []) := by
  have h : evFnQ E_exact_Add Tryd.f39 false [.agg [.bool a0_0, .str a0_1, .str a0_2, .int .i64 a0_3], .agg [.bool a1_0, .str a1_1, .str a1_2, .int .i64 a1_3]] [] K = exact_Add.d a0_0 a0_1 a0_2 a0_3 a1_0 a1_1 a1_2 a1_3 (fun y0 y1 y2 y3 y4 => K (EV.tuple [EV.agg [EV.bool y0, EV.str y1, EV.str y2, EV.int IntKind.i64 y3], EV.int IntKind.i64 y4]) []) := by kernel_rfl
  rw [exact_Add.is]; exact (evFnQ_eq _ _ _ _ _ _).symm.trans h
theorem X_exact_Add.ok : SoundE Tryd.prog gl 39 e_exact_Add := by
  refine fnOK (E := E_exact_Add) (fn := Tryd.f39) rfl tys_ok rfl (show AllL _ [(15, e_exact_Make), (37, e_nat_Add), (63, e_exact_right), (76, e_exact_level), (77, e_nat_Cmp), (78, e_exact_firm_nat), (79, e_nat_Mul), (80, e_nat_Sub)] from ⟨X_exact_Make.ok, X_nat_Add.ok, X_exact_right.ok, X_exact_level.ok, X_nat_Cmp.ok, X_exact_firm_nat.ok, X_nat_Mul.ok, X_nat_Sub.ok, trivial⟩) mixed (by kernel_rfl) (by kernel_rfl) (by kernel_rfl) 0 (by kernel_rfl) false trivial ?_
  intro args H
  by_cases hx : ∃ (a0_0 : Bool) (a0_1 : List UInt8) (a0_2 : List UInt8) (a0_3 : Int) (a1_0 : Bool) (a1_1 : List UInt8) (a1_2 : List UInt8) (a1_3 : Int), args = [.agg [.bool a0_0, .str a0_1, .str a0_2, .int .i64 a0_3], .agg [.bool a1_0, .str a1_1, .str a1_2, .int .i64 a1_3]] ∧ H = []
  · obtain ⟨a0_0, a0_1, a0_2, a0_3, a1_0, a1_1, a1_2, a1_3, rfl, rfl⟩ := hx
    right; intro K
    exact iff_of_eq (X_exact_Add.eq a0_0 a0_1 a0_2 a0_3 a1_0 a1_1 a1_2 a1_3 K).symm
  · left; intro K h
    simp only [e_exact_Add] at h
    split at h
    · exact hx ⟨_, _, _, _, _, _, _, _, rfl, rfl⟩
    · exact h
noncomputable def e_exact_Sub : Entry := ⟨[none, none], false, fun args H K => match args, H with
  | [.agg [.bool a0_0, .str a0_1, .str a0_2, .int .i64 a0_3], .agg [.bool a1_0, .str a1_1, .str a1_2, .int .i64 a1_3]], [] => exact_Sub a0_0 a0_1 a0_2 a0_3 a1_0 a1_1 a1_2 a1_3 (fun y0 y1 y2 y3 y4 => K (EV.tuple [EV.agg [EV.bool y0, EV.str y1, EV.str y2, EV.int IntKind.i64 y3], EV.int IntKind.i64 y4]) [])
  | _, _ => False⟩
noncomputable def E_exact_Sub : Env := ⟨look tys, look [(23, e_exact_Neg), (39, e_exact_Add), (63, e_exact_right)], look [], gl, lookL [], false⟩
theorem X_exact_Sub.eq (a0_0 : Bool) (a0_1 : List UInt8) (a0_2 : List UInt8) (a0_3 : Int) (a1_0 : Bool) (a1_1 : List UInt8) (a1_2 : List UInt8) (a1_3 : Int) (K : EV → Heap → Prop) : evFn E_exact_Sub Tryd.f40 false [.agg [.bool a0_0, .str a0_1, .str a0_2, .int .i64 a0_3], .agg [.bool a1_0, .str a1_1, .str a1_2, .int .i64 a1_3]] [] K = exact_Sub a0_0 a0_1 a0_2 a0_3 a1_0 a1_1 a1_2 a1_3 (fun y0 y1 y2 y3 y4 => K (EV.tuple [EV.agg [EV.bool y0, EV.str y1, EV.str y2, EV.int IntKind.i64 y3], EV.int IntKind.i64 y4]) []) := by
  have h : evFnQ E_exact_Sub Tryd.f40 false [.agg [.bool a0_0, .str a0_1, .str a0_2, .int .i64 a0_3], .agg [.bool a1_0, .str a1_1, .str a1_2, .int .i64 a1_3]] [] K = exact_Sub.d a0_0 a0_1 a0_2 a0_3 a1_0 a1_1 a1_2 a1_3 (fun y0 y1 y2 y3 y4 => K (EV.tuple [EV.agg [EV.bool y0, EV.str y1, EV.str y2, EV.int IntKind.i64 y3], EV.int IntKind.i64 y4]) []) := by kernel_rfl
  rw [exact_Sub.is]; exact (evFnQ_eq _ _ _ _ _ _).symm.trans h
theorem X_exact_Sub.ok : SoundE Tryd.prog gl 40 e_exact_Sub := by
  refine fnOK (E := E_exact_Sub) (fn := Tryd.f40) rfl tys_ok rfl (show AllL _ [(23, e_exact_Neg), (39, e_exact_Add), (63, e_exact_right)] from ⟨X_exact_Neg.ok, X_exact_Add.ok, X_exact_right.ok, trivial⟩) mixed (by kernel_rfl) (by kernel_rfl) (by kernel_rfl) 0 (by kernel_rfl) false trivial ?_
  intro args H
  by_cases hx : ∃ (a0_0 : Bool) (a0_1 : List UInt8) (a0_2 : List UInt8) (a0_3 : Int) (a1_0 : Bool) (a1_1 : List UInt8) (a1_2 : List UInt8) (a1_3 : Int), args = [.agg [.bool a0_0, .str a0_1, .str a0_2, .int .i64 a0_3], .agg [.bool a1_0, .str a1_1, .str a1_2, .int .i64 a1_3]] ∧ H = []
  · obtain ⟨a0_0, a0_1, a0_2, a0_3, a1_0, a1_1, a1_2, a1_3, rfl, rfl⟩ := hx
    right; intro K
    exact iff_of_eq (X_exact_Sub.eq a0_0 a0_1 a0_2 a0_3 a1_0 a1_1 a1_2 a1_3 K).symm
  · left; intro K h
    simp only [e_exact_Sub] at h
    split at h
    · exact hx ⟨_, _, _, _, _, _, _, _, rfl, rfl⟩
    · exact h
noncomputable def e_law06_ExactField : Entry := ⟨[none, none, none], false, fun args H K => match args, H with
  | [.agg [.bool a0_0, .str a0_1, .str a0_2, .int .i64 a0_3], .agg [.bool a1_0, .str a1_1, .str a1_2, .int .i64 a1_3], .agg [.bool a2_0, .str a2_1, .str a2_2, .int .i64 a2_3]], [] => law06_ExactField a0_0 a0_1 a0_2 a0_3 a1_0 a1_1 a1_2 a1_3 a2_0 a2_1 a2_2 a2_3 (fun y0 => K (EV.bool y0) [])
  | _, _ => False⟩
noncomputable def E_law06_ExactField : Env := ⟨look tys, look [(11, e_law06_short), (12, e_law06_alive), (14, e_r06_May), (21, e_exact_Sign), (27, e_exact_Mul), (28, e_exact_Quo), (39, e_exact_Add), (40, e_exact_Sub)], look [], gl, lookL [], false⟩
theorem X_law06_ExactField.eq (a0_0 : Bool) (a0_1 : List UInt8) (a0_2 : List UInt8) (a0_3 : Int) (a1_0 : Bool) (a1_1 : List UInt8) (a1_2 : List UInt8) (a1_3 : Int) (a2_0 : Bool) (a2_1 : List UInt8) (a2_2 : List UInt8) (a2_3 : Int) (K : EV → Heap → Prop) : evFn E_law06_ExactField Tryd.f10 false [.agg [.bool a0_0, .str a0_1, .str a0_2, .int .i64 a0_3], .agg [.bool a1_0, .str a1_1, .str a1_2, .int .i64 a1_3], .agg [.bool a2_0, .str a2_1, .str a2_2, .int .i64 a2_3]] [] K = law06_ExactField a0_0 a0_1 a0_2 a0_3 a1_0 a1_1 a1_2 a1_3 a2_0 a2_1 a2_2 a2_3 (fun y0 => K (EV.bool y0) []) := by
  have h : evFnQ E_law06_ExactField Tryd.f10 false [.agg [.bool a0_0, .str a0_1, .str a0_2, .int .i64 a0_3], .agg [.bool a1_0, .str a1_1, .str a1_2, .int .i64 a1_3], .agg [.bool a2_0, .str a2_1, .str a2_2, .int .i64 a2_3]] [] K = law06_ExactField.d a0_0 a0_1 a0_2 a0_3 a1_0 a1_1 a1_2 a1_3 a2_0 a2_1 a2_2 a2_3 (fun y0 => K (EV.bool y0) []) := by kernel_rfl
  rw [law06_ExactField.is]; exact (evFnQ_eq _ _ _ _ _ _).symm.trans h
theorem X_law06_ExactField.ok : SoundE Tryd.prog gl 10 e_law06_ExactField := by
  refine fnOK (E := E_law06_ExactField) (fn := Tryd.f10) rfl tys_ok rfl (show AllL _ [(11, e_law06_short), (12, e_law06_alive), (14, e_r06_May), (21, e_exact_Sign), (27, e_exact_Mul), (28, e_exact_Quo), (39, e_exact_Add), (40, e_exact_Sub)] from ⟨X_law06_short.ok, X_law06_alive.ok, X_r06_May.ok, X_exact_Sign.ok, X_exact_Mul.ok, X_exact_Quo.ok, X_exact_Add.ok, X_exact_Sub.ok, trivial⟩) mixed (by kernel_rfl) (by kernel_rfl) (by kernel_rfl) 0 (by kernel_rfl) false trivial ?_
  intro args H
  by_cases hx : ∃ (a0_0 : Bool) (a0_1 : List UInt8) (a0_2 : List UInt8) (a0_3 : Int) (a1_0 : Bool) (a1_1 : List UInt8) (a1_2 : List UInt8) (a1_3 : Int) (a2_0 : Bool) (a2_1 : List UInt8) (a2_2 : List UInt8) (a2_3 : Int), args = [.agg [.bool a0_0, .str a0_1, .str a0_2, .int .i64 a0_3], .agg [.bool a1_0, .str a1_1, .str a1_2, .int .i64 a1_3], .agg [.bool a2_0, .str a2_1, .str a2_2, .int .i64 a2_3]] ∧ H = []
  · obtain ⟨a0_0, a0_1, a0_2, a0_3, a1_0, a1_1, a1_2, a1_3, a2_0, a2_1, a2_2, a2_3, rfl, rfl⟩ := hx
    right; intro K
    exact iff_of_eq (X_law06_ExactField.eq a0_0 a0_1 a0_2 a0_3 a1_0 a1_1 a1_2 a1_3 a2_0 a2_1 a2_2 a2_3 K).symm
  · left; intro K h
    simp only [e_law06_ExactField] at h
    split at h
    · exact hx ⟨_, _, _, _, _, _, _, _, _, _, _, _, rfl, rfl⟩
    · exact h
end Go.Ev.S
