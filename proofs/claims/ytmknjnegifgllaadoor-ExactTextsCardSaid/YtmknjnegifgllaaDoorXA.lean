/- The functions of the seat: that the evaluator has them as they are. -/
import Derived.Test.YtmknjnegifgllaaDoorProg
import Derived.Test.YtmknjnegifgllaaDoorEvC
import Derived.Test.YtmknjnegifgllaaDoorDA
import Derived.Test.YtmknjnegifgllaaDoorLA
import Derived.KernelRfl
set_option maxRecDepth 100000
set_option linter.unusedVariables false
set_option linter.unusedSimpArgs false
namespace Go.Ev.S
open Go Go.Proofs Go.Ev
def tys : List (Nat × TI) := [
 (1, ⟨.func, 1, 8, .nilFunc⟩),
 (2, ⟨.int .i64, 1, 8, .int .i64 0⟩),
 (3, ⟨.int .i64, 1, 8, .int .i64 0⟩),
 (4, ⟨.bool, 1, 1, .bool false⟩),
 (5, ⟨.int .u8, 1, 1, .int .u8 0⟩),
 (6, ⟨.int .u8, 1, 1, .int .u8 0⟩),
 (7, ⟨.struct [(0, 2), (1, 3), (2, 4), (3, 6)], 4, 24, .agg [.int .i64 0, .int .i64 0, .bool false, .int .u8 0]⟩),
 (8, ⟨.struct [(0, 2), (1, 3), (2, 4), (3, 6)], 4, 24, .agg [.int .i64 0, .int .i64 0, .bool false, .int .u8 0]⟩),
 (9, ⟨.str, 1, 16, .str []⟩),
 (10, ⟨.str, 1, 16, .str []⟩),
 (11, ⟨.str, 1, 16, .str []⟩),
 (12, ⟨.int .u64, 1, 8, .int .u64 0⟩),
 (15, ⟨.ptr, 1, 8, .nilPtr⟩),
 (16, ⟨.ptr, 1, 8, .nilPtr⟩),
 (17, ⟨.ptr, 1, 8, .nilPtr⟩),
 (20, ⟨.iface, 1, 16, .nilIface⟩),
 (21, ⟨.int .i32, 1, 4, .int .i32 0⟩),
 (22, ⟨.str, 1, 16, .str []⟩),
 (23, ⟨.struct [(0, 4), (1, 22), (2, 22), (3, 3)], 4, 48, .agg [.bool false, .str [], .str [], .int .i64 0]⟩),
 (24, ⟨.struct [(0, 4), (1, 22), (2, 22), (3, 3)], 4, 48, .agg [.bool false, .str [], .str [], .int .i64 0]⟩),
 (25, ⟨.int .u64, 1, 8, .int .u64 0⟩),
 (26, ⟨.func, 1, 8, .nilFunc⟩),
 (27, ⟨.func, 1, 8, .nilFunc⟩),
 (28, ⟨.int .i64, 1, 8, .int .i64 0⟩),
 (29, ⟨.func, 1, 8, .nilFunc⟩),
 (30, ⟨.func, 1, 8, .nilFunc⟩),
 (32, ⟨.func, 1, 8, .nilFunc⟩),
 (34, ⟨.func, 1, 8, .nilFunc⟩),
 (35, ⟨.func, 1, 8, .nilFunc⟩),
 (36, ⟨.func, 1, 8, .nilFunc⟩),
 (37, ⟨.func, 1, 8, .nilFunc⟩),
 (38, ⟨.func, 1, 8, .nilFunc⟩),
 (39, ⟨.func, 1, 8, .nilFunc⟩),
 (40, ⟨.func, 1, 8, .nilFunc⟩),
 (41, ⟨.func, 1, 8, .nilFunc⟩),
 (42, ⟨.func, 1, 8, .nilFunc⟩),
 (43, ⟨.func, 1, 8, .nilFunc⟩),
 (45, ⟨.func, 1, 8, .nilFunc⟩),
 (47, ⟨.func, 1, 8, .nilFunc⟩),
 (48, ⟨.func, 1, 8, .nilFunc⟩),
 (50, ⟨.func, 1, 8, .nilFunc⟩),
 (52, ⟨.func, 1, 8, .nilFunc⟩),
 (54, ⟨.func, 1, 8, .nilFunc⟩),
 (55, ⟨.func, 1, 8, .nilFunc⟩),
 (56, ⟨.func, 1, 8, .nilFunc⟩),
 (58, ⟨.func, 1, 8, .nilFunc⟩),
 (59, ⟨.func, 1, 8, .nilFunc⟩),
 (60, ⟨.func, 1, 8, .nilFunc⟩),
 (61, ⟨.func, 1, 8, .nilFunc⟩),
 (62, ⟨.func, 1, 8, .nilFunc⟩),
 (63, ⟨.func, 1, 8, .nilFunc⟩),
 (64, ⟨.func, 1, 8, .nilFunc⟩),
 (65, ⟨.func, 1, 8, .nilFunc⟩),
 (66, ⟨.func, 1, 8, .nilFunc⟩),
 (67, ⟨.func, 1, 8, .nilFunc⟩),
 (68, ⟨.func, 1, 8, .nilFunc⟩),
 (70, ⟨.func, 1, 8, .nilFunc⟩),
 (71, ⟨.func, 1, 8, .nilFunc⟩),
 (72, ⟨.func, 1, 8, .nilFunc⟩),
 (74, ⟨.func, 1, 8, .nilFunc⟩),
 (75, ⟨.func, 1, 8, .nilFunc⟩),
 (76, ⟨.func, 1, 8, .nilFunc⟩),
 (77, ⟨.func, 1, 8, .nilFunc⟩),
 (79, ⟨.func, 1, 8, .nilFunc⟩),
 (80, ⟨.func, 1, 8, .nilFunc⟩),
 (81, ⟨.func, 1, 8, .nilFunc⟩),
 (82, ⟨.func, 1, 8, .nilFunc⟩),
 (83, ⟨.func, 1, 8, .nilFunc⟩),
 (84, ⟨.func, 1, 8, .nilFunc⟩),
 (85, ⟨.func, 1, 8, .nilFunc⟩),
 (86, ⟨.slice 109, 1, 24, .nilSlice⟩),
 (87, ⟨.func, 1, 8, .nilFunc⟩),
 (88, ⟨.func, 1, 8, .nilFunc⟩),
 (90, ⟨.func, 1, 8, .nilFunc⟩),
 (91, ⟨.func, 1, 8, .nilFunc⟩),
 (92, ⟨.struct [(0, 28)], 1, 8, .agg [.int .i64 0]⟩),
 (93, ⟨.struct [(0, 28)], 1, 8, .agg [.int .i64 0]⟩),
 (94, ⟨.func, 1, 8, .nilFunc⟩),
 (96, ⟨.func, 1, 8, .nilFunc⟩),
 (97, ⟨.func, 1, 8, .nilFunc⟩),
 (98, ⟨.func, 1, 8, .nilFunc⟩),
 (99, ⟨.func, 1, 8, .nilFunc⟩),
 (101, ⟨.func, 1, 8, .nilFunc⟩),
 (102, ⟨.func, 1, 8, .nilFunc⟩),
 (103, ⟨.func, 1, 8, .nilFunc⟩),
 (104, ⟨.func, 1, 8, .nilFunc⟩),
 (105, ⟨.func, 1, 8, .nilFunc⟩),
 (106, ⟨.slice 5, 1, 24, .nilSlice⟩),
 (107, ⟨.int .u64, 1, 8, .int .u64 0⟩),
 (108, ⟨.func, 1, 8, .nilFunc⟩),
 (109, ⟨.int .u32, 1, 4, .int .u32 0⟩),
 (110, ⟨.func, 1, 8, .nilFunc⟩),
 (111, ⟨.func, 1, 8, .nilFunc⟩),
 (112, ⟨.func, 1, 8, .nilFunc⟩),
 (113, ⟨.ptr, 1, 8, .nilPtr⟩),
 (114, ⟨.func, 1, 8, .nilFunc⟩),
 (115, ⟨.func, 1, 8, .nilFunc⟩),
 (116, ⟨.array 64 5, 64, 64, .arr .u8 64 (fun _ => 0)⟩),
 (117, ⟨.array 24 5, 24, 24, .arr .u8 24 (fun _ => 0)⟩),
 (118, ⟨.func, 1, 8, .nilFunc⟩),
 (120, ⟨.func, 1, 8, .nilFunc⟩),
 (121, ⟨.func, 1, 8, .nilFunc⟩),
 (122, ⟨.func, 1, 8, .nilFunc⟩),
 (123, ⟨.array 20 25, 20, 160, .arr .u64 20 (fun _ => 0)⟩),
 (124, ⟨.array 65 5, 65, 65, .arr .u8 65 (fun _ => 0)⟩),
 (125, ⟨.func, 1, 8, .nilFunc⟩),
 (126, ⟨.func, 1, 8, .nilFunc⟩),
 (127, ⟨.array 32 5, 32, 32, .arr .u8 32 (fun _ => 0)⟩),
 (128, ⟨.func, 1, 8, .nilFunc⟩),
 (131, ⟨.array 0 16, 0, 0, .agg []⟩),
 (134, ⟨.func, 1, 8, .nilFunc⟩),
 (135, ⟨.int .u8, 1, 1, .int .u8 0⟩),
 (136, ⟨.int .u8, 1, 1, .int .u8 0⟩),
 (137, ⟨.func, 1, 8, .nilFunc⟩),
 (138, ⟨.ptr, 1, 8, .nilPtr⟩),
 (139, ⟨.int .i32, 1, 4, .int .i32 0⟩),
 (140, ⟨.int .i32, 1, 4, .int .i32 0⟩)]
theorem tys_ok : ybF (OkTI Tryd.prog) tys :=
 ⟨.of (by kernel_rfl) (by kernel_rfl), .of (by kernel_rfl) (by kernel_rfl), .of (by kernel_rfl) (by kernel_rfl), .of (by kernel_rfl) (by kernel_rfl), .of (by kernel_rfl) (by kernel_rfl), .of (by kernel_rfl) (by kernel_rfl), .of (by kernel_rfl) (by kernel_rfl), .of (by kernel_rfl) (by kernel_rfl), .of (by kernel_rfl) (by kernel_rfl), .of (by kernel_rfl) (by kernel_rfl), .of (by kernel_rfl) (by kernel_rfl), .of (by kernel_rfl) (by kernel_rfl), .of (by kernel_rfl) (by kernel_rfl), .of (by kernel_rfl) (by kernel_rfl), .of (by kernel_rfl) (by kernel_rfl), .of (by kernel_rfl) (by kernel_rfl), .of (by kernel_rfl) (by kernel_rfl), .of (by kernel_rfl) (by kernel_rfl), .of (by kernel_rfl) (by kernel_rfl), .of (by kernel_rfl) (by kernel_rfl), .of (by kernel_rfl) (by kernel_rfl), .of (by kernel_rfl) (by kernel_rfl), .of (by kernel_rfl) (by kernel_rfl), .of (by kernel_rfl) (by kernel_rfl), .of (by kernel_rfl) (by kernel_rfl), .of (by kernel_rfl) (by kernel_rfl), .of (by kernel_rfl) (by kernel_rfl), .of (by kernel_rfl) (by kernel_rfl), .of (by kernel_rfl) (by kernel_rfl), .of (by kernel_rfl) (by kernel_rfl), .of (by kernel_rfl) (by kernel_rfl), .of (by kernel_rfl) (by kernel_rfl), .of (by kernel_rfl) (by kernel_rfl), .of (by kernel_rfl) (by kernel_rfl), .of (by kernel_rfl) (by kernel_rfl), .of (by kernel_rfl) (by kernel_rfl), .of (by kernel_rfl) (by kernel_rfl), .of (by kernel_rfl) (by kernel_rfl), .of (by kernel_rfl) (by kernel_rfl), .of (by kernel_rfl) (by kernel_rfl), .of (by kernel_rfl) (by kernel_rfl), .of (by kernel_rfl) (by kernel_rfl), .of (by kernel_rfl) (by kernel_rfl), .of (by kernel_rfl) (by kernel_rfl), .of (by kernel_rfl) (by kernel_rfl), .of (by kernel_rfl) (by kernel_rfl), .of (by kernel_rfl) (by kernel_rfl), .of (by kernel_rfl) (by kernel_rfl), .of (by kernel_rfl) (by kernel_rfl), .of (by kernel_rfl) (by kernel_rfl), .of (by kernel_rfl) (by kernel_rfl), .of (by kernel_rfl) (by kernel_rfl), .of (by kernel_rfl) (by kernel_rfl), .of (by kernel_rfl) (by kernel_rfl), .of (by kernel_rfl) (by kernel_rfl), .of (by kernel_rfl) (by kernel_rfl), .of (by kernel_rfl) (by kernel_rfl), .of (by kernel_rfl) (by kernel_rfl), .of (by kernel_rfl) (by kernel_rfl), .of (by kernel_rfl) (by kernel_rfl), .of (by kernel_rfl) (by kernel_rfl), .of (by kernel_rfl) (by kernel_rfl), .of (by kernel_rfl) (by kernel_rfl), .of (by kernel_rfl) (by kernel_rfl), .of (by kernel_rfl) (by kernel_rfl), .of (by kernel_rfl) (by kernel_rfl), .of (by kernel_rfl) (by kernel_rfl), .of (by kernel_rfl) (by kernel_rfl), .of (by kernel_rfl) (by kernel_rfl), .of (by kernel_rfl) (by kernel_rfl), .of (by kernel_rfl) (by kernel_rfl), .of (by kernel_rfl) (by kernel_rfl), .of (by kernel_rfl) (by kernel_rfl), .of (by kernel_rfl) (by kernel_rfl), .of (by kernel_rfl) (by kernel_rfl), .of (by kernel_rfl) (by kernel_rfl), .of (by kernel_rfl) (by kernel_rfl), .of (by kernel_rfl) (by kernel_rfl), .of (by kernel_rfl) (by kernel_rfl), .of (by kernel_rfl) (by kernel_rfl), .of (by kernel_rfl) (by kernel_rfl), .of (by kernel_rfl) (by kernel_rfl), .of (by kernel_rfl) (by kernel_rfl), .of (by kernel_rfl) (by kernel_rfl), .of (by kernel_rfl) (by kernel_rfl), .of (by kernel_rfl) (by kernel_rfl), .of (by kernel_rfl) (by kernel_rfl), .of (by kernel_rfl) (by kernel_rfl), .of (by kernel_rfl) (by kernel_rfl), .of (by kernel_rfl) (by kernel_rfl), .of (by kernel_rfl) (by kernel_rfl), .of (by kernel_rfl) (by kernel_rfl), .of (by kernel_rfl) (by kernel_rfl), .of (by kernel_rfl) (by kernel_rfl), .of (by kernel_rfl) (by kernel_rfl), .of (by kernel_rfl) (by kernel_rfl), .of (by kernel_rfl) (by kernel_rfl), .of (by kernel_rfl) (by kernel_rfl), .of (by kernel_rfl) (by kernel_rfl), .of (by kernel_rfl) (by kernel_rfl), .of (by kernel_rfl) (by kernel_rfl), .of (by kernel_rfl) (by kernel_rfl), .of (by kernel_rfl) (by kernel_rfl), .of (by kernel_rfl) (by kernel_rfl), .of (by kernel_rfl) (by kernel_rfl), .of (by kernel_rfl) (by kernel_rfl), .of (by kernel_rfl) (by kernel_rfl), .of (by kernel_rfl) (by kernel_rfl), .of (by kernel_rfl) (by kernel_rfl), .of (by kernel_rfl) (by kernel_rfl), .of (by kernel_rfl) (by kernel_rfl), .of (by kernel_rfl) (by kernel_rfl), .of (by kernel_rfl) (by kernel_rfl), .of (by kernel_rfl) (by kernel_rfl), .of (by kernel_rfl) (by kernel_rfl), .of (by kernel_rfl) (by kernel_rfl), .of (by kernel_rfl) (by kernel_rfl), trivial⟩
theorem mixed : Tryd.prog.follows .mixedOrders = true := by kernel_rfl
noncomputable def gl : Nat → Option EV := look [(0, .arr .u8 64 ya2), (1, .arr .u64 20 yf0)]
noncomputable def e_zak : Entry := ⟨[none, none], false, fun args H K => match args, H with
 | [.agg [.bool a0_0, .str a0_1, .str a0_2, .int .i64 a0_3], .int .i64 a1], [] => zak a0_0 a0_1 a0_2 a0_3 a1 (fun y0 => K (EV.bool y0) [])
 | _, _ => False⟩
noncomputable def E_zak : Env := ⟨look tys, look [], look [], gl, yaM [], false⟩
theorem X_zak.eq (a0_0 : Bool) (a0_1 : List UInt8) (a0_2 : List UInt8) (a0_3 : Int) (a1 : Int) (K : EV → yae → Prop) : ybC E_zak Tryd.f11 false [.agg [.bool a0_0, .str a0_1, .str a0_2, .int .i64 a0_3], .int .i64 a1] [] K = zak a0_0 a0_1 a0_2 a0_3 a1 (fun y0 => K (EV.bool y0) []) := by
 rw [zak.is]; exact (yam _ _ _ _ _ _).symm.trans (by kernel_rfl)
theorem X_zak.ok : SoundE Tryd.prog gl 11 e_zak := by
 refine ybZ (E := E_zak) (fn := Tryd.f11) rfl tys_ok rfl (show ybF _ [] from trivial) mixed (by kernel_rfl) (by kernel_rfl) (by kernel_rfl) 0 (by kernel_rfl) false trivial ?_
 intro args H
 by_cases hx : ∃ (a0_0 : Bool) (a0_1 : List UInt8) (a0_2 : List UInt8) (a0_3 : Int) (a1 : Int), args = [.agg [.bool a0_0, .str a0_1, .str a0_2, .int .i64 a0_3], .int .i64 a1] ∧ H = []
 ·obtain ⟨a0_0, a0_1, a0_2, a0_3, a1, rfl, rfl⟩ := hx
  right; intro K
  exact iff_of_eq (X_zak.eq a0_0 a0_1 a0_2 a0_3 a1 K).symm
 ·left; intro K h
  simp only [e_zak] at h
  split at h
  ·exact hx ⟨_, _, _, _, _, rfl, rfl⟩
  ·exact h
noncomputable def e_zal : Entry := ⟨[none], false, fun args H K => match args, H with
 | [.str a0], [] => zal a0 (fun y0 => K (EV.int IntKind.i64 y0) [])
 | _, _ => False⟩
noncomputable def E_zal : Env := ⟨look tys, look [], look [], gl, yaM [], false⟩
theorem X_zal.eq (a0 : List UInt8) (K : EV → yae → Prop) : ybC E_zal Tryd.f46 false [.str a0] [] K = zal a0 (fun y0 => K (EV.int IntKind.i64 y0) []) := by
 rw [zal.is]; exact (yam _ _ _ _ _ _).symm.trans (by kernel_rfl)
theorem X_zal.ok : SoundE Tryd.prog gl 46 e_zal := by
 refine ybZ (E := E_zal) (fn := Tryd.f46) rfl tys_ok rfl (show ybF _ [] from trivial) mixed (by kernel_rfl) (by kernel_rfl) (by kernel_rfl) 0 (by kernel_rfl) false trivial ?_
 intro args H
 by_cases hx : ∃ (a0 : List UInt8), args = [.str a0] ∧ H = []
 ·obtain ⟨a0, rfl, rfl⟩ := hx
  right; intro K
  exact iff_of_eq (X_zal.eq a0 K).symm
 ·left; intro K h
  simp only [e_zal] at h
  split at h
  ·exact hx ⟨_, rfl, rfl⟩
  ·exact h
noncomputable def e_zah : Entry := ⟨[none], false, fun args H K => match args, H with
 | [.int .i64 a0], [] => zah a0 (fun y0 => K (EV.bool y0) [])
 | _, _ => False⟩
noncomputable def E_zah : Env := ⟨look tys, look [], look [], gl, yaM [], false⟩
theorem X_zah.eq (a0 : Int) (K : EV → yae → Prop) : ybC E_zah Tryd.f48 false [.int .i64 a0] [] K = zah a0 (fun y0 => K (EV.bool y0) []) := by
 rw [zah.is]; exact (yam _ _ _ _ _ _).symm.trans (by kernel_rfl)
theorem X_zah.ok : SoundE Tryd.prog gl 48 e_zah := by
 refine ybZ (E := E_zah) (fn := Tryd.f48) rfl tys_ok rfl (show ybF _ [] from trivial) mixed (by kernel_rfl) (by kernel_rfl) (by kernel_rfl) 0 (by kernel_rfl) false trivial ?_
 intro args H
 by_cases hx : ∃ (a0 : Int), args = [.int .i64 a0] ∧ H = []
 ·obtain ⟨a0, rfl, rfl⟩ := hx
  right; intro K
  exact iff_of_eq (X_zah.eq a0 K).symm
 ·left; intro K h
  simp only [e_zah] at h
  split at h
  ·exact hx ⟨_, rfl, rfl⟩
  ·exact h
noncomputable def e_zaf : Entry := ⟨[], false, fun args H K => match args, H with
 | [], [] => zaf  (fun y0 y1 y2 y3 => K (EV.agg [EV.bool y0, EV.str y1, EV.str y2, EV.int IntKind.i64 y3]) [])
 | _, _ => False⟩
noncomputable def E_zaf : Env := ⟨look tys, look [], look [], gl, yaM [], false⟩
theorem X_zaf.eq (K : EV → yae → Prop) : ybC E_zaf Tryd.f49 false [] [] K = zaf  (fun y0 y1 y2 y3 => K (EV.agg [EV.bool y0, EV.str y1, EV.str y2, EV.int IntKind.i64 y3]) []) := by
 rw [zaf.is]; exact (yam _ _ _ _ _ _).symm.trans (by kernel_rfl)
theorem X_zaf.ok : SoundE Tryd.prog gl 49 e_zaf := by
 refine ybZ (E := E_zaf) (fn := Tryd.f49) rfl tys_ok rfl (show ybF _ [] from trivial) mixed (by kernel_rfl) (by kernel_rfl) (by kernel_rfl) 0 (by kernel_rfl) false trivial ?_
 intro args H
 by_cases hx : args = [] ∧ H = []
 ·obtain ⟨rfl, rfl⟩ := hx
  right; intro K
  exact iff_of_eq (X_zaf.eq  K).symm
 ·left; intro K h
  simp only [e_zaf] at h
  split at h
  ·exact hx ⟨rfl, rfl⟩
  ·exact h
noncomputable def e_zay : Entry := ⟨[none, none], false, fun args H K => match args, H with
 | [.str a0, .str a1], [] => zay a0 a1 (fun y0 => K (EV.bool y0) [])
 | _, _ => False⟩
noncomputable def l_zay : List (Nat × Entry) := [(46, e_zal)]
noncomputable def E_zay : Env := ⟨look tys, look l_zay, look [], gl, yaM [], false⟩
theorem X_zay.eq (a0 : List UInt8) (a1 : List UInt8) (K : EV → yae → Prop) : ybC E_zay Tryd.f72 false [.str a0, .str a1] [] K = zay a0 a1 (fun y0 => K (EV.bool y0) []) := by
 rw [zay.is]; exact (yam _ _ _ _ _ _).symm.trans (by kernel_rfl)
theorem X_zay.ok : SoundE Tryd.prog gl 72 e_zay := by
 refine ybZ (E := E_zay) (fn := Tryd.f72) rfl tys_ok rfl (show ybF _ l_zay from ⟨X_zal.ok, trivial⟩) mixed (by kernel_rfl) (by kernel_rfl) (by kernel_rfl) 0 (by kernel_rfl) false trivial ?_
 intro args H
 by_cases hx : ∃ (a0 : List UInt8) (a1 : List UInt8), args = [.str a0, .str a1] ∧ H = []
 ·obtain ⟨a0, a1, rfl, rfl⟩ := hx
  right; intro K
  exact iff_of_eq (X_zay.eq a0 a1 K).symm
 ·left; intro K h
  simp only [e_zay] at h
  split at h
  ·exact hx ⟨_, _, rfl, rfl⟩
  ·exact h
noncomputable def e_zba : Entry := ⟨[none], false, fun args H K => match args, H with
 | [.str a0], [] => zba a0 (fun y0 y1 => K (EV.rsI IntKind.u32 y0 y1) [])
 | _, _ => False⟩
noncomputable def E_zba : Env := ⟨look tys, look [], look [(3, zba.l3.entry)], gl, yaM [], false⟩
theorem zba.l3X.stepEq (R : List EV → yae → Prop) (K : Ex → List EV → yae → Prop) (x0 : List UInt8) (x1 : Nat) (x2 : Nat) (x3 : Int) (x4 : Int) (x5 : Nat) (x6 : Nat → Int) : yak (yan E_zba (yaa Tryd.f75 0) { (LV.mk 8 [(0, 8)] 4 0 false) with nx := live (.loop (yaa Tryd.f75 0)) (LV.mk 8 [(0, 8)] 4 0 false) }) (live (.loop (yaa Tryd.f75 0)) (LV.mk 8 [(0, 8)] 4 0 false)) (LV.mk 8 [(0, 8)] 4 0 false) 0 37 R [EV.str x0, EV.slice 0 0 x1 (some x2) 1, EV.int IntKind.i64 x3, EV.int IntKind.i64 x4] [some (EV.arr IntKind.u32 x5 x6)] K = zba.l3.step (fun x0 x1 x2 x3 x4 x5 x6 => R [EV.str x0, EV.slice 0 0 x1 (some x2) 1, EV.int IntKind.i64 x3, EV.int IntKind.i64 x4] [some (EV.arr IntKind.u32 x5 x6)]) (fun y0 y1 y2 y3 => K (.exit 0) [EV.slice 0 0 y0 (some y1) 1] [some (EV.arr IntKind.u32 y2 y3)]) x0 x1 x2 x3 x4 x5 x6 := (yax _ _ _ _ _ _ _ _ _ _ _).symm.trans (by kernel_rfl)
theorem zba.l3X.eq (K : Ex → List EV → yae → Prop) : ∀ (n : Nat) (x0 : List UInt8) (x1 : Nat) (x2 : Nat) (x3 : Int) (x4 : Int) (x5 : Nat) (x6 : Nat → Int), yar E_zba (yaa Tryd.f75 0) (LV.mk 8 [(0, 8)] 4 0 false) 0 37 K n [EV.str x0, EV.slice 0 0 x1 (some x2) 1, EV.int IntKind.i64 x3, EV.int IntKind.i64 x4] [some (EV.arr IntKind.u32 x5 x6)] = zba.l3 (fun y0 y1 y2 y3 => K (.exit 0) [EV.slice 0 0 y0 (some y1) 1] [some (EV.arr IntKind.u32 y2 y3)]) n x0 x1 x2 x3 x4 x5 x6
 | 0, _, _, _, _, _, _, _ => rfl
 | n + 1, x0, x1, x2, x3, x4, x5, x6 => by
  have ih : (fun (x0 : List UInt8) (x1 : Nat) (x2 : Nat) (x3 : Int) (x4 : Int) (x5 : Nat) (x6 : Nat → Int) => yar E_zba (yaa Tryd.f75 0) (LV.mk 8 [(0, 8)] 4 0 false) 0 37 K n [EV.str x0, EV.slice 0 0 x1 (some x2) 1, EV.int IntKind.i64 x3, EV.int IntKind.i64 x4] [some (EV.arr IntKind.u32 x5 x6)]) = zba.l3 (fun y0 y1 y2 y3 => K (.exit 0) [EV.slice 0 0 y0 (some y1) 1] [some (EV.arr IntKind.u32 y2 y3)]) n := by funext x0 x1 x2 x3 x4 x5 x6; exact zba.l3X.eq K n x0 x1 x2 x3 x4 x5 x6
  show yak _ _ _ _ _ (yar E_zba (yaa Tryd.f75 0) (LV.mk 8 [(0, 8)] 4 0 false) 0 37 K n) [EV.str x0, EV.slice 0 0 x1 (some x2) 1, EV.int IntKind.i64 x3, EV.int IntKind.i64 x4] [some (EV.arr IntKind.u32 x5 x6)] K = zba.l3.step (zba.l3 (fun y0 y1 y2 y3 => K (.exit 0) [EV.slice 0 0 y0 (some y1) 1] [some (EV.arr IntKind.u32 y2 y3)]) n) (fun y0 y1 y2 y3 => K (.exit 0) [EV.slice 0 0 y0 (some y1) 1] [some (EV.arr IntKind.u32 y2 y3)]) x0 x1 x2 x3 x4 x5 x6
  rw [← ih]
  exact zba.l3X.stepEq _ K x0 x1 x2 x3 x4 x5 x6
theorem zba.l3X.ok : LoopEq E_zba (yaa Tryd.f75 0) := by
 intro L hL vs H
 have h1 : E_zba.lp (yai (yaa Tryd.f75 0)) = some zba.l3.entry := by kernel_rfl
 have h2 : L = zba.l3.entry := Option.some.inj (hL.symm.trans h1)
 subst h2
 by_cases hx : ∃ (x0 : List UInt8) (x1 : Nat) (x2 : Nat) (x3 : Int) (x4 : Int) (x5 : Nat) (x6 : Nat → Int), vs = [EV.str x0, EV.slice 0 0 x1 (some x2) 1, EV.int IntKind.i64 x3, EV.int IntKind.i64 x4] ∧ H = [some (EV.arr IntKind.u32 x5 x6)]
 ·obtain ⟨x0, x1, x2, x3, x4, x5, x6, rfl, rfl⟩ := hx
  right; intro K
  exact exists_congr fun n => iff_of_eq (zba.l3X.eq K n x0 x1 x2 x3 x4 x5 x6).symm
 ·left; intro K h
  simp only [zba.l3.entry] at h
  split at h
  ·exact hx ⟨_, _, _, _, _, _, _, rfl, rfl⟩
  ·exact h
theorem X_zba.eq (a0 : List UInt8) (K : EV → yae → Prop) : ybC E_zba Tryd.f75 false [.str a0] [] K = zba a0 (fun y0 y1 => K (EV.rsI IntKind.u32 y0 y1) []) := by
 rw [zba.is]; exact (yam _ _ _ _ _ _).symm.trans (by kernel_rfl)
theorem X_zba.ok : SoundE Tryd.prog gl 75 e_zba := by
 refine ybZ (E := E_zba) (fn := Tryd.f75) rfl tys_ok rfl (show ybF _ [] from trivial) mixed (by kernel_rfl) (by kernel_rfl) (by kernel_rfl) 1 (by kernel_rfl) false ⟨zba.l3X.ok, trivial⟩ ?_
 intro args H
 by_cases hx : ∃ (a0 : List UInt8), args = [.str a0] ∧ H = []
 ·obtain ⟨a0, rfl, rfl⟩ := hx
  right; intro K
  exact iff_of_eq (X_zba.eq a0 K).symm
 ·left; intro K h
  simp only [e_zba] at h
  split at h
  ·exact hx ⟨_, rfl, rfl⟩
  ·exact h
noncomputable def e_zau : Entry := ⟨[none], true, fun args H K => match args, H with
 | [.rsI .u32 a0n a0], [] => zau a0n a0 (fun y0 y1 => K (EV.rsI IntKind.u32 y0 y1) [])
 | _, _ => False⟩
noncomputable def e_zat : Entry := ⟨[none], true, fun args H K => match args, H with
 | [.slice 0 0 a0l (some a0c) 1], [some (.arr .u32 a0n a0)] => zat a0l a0c a0n a0 (fun y0 y1 y2 y3 => K (EV.slice 0 0 y0 (some y1) 1) [some (EV.arr IntKind.u32 y2 y3)])
 | _, _ => False⟩
noncomputable def e_zas : Entry := ⟨[none], true, fun args H K => match args, H with
 | [.slice 0 0 a0l none 1], [some (.arr .u32 a0n a0)] => zas a0l a0n a0 (fun y0 y1 y2 => K (EV.slice 0 0 y0 none 1) [some (EV.arr IntKind.u32 y1 y2)])
 | _, _ => False⟩
noncomputable def e_nat_cut : Entry := Entry.pick (fun args H => match args, H with | [.rsI .u32 a0n a0], [] => true | _, _ => false) e_zau (Entry.pick (fun args H => match args, H with | [.slice 0 0 a0l (some a0c) 1], [some (.arr .u32 a0n a0)] => true | _, _ => false) e_zat (e_zas))
noncomputable def E_zau : Env := ⟨look tys, look [], look [(1, zau.l1.entry)], gl, yaM [], false⟩
theorem zau.l1X.stepEq (R : List EV → yae → Prop) (K : Ex → List EV → yae → Prop) (x0 : Nat) (x1 : Nat → Int) : yak (yan E_zau (yaa Tryd.f103 0) { (LV.mk 1 [(0, 1)] 4 0 false) with nx := live (.loop (yaa Tryd.f103 0)) (LV.mk 1 [(0, 1)] 4 0 false) }) (live (.loop (yaa Tryd.f103 0)) (LV.mk 1 [(0, 1)] 4 0 false)) (LV.mk 1 [(0, 1)] 4 0 false) 0 21 R [EV.rsI IntKind.u32 x0 x1] [] K = zau.l1.step (fun x0 x1 => R [EV.rsI IntKind.u32 x0 x1] []) (fun y0 y1 => K (.exit 0) [EV.rsI IntKind.u32 y0 y1] []) x0 x1 := (yax _ _ _ _ _ _ _ _ _ _ _).symm.trans (by kernel_rfl)
theorem zau.l1X.eq (K : Ex → List EV → yae → Prop) : ∀ (n : Nat) (x0 : Nat) (x1 : Nat → Int), yar E_zau (yaa Tryd.f103 0) (LV.mk 1 [(0, 1)] 4 0 false) 0 21 K n [EV.rsI IntKind.u32 x0 x1] [] = zau.l1 (fun y0 y1 => K (.exit 0) [EV.rsI IntKind.u32 y0 y1] []) n x0 x1
 | 0, _, _ => rfl
 | n + 1, x0, x1 => by
  have ih : (fun (x0 : Nat) (x1 : Nat → Int) => yar E_zau (yaa Tryd.f103 0) (LV.mk 1 [(0, 1)] 4 0 false) 0 21 K n [EV.rsI IntKind.u32 x0 x1] []) = zau.l1 (fun y0 y1 => K (.exit 0) [EV.rsI IntKind.u32 y0 y1] []) n := by funext x0 x1; exact zau.l1X.eq K n x0 x1
  show yak _ _ _ _ _ (yar E_zau (yaa Tryd.f103 0) (LV.mk 1 [(0, 1)] 4 0 false) 0 21 K n) [EV.rsI IntKind.u32 x0 x1] [] K = zau.l1.step (zau.l1 (fun y0 y1 => K (.exit 0) [EV.rsI IntKind.u32 y0 y1] []) n) (fun y0 y1 => K (.exit 0) [EV.rsI IntKind.u32 y0 y1] []) x0 x1
  rw [← ih]
  exact zau.l1X.stepEq _ K x0 x1
theorem zau.l1X.ok : LoopEq E_zau (yaa Tryd.f103 0) := by
 intro L hL vs H
 have h1 : E_zau.lp (yai (yaa Tryd.f103 0)) = some zau.l1.entry := by kernel_rfl
 have h2 : L = zau.l1.entry := Option.some.inj (hL.symm.trans h1)
 subst h2
 by_cases hx : ∃ (x0 : Nat) (x1 : Nat → Int), vs = [EV.rsI IntKind.u32 x0 x1] ∧ H = []
 ·obtain ⟨x0, x1, rfl, rfl⟩ := hx
  right; intro K
  exact exists_congr fun n => iff_of_eq (zau.l1X.eq K n x0 x1).symm
 ·left; intro K h
  simp only [zau.l1.entry] at h
  split at h
  ·exact hx ⟨_, _, rfl, rfl⟩
  ·exact h
theorem X_zau.eq (a0n : Nat) (a0 : Nat → Int) (K : EV → yae → Prop) : ybC E_zau Tryd.f103 true [.rsI .u32 a0n a0] [] K = zau a0n a0 (fun y0 y1 => K (EV.rsI IntKind.u32 y0 y1) []) := by
 rw [zau.is]; exact (yam _ _ _ _ _ _).symm.trans (by kernel_rfl)
theorem X_zau.ok : SoundE Tryd.prog gl 103 e_zau := by
 refine ybZ (E := E_zau) (fn := Tryd.f103) rfl tys_ok rfl (show ybF _ [] from trivial) mixed (by kernel_rfl) (by kernel_rfl) (by kernel_rfl) 1 (by kernel_rfl) true ⟨zau.l1X.ok, trivial⟩ ?_
 intro args H
 by_cases hx : ∃ (a0n : Nat) (a0 : Nat → Int), args = [.rsI .u32 a0n a0] ∧ H = []
 ·obtain ⟨a0n, a0, rfl, rfl⟩ := hx
  right; intro K
  exact iff_of_eq (X_zau.eq a0n a0 K).symm
 ·left; intro K h
  simp only [e_zau] at h
  split at h
  ·exact hx ⟨_, _, rfl, rfl⟩
  ·exact h
noncomputable def E_zat : Env := ⟨look tys, look [], look [(1, zat.l1.entry)], gl, yaM [], false⟩
theorem zat.l1X.stepEq (R : List EV → yae → Prop) (K : Ex → List EV → yae → Prop) (x0 : Nat) (x1 : Nat) (x2 : Nat) (x3 : Nat → Int) : yak (yan E_zat (yaa Tryd.f103 0) { (LV.mk 1 [(0, 1)] 4 1 false) with nx := live (.loop (yaa Tryd.f103 0)) (LV.mk 1 [(0, 1)] 4 1 false) }) (live (.loop (yaa Tryd.f103 0)) (LV.mk 1 [(0, 1)] 4 1 false)) (LV.mk 1 [(0, 1)] 4 1 false) 1 21 R [EV.slice 0 0 x0 (some x1) 1] [some (EV.arr IntKind.u32 x2 x3)] K = zat.l1.step (fun x0 x1 x2 x3 => R [EV.slice 0 0 x0 (some x1) 1] [some (EV.arr IntKind.u32 x2 x3)]) (fun y0 y1 y2 y3 => K (.exit 0) [EV.slice 0 0 y0 (some y1) 1] [some (EV.arr IntKind.u32 y2 y3)]) x0 x1 x2 x3 := (yax _ _ _ _ _ _ _ _ _ _ _).symm.trans (by kernel_rfl)
theorem zat.l1X.eq (K : Ex → List EV → yae → Prop) : ∀ (n : Nat) (x0 : Nat) (x1 : Nat) (x2 : Nat) (x3 : Nat → Int), yar E_zat (yaa Tryd.f103 0) (LV.mk 1 [(0, 1)] 4 1 false) 1 21 K n [EV.slice 0 0 x0 (some x1) 1] [some (EV.arr IntKind.u32 x2 x3)] = zat.l1 (fun y0 y1 y2 y3 => K (.exit 0) [EV.slice 0 0 y0 (some y1) 1] [some (EV.arr IntKind.u32 y2 y3)]) n x0 x1 x2 x3
 | 0, _, _, _, _ => rfl
 | n + 1, x0, x1, x2, x3 => by
  have ih : (fun (x0 : Nat) (x1 : Nat) (x2 : Nat) (x3 : Nat → Int) => yar E_zat (yaa Tryd.f103 0) (LV.mk 1 [(0, 1)] 4 1 false) 1 21 K n [EV.slice 0 0 x0 (some x1) 1] [some (EV.arr IntKind.u32 x2 x3)]) = zat.l1 (fun y0 y1 y2 y3 => K (.exit 0) [EV.slice 0 0 y0 (some y1) 1] [some (EV.arr IntKind.u32 y2 y3)]) n := by funext x0 x1 x2 x3; exact zat.l1X.eq K n x0 x1 x2 x3
  show yak _ _ _ _ _ (yar E_zat (yaa Tryd.f103 0) (LV.mk 1 [(0, 1)] 4 1 false) 1 21 K n) [EV.slice 0 0 x0 (some x1) 1] [some (EV.arr IntKind.u32 x2 x3)] K = zat.l1.step (zat.l1 (fun y0 y1 y2 y3 => K (.exit 0) [EV.slice 0 0 y0 (some y1) 1] [some (EV.arr IntKind.u32 y2 y3)]) n) (fun y0 y1 y2 y3 => K (.exit 0) [EV.slice 0 0 y0 (some y1) 1] [some (EV.arr IntKind.u32 y2 y3)]) x0 x1 x2 x3
  rw [← ih]
  exact zat.l1X.stepEq _ K x0 x1 x2 x3
theorem zat.l1X.ok : LoopEq E_zat (yaa Tryd.f103 0) := by
 intro L hL vs H
 have h1 : E_zat.lp (yai (yaa Tryd.f103 0)) = some zat.l1.entry := by kernel_rfl
 have h2 : L = zat.l1.entry := Option.some.inj (hL.symm.trans h1)
 subst h2
 by_cases hx : ∃ (x0 : Nat) (x1 : Nat) (x2 : Nat) (x3 : Nat → Int), vs = [EV.slice 0 0 x0 (some x1) 1] ∧ H = [some (EV.arr IntKind.u32 x2 x3)]
 ·obtain ⟨x0, x1, x2, x3, rfl, rfl⟩ := hx
  right; intro K
  exact exists_congr fun n => iff_of_eq (zat.l1X.eq K n x0 x1 x2 x3).symm
 ·left; intro K h
  simp only [zat.l1.entry] at h
  split at h
  ·exact hx ⟨_, _, _, _, rfl, rfl⟩
  ·exact h
theorem X_zat.eq (a0l : Nat) (a0c : Nat) (a0n : Nat) (a0 : Nat → Int) (K : EV → yae → Prop) : ybC E_zat Tryd.f103 true [.slice 0 0 a0l (some a0c) 1] [some (.arr .u32 a0n a0)] K = zat a0l a0c a0n a0 (fun y0 y1 y2 y3 => K (EV.slice 0 0 y0 (some y1) 1) [some (EV.arr IntKind.u32 y2 y3)]) := by
 rw [zat.is]; exact (yam _ _ _ _ _ _).symm.trans (by kernel_rfl)
theorem X_zat.ok : SoundE Tryd.prog gl 103 e_zat := by
 refine ybZ (E := E_zat) (fn := Tryd.f103) rfl tys_ok rfl (show ybF _ [] from trivial) mixed (by kernel_rfl) (by kernel_rfl) (by kernel_rfl) 1 (by kernel_rfl) true ⟨zat.l1X.ok, trivial⟩ ?_
 intro args H
 by_cases hx : ∃ (a0l : Nat) (a0c : Nat) (a0n : Nat) (a0 : Nat → Int), args = [.slice 0 0 a0l (some a0c) 1] ∧ H = [some (.arr .u32 a0n a0)]
 ·obtain ⟨a0l, a0c, a0n, a0, rfl, rfl⟩ := hx
  right; intro K
  exact iff_of_eq (X_zat.eq a0l a0c a0n a0 K).symm
 ·left; intro K h
  simp only [e_zat] at h
  split at h
  ·exact hx ⟨_, _, _, _, rfl, rfl⟩
  ·exact h
noncomputable def E_zas : Env := ⟨look tys, look [], look [(1, zas.l1.entry)], gl, yaM [], false⟩
theorem zas.l1X.stepEq (R : List EV → yae → Prop) (K : Ex → List EV → yae → Prop) (x0 : Nat) (x1 : Nat) (x2 : Nat → Int) : yak (yan E_zas (yaa Tryd.f103 0) { (LV.mk 1 [(0, 1)] 4 1 false) with nx := live (.loop (yaa Tryd.f103 0)) (LV.mk 1 [(0, 1)] 4 1 false) }) (live (.loop (yaa Tryd.f103 0)) (LV.mk 1 [(0, 1)] 4 1 false)) (LV.mk 1 [(0, 1)] 4 1 false) 1 21 R [EV.slice 0 0 x0 none 1] [some (EV.arr IntKind.u32 x1 x2)] K = zas.l1.step (fun x0 x1 x2 => R [EV.slice 0 0 x0 none 1] [some (EV.arr IntKind.u32 x1 x2)]) (fun y0 y1 y2 => K (.exit 0) [EV.slice 0 0 y0 none 1] [some (EV.arr IntKind.u32 y1 y2)]) x0 x1 x2 := (yax _ _ _ _ _ _ _ _ _ _ _).symm.trans (by kernel_rfl)
theorem zas.l1X.eq (K : Ex → List EV → yae → Prop) : ∀ (n : Nat) (x0 : Nat) (x1 : Nat) (x2 : Nat → Int), yar E_zas (yaa Tryd.f103 0) (LV.mk 1 [(0, 1)] 4 1 false) 1 21 K n [EV.slice 0 0 x0 none 1] [some (EV.arr IntKind.u32 x1 x2)] = zas.l1 (fun y0 y1 y2 => K (.exit 0) [EV.slice 0 0 y0 none 1] [some (EV.arr IntKind.u32 y1 y2)]) n x0 x1 x2
 | 0, _, _, _ => rfl
 | n + 1, x0, x1, x2 => by
  have ih : (fun (x0 : Nat) (x1 : Nat) (x2 : Nat → Int) => yar E_zas (yaa Tryd.f103 0) (LV.mk 1 [(0, 1)] 4 1 false) 1 21 K n [EV.slice 0 0 x0 none 1] [some (EV.arr IntKind.u32 x1 x2)]) = zas.l1 (fun y0 y1 y2 => K (.exit 0) [EV.slice 0 0 y0 none 1] [some (EV.arr IntKind.u32 y1 y2)]) n := by funext x0 x1 x2; exact zas.l1X.eq K n x0 x1 x2
  show yak _ _ _ _ _ (yar E_zas (yaa Tryd.f103 0) (LV.mk 1 [(0, 1)] 4 1 false) 1 21 K n) [EV.slice 0 0 x0 none 1] [some (EV.arr IntKind.u32 x1 x2)] K = zas.l1.step (zas.l1 (fun y0 y1 y2 => K (.exit 0) [EV.slice 0 0 y0 none 1] [some (EV.arr IntKind.u32 y1 y2)]) n) (fun y0 y1 y2 => K (.exit 0) [EV.slice 0 0 y0 none 1] [some (EV.arr IntKind.u32 y1 y2)]) x0 x1 x2
  rw [← ih]
  exact zas.l1X.stepEq _ K x0 x1 x2
theorem zas.l1X.ok : LoopEq E_zas (yaa Tryd.f103 0) := by
 intro L hL vs H
 have h1 : E_zas.lp (yai (yaa Tryd.f103 0)) = some zas.l1.entry := by kernel_rfl
 have h2 : L = zas.l1.entry := Option.some.inj (hL.symm.trans h1)
 subst h2
 by_cases hx : ∃ (x0 : Nat) (x1 : Nat) (x2 : Nat → Int), vs = [EV.slice 0 0 x0 none 1] ∧ H = [some (EV.arr IntKind.u32 x1 x2)]
 ·obtain ⟨x0, x1, x2, rfl, rfl⟩ := hx
  right; intro K
  exact exists_congr fun n => iff_of_eq (zas.l1X.eq K n x0 x1 x2).symm
 ·left; intro K h
  simp only [zas.l1.entry] at h
  split at h
  ·exact hx ⟨_, _, _, rfl, rfl⟩
  ·exact h
theorem X_zas.eq (a0l : Nat) (a0n : Nat) (a0 : Nat → Int) (K : EV → yae → Prop) : ybC E_zas Tryd.f103 true [.slice 0 0 a0l none 1] [some (.arr .u32 a0n a0)] K = zas a0l a0n a0 (fun y0 y1 y2 => K (EV.slice 0 0 y0 none 1) [some (EV.arr IntKind.u32 y1 y2)]) := by
 rw [zas.is]; exact (yam _ _ _ _ _ _).symm.trans (by kernel_rfl)
theorem X_zas.ok : SoundE Tryd.prog gl 103 e_zas := by
 refine ybZ (E := E_zas) (fn := Tryd.f103) rfl tys_ok rfl (show ybF _ [] from trivial) mixed (by kernel_rfl) (by kernel_rfl) (by kernel_rfl) 1 (by kernel_rfl) true ⟨zas.l1X.ok, trivial⟩ ?_
 intro args H
 by_cases hx : ∃ (a0l : Nat) (a0n : Nat) (a0 : Nat → Int), args = [.slice 0 0 a0l none 1] ∧ H = [some (.arr .u32 a0n a0)]
 ·obtain ⟨a0l, a0n, a0, rfl, rfl⟩ := hx
  right; intro K
  exact iff_of_eq (X_zas.eq a0l a0n a0 K).symm
 ·left; intro K h
  simp only [e_zas] at h
  split at h
  ·exact hx ⟨_, _, _, rfl, rfl⟩
  ·exact h
theorem X_nat_cut.ok : SoundE Tryd.prog gl 103 e_nat_cut := SoundE.pick X_zau.ok (SoundE.pick X_zat.ok (X_zas.ok))
noncomputable def e_zav : Entry := ⟨[some .u32, none], false, fun args H K => match args, H with
 | [.rsI .u32 a0n a0, .int .i64 a1], [] => zav a0n a0 a1 (fun y0 y1 => K (EV.rsI IntKind.u32 y0 y1) [])
 | _, _ => False⟩
noncomputable def l_zav : List (Nat × Entry) := [(103, e_nat_cut)]
noncomputable def E_zav : Env := ⟨look tys, look l_zav, look [(5, zav.l5.entry)], gl, yaM [], false⟩
theorem zav.l5X.stepEq (R : List EV → yae → Prop) (K : Ex → List EV → yae → Prop) (x0 : Nat) (x1 : Nat → Int) (x2 : Int) (x3 : Nat) (x4 : Nat) (x5 : Int) (x6 : Int) (x7 : Nat) (x8 : Nat → Int) : yak (yan E_zav (yaa Tryd.f92 0) { (LV.mk 32 [(0, 32)] 16 0 false) with nx := live (.loop (yaa Tryd.f92 0)) (LV.mk 32 [(0, 32)] 16 0 false) }) (live (.loop (yaa Tryd.f92 0)) (LV.mk 32 [(0, 32)] 16 0 false)) (LV.mk 32 [(0, 32)] 16 0 false) 0 64 R [EV.rsI IntKind.u32 x0 x1, EV.int IntKind.i64 x2, EV.slice 0 0 x3 (some x4) 1, EV.int IntKind.i64 x5, EV.int IntKind.i64 x6] [some (EV.arr IntKind.u32 x7 x8)] K = zav.l5.step (fun x0 x1 x2 x3 x4 x5 x6 x7 x8 => R [EV.rsI IntKind.u32 x0 x1, EV.int IntKind.i64 x2, EV.slice 0 0 x3 (some x4) 1, EV.int IntKind.i64 x5, EV.int IntKind.i64 x6] [some (EV.arr IntKind.u32 x7 x8)]) (fun y0 y1 y2 y3 => K (.exit 0) [EV.slice 0 0 y0 (some y1) 1] [some (EV.arr IntKind.u32 y2 y3)]) x0 x1 x2 x3 x4 x5 x6 x7 x8 := (yax _ _ _ _ _ _ _ _ _ _ _).symm.trans (by kernel_rfl)
theorem zav.l5X.eq (K : Ex → List EV → yae → Prop) : ∀ (n : Nat) (x0 : Nat) (x1 : Nat → Int) (x2 : Int) (x3 : Nat) (x4 : Nat) (x5 : Int) (x6 : Int) (x7 : Nat) (x8 : Nat → Int), yar E_zav (yaa Tryd.f92 0) (LV.mk 32 [(0, 32)] 16 0 false) 0 64 K n [EV.rsI IntKind.u32 x0 x1, EV.int IntKind.i64 x2, EV.slice 0 0 x3 (some x4) 1, EV.int IntKind.i64 x5, EV.int IntKind.i64 x6] [some (EV.arr IntKind.u32 x7 x8)] = zav.l5 (fun y0 y1 y2 y3 => K (.exit 0) [EV.slice 0 0 y0 (some y1) 1] [some (EV.arr IntKind.u32 y2 y3)]) n x0 x1 x2 x3 x4 x5 x6 x7 x8
 | 0, _, _, _, _, _, _, _, _, _ => rfl
 | n + 1, x0, x1, x2, x3, x4, x5, x6, x7, x8 => by
  have ih : (fun (x0 : Nat) (x1 : Nat → Int) (x2 : Int) (x3 : Nat) (x4 : Nat) (x5 : Int) (x6 : Int) (x7 : Nat) (x8 : Nat → Int) => yar E_zav (yaa Tryd.f92 0) (LV.mk 32 [(0, 32)] 16 0 false) 0 64 K n [EV.rsI IntKind.u32 x0 x1, EV.int IntKind.i64 x2, EV.slice 0 0 x3 (some x4) 1, EV.int IntKind.i64 x5, EV.int IntKind.i64 x6] [some (EV.arr IntKind.u32 x7 x8)]) = zav.l5 (fun y0 y1 y2 y3 => K (.exit 0) [EV.slice 0 0 y0 (some y1) 1] [some (EV.arr IntKind.u32 y2 y3)]) n := by funext x0 x1 x2 x3 x4 x5 x6 x7 x8; exact zav.l5X.eq K n x0 x1 x2 x3 x4 x5 x6 x7 x8
  show yak _ _ _ _ _ (yar E_zav (yaa Tryd.f92 0) (LV.mk 32 [(0, 32)] 16 0 false) 0 64 K n) [EV.rsI IntKind.u32 x0 x1, EV.int IntKind.i64 x2, EV.slice 0 0 x3 (some x4) 1, EV.int IntKind.i64 x5, EV.int IntKind.i64 x6] [some (EV.arr IntKind.u32 x7 x8)] K = zav.l5.step (zav.l5 (fun y0 y1 y2 y3 => K (.exit 0) [EV.slice 0 0 y0 (some y1) 1] [some (EV.arr IntKind.u32 y2 y3)]) n) (fun y0 y1 y2 y3 => K (.exit 0) [EV.slice 0 0 y0 (some y1) 1] [some (EV.arr IntKind.u32 y2 y3)]) x0 x1 x2 x3 x4 x5 x6 x7 x8
  rw [← ih]
  exact zav.l5X.stepEq _ K x0 x1 x2 x3 x4 x5 x6 x7 x8
theorem zav.l5X.ok : LoopEq E_zav (yaa Tryd.f92 0) := by
 intro L hL vs H
 have h1 : E_zav.lp (yai (yaa Tryd.f92 0)) = some zav.l5.entry := by kernel_rfl
 have h2 : L = zav.l5.entry := Option.some.inj (hL.symm.trans h1)
 subst h2
 by_cases hx : ∃ (x0 : Nat) (x1 : Nat → Int) (x2 : Int) (x3 : Nat) (x4 : Nat) (x5 : Int) (x6 : Int) (x7 : Nat) (x8 : Nat → Int), vs = [EV.rsI IntKind.u32 x0 x1, EV.int IntKind.i64 x2, EV.slice 0 0 x3 (some x4) 1, EV.int IntKind.i64 x5, EV.int IntKind.i64 x6] ∧ H = [some (EV.arr IntKind.u32 x7 x8)]
 ·obtain ⟨x0, x1, x2, x3, x4, x5, x6, x7, x8, rfl, rfl⟩ := hx
  right; intro K
  exact exists_congr fun n => iff_of_eq (zav.l5X.eq K n x0 x1 x2 x3 x4 x5 x6 x7 x8).symm
 ·left; intro K h
  simp only [zav.l5.entry] at h
  split at h
  ·exact hx ⟨_, _, _, _, _, _, _, _, _, rfl, rfl⟩
  ·exact h
theorem X_zav.eq (a0n : Nat) (a0 : Nat → Int) (a1 : Int) (K : EV → yae → Prop) : ybC E_zav Tryd.f92 false [.rsI .u32 a0n a0, .int .i64 a1] [] K = zav a0n a0 a1 (fun y0 y1 => K (EV.rsI IntKind.u32 y0 y1) []) := by
 rw [zav.is]; exact (yam _ _ _ _ _ _).symm.trans (by kernel_rfl)
theorem X_zav.ok : SoundE Tryd.prog gl 92 e_zav := by
 refine ybZ (E := E_zav) (fn := Tryd.f92) rfl tys_ok rfl (show ybF _ l_zav from ⟨X_nat_cut.ok, trivial⟩) mixed (by kernel_rfl) (by kernel_rfl) (by kernel_rfl) 1 (by kernel_rfl) false ⟨zav.l5X.ok, trivial⟩ ?_
 intro args H
 by_cases hx : ∃ (a0n : Nat) (a0 : Nat → Int) (a1 : Int), args = [.rsI .u32 a0n a0, .int .i64 a1] ∧ H = []
 ·obtain ⟨a0n, a0, a1, rfl, rfl⟩ := hx
  right; intro K
  exact iff_of_eq (X_zav.eq a0n a0 a1 K).symm
 ·left; intro K h
  simp only [e_zav] at h
  split at h
  ·exact hx ⟨_, _, _, rfl, rfl⟩
  ·exact h
noncomputable def e_zaz : Entry := ⟨[some .u32, none], true, fun args H K => match args, H with
 | [.rsI .u32 a0n a0, .int .i64 a1], [] => zaz a0n a0 a1 (K (EV.nilSlice) []) (fun y0 y1 y2 y3 => K (EV.slice 0 0 y0 (some y1) 1) [some (EV.arr IntKind.u32 y2 y3)])
 | _, _ => False⟩
noncomputable def l_zaz : List (Nat × Entry) := [(103, e_nat_cut)]
noncomputable def E_zaz : Env := ⟨look tys, look l_zaz, look [(5, zaz.l5.entry)], gl, yaM [], false⟩
theorem zaz.l5X.stepEq (R : List EV → yae → Prop) (K : Ex → List EV → yae → Prop) (x0 : Int) (x1 : Nat) (x2 : Nat) (x3 : Nat) (x4 : Nat → Int) (x5 : Int) (x6 : Int) (x7 : Nat) (x8 : Nat → Int) : yak (yan E_zaz (yaa Tryd.f101 0) { (LV.mk 32 [(0, 32)] 16 0 false) with nx := live (.loop (yaa Tryd.f101 0)) (LV.mk 32 [(0, 32)] 16 0 false) }) (live (.loop (yaa Tryd.f101 0)) (LV.mk 32 [(0, 32)] 16 0 false)) (LV.mk 32 [(0, 32)] 16 0 false) 0 59 R [EV.int IntKind.i64 x0, EV.slice 0 0 x1 (some x2) 1, EV.rsI IntKind.u32 x3 x4, EV.int IntKind.i64 x5, EV.int IntKind.i64 x6] [some (EV.arr IntKind.u32 x7 x8)] K = zaz.l5.step (fun x0 x1 x2 x3 x4 x5 x6 x7 x8 => R [EV.int IntKind.i64 x0, EV.slice 0 0 x1 (some x2) 1, EV.rsI IntKind.u32 x3 x4, EV.int IntKind.i64 x5, EV.int IntKind.i64 x6] [some (EV.arr IntKind.u32 x7 x8)]) (fun y0 y1 y2 y3 => K (.exit 0) [EV.slice 0 0 y0 (some y1) 1] [some (EV.arr IntKind.u32 y2 y3)]) x0 x1 x2 x3 x4 x5 x6 x7 x8 := (yax _ _ _ _ _ _ _ _ _ _ _).symm.trans (by kernel_rfl)
theorem zaz.l5X.eq (K : Ex → List EV → yae → Prop) : ∀ (n : Nat) (x0 : Int) (x1 : Nat) (x2 : Nat) (x3 : Nat) (x4 : Nat → Int) (x5 : Int) (x6 : Int) (x7 : Nat) (x8 : Nat → Int), yar E_zaz (yaa Tryd.f101 0) (LV.mk 32 [(0, 32)] 16 0 false) 0 59 K n [EV.int IntKind.i64 x0, EV.slice 0 0 x1 (some x2) 1, EV.rsI IntKind.u32 x3 x4, EV.int IntKind.i64 x5, EV.int IntKind.i64 x6] [some (EV.arr IntKind.u32 x7 x8)] = zaz.l5 (fun y0 y1 y2 y3 => K (.exit 0) [EV.slice 0 0 y0 (some y1) 1] [some (EV.arr IntKind.u32 y2 y3)]) n x0 x1 x2 x3 x4 x5 x6 x7 x8
 | 0, _, _, _, _, _, _, _, _, _ => rfl
 | n + 1, x0, x1, x2, x3, x4, x5, x6, x7, x8 => by
  have ih : (fun (x0 : Int) (x1 : Nat) (x2 : Nat) (x3 : Nat) (x4 : Nat → Int) (x5 : Int) (x6 : Int) (x7 : Nat) (x8 : Nat → Int) => yar E_zaz (yaa Tryd.f101 0) (LV.mk 32 [(0, 32)] 16 0 false) 0 59 K n [EV.int IntKind.i64 x0, EV.slice 0 0 x1 (some x2) 1, EV.rsI IntKind.u32 x3 x4, EV.int IntKind.i64 x5, EV.int IntKind.i64 x6] [some (EV.arr IntKind.u32 x7 x8)]) = zaz.l5 (fun y0 y1 y2 y3 => K (.exit 0) [EV.slice 0 0 y0 (some y1) 1] [some (EV.arr IntKind.u32 y2 y3)]) n := by funext x0 x1 x2 x3 x4 x5 x6 x7 x8; exact zaz.l5X.eq K n x0 x1 x2 x3 x4 x5 x6 x7 x8
  show yak _ _ _ _ _ (yar E_zaz (yaa Tryd.f101 0) (LV.mk 32 [(0, 32)] 16 0 false) 0 59 K n) [EV.int IntKind.i64 x0, EV.slice 0 0 x1 (some x2) 1, EV.rsI IntKind.u32 x3 x4, EV.int IntKind.i64 x5, EV.int IntKind.i64 x6] [some (EV.arr IntKind.u32 x7 x8)] K = zaz.l5.step (zaz.l5 (fun y0 y1 y2 y3 => K (.exit 0) [EV.slice 0 0 y0 (some y1) 1] [some (EV.arr IntKind.u32 y2 y3)]) n) (fun y0 y1 y2 y3 => K (.exit 0) [EV.slice 0 0 y0 (some y1) 1] [some (EV.arr IntKind.u32 y2 y3)]) x0 x1 x2 x3 x4 x5 x6 x7 x8
  rw [← ih]
  exact zaz.l5X.stepEq _ K x0 x1 x2 x3 x4 x5 x6 x7 x8
theorem zaz.l5X.ok : LoopEq E_zaz (yaa Tryd.f101 0) := by
 intro L hL vs H
 have h1 : E_zaz.lp (yai (yaa Tryd.f101 0)) = some zaz.l5.entry := by kernel_rfl
 have h2 : L = zaz.l5.entry := Option.some.inj (hL.symm.trans h1)
 subst h2
 by_cases hx : ∃ (x0 : Int) (x1 : Nat) (x2 : Nat) (x3 : Nat) (x4 : Nat → Int) (x5 : Int) (x6 : Int) (x7 : Nat) (x8 : Nat → Int), vs = [EV.int IntKind.i64 x0, EV.slice 0 0 x1 (some x2) 1, EV.rsI IntKind.u32 x3 x4, EV.int IntKind.i64 x5, EV.int IntKind.i64 x6] ∧ H = [some (EV.arr IntKind.u32 x7 x8)]
 ·obtain ⟨x0, x1, x2, x3, x4, x5, x6, x7, x8, rfl, rfl⟩ := hx
  right; intro K
  exact exists_congr fun n => iff_of_eq (zaz.l5X.eq K n x0 x1 x2 x3 x4 x5 x6 x7 x8).symm
 ·left; intro K h
  simp only [zaz.l5.entry] at h
  split at h
  ·exact hx ⟨_, _, _, _, _, _, _, _, _, rfl, rfl⟩
  ·exact h
theorem X_zaz.eq (a0n : Nat) (a0 : Nat → Int) (a1 : Int) (K : EV → yae → Prop) : ybC E_zaz Tryd.f101 true [.rsI .u32 a0n a0, .int .i64 a1] [] K = zaz a0n a0 a1 (K (EV.nilSlice) []) (fun y0 y1 y2 y3 => K (EV.slice 0 0 y0 (some y1) 1) [some (EV.arr IntKind.u32 y2 y3)]) := by
 rw [zaz.is]; exact (yam _ _ _ _ _ _).symm.trans (by kernel_rfl)
theorem X_zaz.ok : SoundE Tryd.prog gl 101 e_zaz := by
 refine ybZ (E := E_zaz) (fn := Tryd.f101) rfl tys_ok rfl (show ybF _ l_zaz from ⟨X_nat_cut.ok, trivial⟩) mixed (by kernel_rfl) (by kernel_rfl) (by kernel_rfl) 1 (by kernel_rfl) true ⟨zaz.l5X.ok, trivial⟩ ?_
 intro args H
 by_cases hx : ∃ (a0n : Nat) (a0 : Nat → Int) (a1 : Int), args = [.rsI .u32 a0n a0, .int .i64 a1] ∧ H = []
 ·obtain ⟨a0n, a0, a1, rfl, rfl⟩ := hx
  right; intro K
  exact iff_of_eq (X_zaz.eq a0n a0 a1 K).symm
 ·left; intro K h
  simp only [e_zaz] at h
  split at h
  ·exact hx ⟨_, _, _, rfl, rfl⟩
  ·exact h
noncomputable def e_nat_upN : Entry := Entry.nonil e_zaz
theorem X_nat_upN.ok : SoundE Tryd.prog gl 101 e_nat_upN := SoundE.nonil X_zaz.ok
noncomputable def e_zar : Entry := ⟨[some .u32, some .u32], false, fun args H K => match args, H with
 | [.rsI .u32 a0n a0, .rsI .u32 a1n a1], [] => zar a0n a0 a1n a1 (fun y0 => K (EV.int IntKind.i64 y0) [])
 | _, _ => False⟩
noncomputable def E_zar : Env := ⟨look tys, look [], look [(6, zar.l6.entry)], gl, yaM [], false⟩
theorem zar.l6X.stepEq (R : List EV → yae → Prop) (K : Ex → List EV → yae → Prop) (x0 : Nat) (x1 : Nat → Int) (x2 : Nat) (x3 : Nat → Int) (x4 : Int) : yak (yan E_zar (yaa Tryd.f104 0) { (LV.mk 0 [(1, 0)] 16 0 false) with nx := live (.loop (yaa Tryd.f104 0)) (LV.mk 0 [(1, 0)] 16 0 false) }) (live (.loop (yaa Tryd.f104 0)) (LV.mk 0 [(1, 0)] 16 0 false)) (LV.mk 0 [(1, 0)] 16 0 false) 0 45 R [EV.rsI IntKind.u32 x0 x1, EV.rsI IntKind.u32 x2 x3, EV.int IntKind.i64 x4] [] K = zar.l6.step (fun x0 x1 x2 x3 x4 => R [EV.rsI IntKind.u32 x0 x1, EV.rsI IntKind.u32 x2 x3, EV.int IntKind.i64 x4] []) (fun y0 => K .ret [EV.int IntKind.i64 y0] []) (K (.exit 1) [] []) x0 x1 x2 x3 x4 := (yax _ _ _ _ _ _ _ _ _ _ _).symm.trans (by kernel_rfl)
theorem zar.l6X.eq (K : Ex → List EV → yae → Prop) : ∀ (n : Nat) (x0 : Nat) (x1 : Nat → Int) (x2 : Nat) (x3 : Nat → Int) (x4 : Int), yar E_zar (yaa Tryd.f104 0) (LV.mk 0 [(1, 0)] 16 0 false) 0 45 K n [EV.rsI IntKind.u32 x0 x1, EV.rsI IntKind.u32 x2 x3, EV.int IntKind.i64 x4] [] = zar.l6 (fun y0 => K .ret [EV.int IntKind.i64 y0] []) (K (.exit 1) [] []) n x0 x1 x2 x3 x4
 | 0, _, _, _, _, _ => rfl
 | n + 1, x0, x1, x2, x3, x4 => by
  have ih : (fun (x0 : Nat) (x1 : Nat → Int) (x2 : Nat) (x3 : Nat → Int) (x4 : Int) => yar E_zar (yaa Tryd.f104 0) (LV.mk 0 [(1, 0)] 16 0 false) 0 45 K n [EV.rsI IntKind.u32 x0 x1, EV.rsI IntKind.u32 x2 x3, EV.int IntKind.i64 x4] []) = zar.l6 (fun y0 => K .ret [EV.int IntKind.i64 y0] []) (K (.exit 1) [] []) n := by funext x0 x1 x2 x3 x4; exact zar.l6X.eq K n x0 x1 x2 x3 x4
  show yak _ _ _ _ _ (yar E_zar (yaa Tryd.f104 0) (LV.mk 0 [(1, 0)] 16 0 false) 0 45 K n) [EV.rsI IntKind.u32 x0 x1, EV.rsI IntKind.u32 x2 x3, EV.int IntKind.i64 x4] [] K = zar.l6.step (zar.l6 (fun y0 => K .ret [EV.int IntKind.i64 y0] []) (K (.exit 1) [] []) n) (fun y0 => K .ret [EV.int IntKind.i64 y0] []) (K (.exit 1) [] []) x0 x1 x2 x3 x4
  rw [← ih]
  exact zar.l6X.stepEq _ K x0 x1 x2 x3 x4
theorem zar.l6X.ok : LoopEq E_zar (yaa Tryd.f104 0) := by
 intro L hL vs H
 have h1 : E_zar.lp (yai (yaa Tryd.f104 0)) = some zar.l6.entry := by kernel_rfl
 have h2 : L = zar.l6.entry := Option.some.inj (hL.symm.trans h1)
 subst h2
 by_cases hx : ∃ (x0 : Nat) (x1 : Nat → Int) (x2 : Nat) (x3 : Nat → Int) (x4 : Int), vs = [EV.rsI IntKind.u32 x0 x1, EV.rsI IntKind.u32 x2 x3, EV.int IntKind.i64 x4] ∧ H = []
 ·obtain ⟨x0, x1, x2, x3, x4, rfl, rfl⟩ := hx
  right; intro K
  exact exists_congr fun n => iff_of_eq (zar.l6X.eq K n x0 x1 x2 x3 x4).symm
 ·left; intro K h
  simp only [zar.l6.entry] at h
  split at h
  ·exact hx ⟨_, _, _, _, _, rfl, rfl⟩
  ·exact h
theorem X_zar.eq (a0n : Nat) (a0 : Nat → Int) (a1n : Nat) (a1 : Nat → Int) (K : EV → yae → Prop) : ybC E_zar Tryd.f104 false [.rsI .u32 a0n a0, .rsI .u32 a1n a1] [] K = zar a0n a0 a1n a1 (fun y0 => K (EV.int IntKind.i64 y0) []) := by
 rw [zar.is]; exact (yam _ _ _ _ _ _).symm.trans (by kernel_rfl)
theorem X_zar.ok : SoundE Tryd.prog gl 104 e_zar := by
 refine ybZ (E := E_zar) (fn := Tryd.f104) rfl tys_ok rfl (show ybF _ [] from trivial) mixed (by kernel_rfl) (by kernel_rfl) (by kernel_rfl) 1 (by kernel_rfl) false ⟨zar.l6X.ok, trivial⟩ ?_
 intro args H
 by_cases hx : ∃ (a0n : Nat) (a0 : Nat → Int) (a1n : Nat) (a1 : Nat → Int), args = [.rsI .u32 a0n a0, .rsI .u32 a1n a1] ∧ H = []
 ·obtain ⟨a0n, a0, a1n, a1, rfl, rfl⟩ := hx
  right; intro K
  exact iff_of_eq (X_zar.eq a0n a0 a1n a1 K).symm
 ·left; intro K h
  simp only [e_zar] at h
  split at h
  ·exact hx ⟨_, _, _, _, rfl, rfl⟩
  ·exact h
noncomputable def e_zaa : Entry := ⟨[none], false, fun args H K => match args, H with
 | [.int .u64 a0], [] => zaa a0 (fun y0 => K (EV.int IntKind.i64 y0) [])
 | _, _ => False⟩
noncomputable def E_zaa : Env := ⟨look tys, look [], look [], gl, yaM [], false⟩
theorem X_zaa.eq (a0 : Int) (K : EV → yae → Prop) : ybC E_zaa Tryd.f113 false [.int .u64 a0] [] K = zaa a0 (fun y0 => K (EV.int IntKind.i64 y0) []) := by
 rw [zaa.is]; exact (yam _ _ _ _ _ _).symm.trans (by kernel_rfl)
theorem X_zaa.ok : SoundE Tryd.prog gl 113 e_zaa := by
 refine ybZ (E := E_zaa) (fn := Tryd.f113) rfl tys_ok rfl (show ybF _ [] from trivial) mixed (by kernel_rfl) (by kernel_rfl) (by kernel_rfl) 0 (by kernel_rfl) false trivial ?_
 intro args H
 by_cases hx : ∃ (a0 : Int), args = [.int .u64 a0] ∧ H = []
 ·obtain ⟨a0, rfl, rfl⟩ := hx
  right; intro K
  exact iff_of_eq (X_zaa.eq a0 K).symm
 ·left; intro K h
  simp only [e_zaa] at h
  split at h
  ·exact hx ⟨_, rfl, rfl⟩
  ·exact h
noncomputable def e_zby : Entry := ⟨[none], false, fun args H K => match args, H with
 | [.int .u64 a0], [] => zby a0 (fun y0 => K (EV.int IntKind.i64 y0) [])
 | _, _ => False⟩
noncomputable def l_zby : List (Nat × Entry) := [(113, e_zaa)]
noncomputable def E_zby : Env := ⟨look tys, look l_zby, look [], gl, yaM [], false⟩
theorem X_zby.eq (a0 : Int) (K : EV → yae → Prop) : ybC E_zby Tryd.f109 false [.int .u64 a0] [] K = zby a0 (fun y0 => K (EV.int IntKind.i64 y0) []) := by
 rw [zby.is]; exact (yam _ _ _ _ _ _).symm.trans (by kernel_rfl)
theorem X_zby.ok : SoundE Tryd.prog gl 109 e_zby := by
 refine ybZ (E := E_zby) (fn := Tryd.f109) rfl tys_ok rfl (show ybF _ l_zby from ⟨X_zaa.ok, trivial⟩) mixed (by kernel_rfl) (by kernel_rfl) (by kernel_rfl) 0 (by kernel_rfl) false trivial ?_
 intro args H
 by_cases hx : ∃ (a0 : Int), args = [.int .u64 a0] ∧ H = []
 ·obtain ⟨a0, rfl, rfl⟩ := hx
  right; intro K
  exact iff_of_eq (X_zby.eq a0 K).symm
 ·left; intro K h
  simp only [e_zby] at h
  split at h
  ·exact hx ⟨_, rfl, rfl⟩
  ·exact h
noncomputable def e_zax : Entry := ⟨[some .u32, some .u32], false, fun args H K => match args, H with
 | [.rsI .u32 a0n a0, .rsI .u32 a1n a1], [] => zax a0n a0 a1n a1 (fun y0 y1 y2 y3 => K (EV.tuple [EV.rsI IntKind.u32 y0 y1, EV.rsI IntKind.u32 y2 y3]) [])
 | _, _ => False⟩
noncomputable def l_zax : List (Nat × Entry) := [(92, e_zav), (101, e_nat_upN), (103, e_nat_cut), (104, e_zar), (109, e_zby)]
noncomputable def E_zax : Env := ⟨look tys, look l_zax, look [(7, zax.l7.entry), (16, zax.l16.entry), (20, zax.l20.entry), (24, zax.l24.entry), (31, zax.l31.entry), (45, zax.l45.entry)], gl, yaM [], true⟩
theorem zax.l7X.stepEq (R : List EV → yae → Prop) (K : Ex → List EV → yae → Prop) (x0 : Nat) (x1 : Nat → Int) (x2 : Nat) (x3 : Nat → Int) (x4 : Nat) (x5 : Int) (x6 : Int) (x7 : Nat) (x8 : Nat → Int) : yak (yan E_zax (yaa Tryd.f89 0) { (LV.mk 80 [(0, 80)] 48 0 true) with nx := live (.loop (yaa Tryd.f89 0)) (LV.mk 80 [(0, 80)] 48 0 true) }) (live (.loop (yaa Tryd.f89 0)) (LV.mk 80 [(0, 80)] 48 0 true)) (LV.mk 80 [(0, 80)] 48 0 true) 0 285 R [EV.rsI IntKind.u32 x0 x1, EV.rsI IntKind.u32 x2 x3, EV.slice 0 0 x4 none 1, EV.int IntKind.u64 x5, EV.int IntKind.i64 x6] [some (EV.arr IntKind.u32 x7 x8)] K = zax.l7.step (fun x0 x1 x2 x3 x4 x5 x6 x7 x8 => R [EV.rsI IntKind.u32 x0 x1, EV.rsI IntKind.u32 x2 x3, EV.slice 0 0 x4 none 1, EV.int IntKind.u64 x5, EV.int IntKind.i64 x6] [some (EV.arr IntKind.u32 x7 x8)]) (fun y0 y1 y2 y3 => K (.exit 0) [EV.slice 0 0 y0 none 1, EV.int IntKind.u64 y1] [some (EV.arr IntKind.u32 y2 y3)]) x0 x1 x2 x3 x4 x5 x6 x7 x8 := (yax _ _ _ _ _ _ _ _ _ _ _).symm.trans (by kernel_rfl)
theorem zax.l7X.eq (K : Ex → List EV → yae → Prop) : ∀ (n : Nat) (x0 : Nat) (x1 : Nat → Int) (x2 : Nat) (x3 : Nat → Int) (x4 : Nat) (x5 : Int) (x6 : Int) (x7 : Nat) (x8 : Nat → Int), yar E_zax (yaa Tryd.f89 0) (LV.mk 80 [(0, 80)] 48 0 true) 0 285 K n [EV.rsI IntKind.u32 x0 x1, EV.rsI IntKind.u32 x2 x3, EV.slice 0 0 x4 none 1, EV.int IntKind.u64 x5, EV.int IntKind.i64 x6] [some (EV.arr IntKind.u32 x7 x8)] = zax.l7 (fun y0 y1 y2 y3 => K (.exit 0) [EV.slice 0 0 y0 none 1, EV.int IntKind.u64 y1] [some (EV.arr IntKind.u32 y2 y3)]) n x0 x1 x2 x3 x4 x5 x6 x7 x8
 | 0, _, _, _, _, _, _, _, _, _ => rfl
 | n + 1, x0, x1, x2, x3, x4, x5, x6, x7, x8 => by
  have ih : (fun (x0 : Nat) (x1 : Nat → Int) (x2 : Nat) (x3 : Nat → Int) (x4 : Nat) (x5 : Int) (x6 : Int) (x7 : Nat) (x8 : Nat → Int) => yar E_zax (yaa Tryd.f89 0) (LV.mk 80 [(0, 80)] 48 0 true) 0 285 K n [EV.rsI IntKind.u32 x0 x1, EV.rsI IntKind.u32 x2 x3, EV.slice 0 0 x4 none 1, EV.int IntKind.u64 x5, EV.int IntKind.i64 x6] [some (EV.arr IntKind.u32 x7 x8)]) = zax.l7 (fun y0 y1 y2 y3 => K (.exit 0) [EV.slice 0 0 y0 none 1, EV.int IntKind.u64 y1] [some (EV.arr IntKind.u32 y2 y3)]) n := by funext x0 x1 x2 x3 x4 x5 x6 x7 x8; exact zax.l7X.eq K n x0 x1 x2 x3 x4 x5 x6 x7 x8
  show yak _ _ _ _ _ (yar E_zax (yaa Tryd.f89 0) (LV.mk 80 [(0, 80)] 48 0 true) 0 285 K n) [EV.rsI IntKind.u32 x0 x1, EV.rsI IntKind.u32 x2 x3, EV.slice 0 0 x4 none 1, EV.int IntKind.u64 x5, EV.int IntKind.i64 x6] [some (EV.arr IntKind.u32 x7 x8)] K = zax.l7.step (zax.l7 (fun y0 y1 y2 y3 => K (.exit 0) [EV.slice 0 0 y0 none 1, EV.int IntKind.u64 y1] [some (EV.arr IntKind.u32 y2 y3)]) n) (fun y0 y1 y2 y3 => K (.exit 0) [EV.slice 0 0 y0 none 1, EV.int IntKind.u64 y1] [some (EV.arr IntKind.u32 y2 y3)]) x0 x1 x2 x3 x4 x5 x6 x7 x8
  rw [← ih]
  exact zax.l7X.stepEq _ K x0 x1 x2 x3 x4 x5 x6 x7 x8
theorem zax.l7X.ok : LoopEq E_zax (yaa Tryd.f89 0) := by
 intro L hL vs H
 have h1 : E_zax.lp (yai (yaa Tryd.f89 0)) = some zax.l7.entry := by kernel_rfl
 have h2 : L = zax.l7.entry := Option.some.inj (hL.symm.trans h1)
 subst h2
 by_cases hx : ∃ (x0 : Nat) (x1 : Nat → Int) (x2 : Nat) (x3 : Nat → Int) (x4 : Nat) (x5 : Int) (x6 : Int) (x7 : Nat) (x8 : Nat → Int), vs = [EV.rsI IntKind.u32 x0 x1, EV.rsI IntKind.u32 x2 x3, EV.slice 0 0 x4 none 1, EV.int IntKind.u64 x5, EV.int IntKind.i64 x6] ∧ H = [some (EV.arr IntKind.u32 x7 x8)]
 ·obtain ⟨x0, x1, x2, x3, x4, x5, x6, x7, x8, rfl, rfl⟩ := hx
  right; intro K
  exact exists_congr fun n => iff_of_eq (zax.l7X.eq K n x0 x1 x2 x3 x4 x5 x6 x7 x8).symm
 ·left; intro K h
  simp only [zax.l7.entry] at h
  split at h
  ·exact hx ⟨_, _, _, _, _, _, _, _, _, rfl, rfl⟩
  ·exact h
theorem zax.l16X.stepEq (R : List EV → yae → Prop) (K : Ex → List EV → yae → Prop) (x0 : Nat) (x1 : Nat → Int) (x2 : Nat) (x3 : Int) (x4 : Nat) (x5 : Nat) (x6 : Nat) (x7 : Nat → Int) (x8 : Nat) (x9 : Nat → Int) (x10 : Nat) (x11 : Nat → Int) : yak (yan E_zax (yaa Tryd.f89 1) { (LV.mk 1808 [(2, 1808)] 48 0 true) with nx := live (.loop (yaa Tryd.f89 1)) (LV.mk 1808 [(2, 1808)] 48 0 true) }) (live (.loop (yaa Tryd.f89 1)) (LV.mk 1808 [(2, 1808)] 48 0 true)) (LV.mk 1808 [(2, 1808)] 48 0 true) 0 285 R [EV.rsI IntKind.u32 x0 x1, EV.slice 0 0 x2 none 1, EV.int IntKind.i64 x3, EV.slice 1 0 x4 none 1, EV.slice 2 0 x5 none 1] [some (EV.arr IntKind.u32 x6 x7), some (EV.arr IntKind.u32 x8 x9), some (EV.arr IntKind.u32 x10 x11)] K = zax.l16.step (fun x0 x1 x2 x3 x4 x5 x6 x7 x8 x9 x10 x11 => R [EV.rsI IntKind.u32 x0 x1, EV.slice 0 0 x2 none 1, EV.int IntKind.i64 x3, EV.slice 1 0 x4 none 1, EV.slice 2 0 x5 none 1] [some (EV.arr IntKind.u32 x6 x7), some (EV.arr IntKind.u32 x8 x9), some (EV.arr IntKind.u32 x10 x11)]) (fun y0 y1 y2 y3 y4 y5 y6 y7 y8 y9 => K (.exit 2) [EV.slice 0 0 y0 none 1, EV.int IntKind.i64 y1, EV.slice 1 0 y2 none 1, EV.slice 2 0 y3 none 1] [some (EV.arr IntKind.u32 y4 y5), some (EV.arr IntKind.u32 y6 y7), some (EV.arr IntKind.u32 y8 y9)]) x0 x1 x2 x3 x4 x5 x6 x7 x8 x9 x10 x11 := (yax _ _ _ _ _ _ _ _ _ _ _).symm.trans (by kernel_rfl)
theorem zax.l16X.eq (K : Ex → List EV → yae → Prop) : ∀ (n : Nat) (x0 : Nat) (x1 : Nat → Int) (x2 : Nat) (x3 : Int) (x4 : Nat) (x5 : Nat) (x6 : Nat) (x7 : Nat → Int) (x8 : Nat) (x9 : Nat → Int) (x10 : Nat) (x11 : Nat → Int), yar E_zax (yaa Tryd.f89 1) (LV.mk 1808 [(2, 1808)] 48 0 true) 0 285 K n [EV.rsI IntKind.u32 x0 x1, EV.slice 0 0 x2 none 1, EV.int IntKind.i64 x3, EV.slice 1 0 x4 none 1, EV.slice 2 0 x5 none 1] [some (EV.arr IntKind.u32 x6 x7), some (EV.arr IntKind.u32 x8 x9), some (EV.arr IntKind.u32 x10 x11)] = zax.l16 (fun y0 y1 y2 y3 y4 y5 y6 y7 y8 y9 => K (.exit 2) [EV.slice 0 0 y0 none 1, EV.int IntKind.i64 y1, EV.slice 1 0 y2 none 1, EV.slice 2 0 y3 none 1] [some (EV.arr IntKind.u32 y4 y5), some (EV.arr IntKind.u32 y6 y7), some (EV.arr IntKind.u32 y8 y9)]) n x0 x1 x2 x3 x4 x5 x6 x7 x8 x9 x10 x11
 | 0, _, _, _, _, _, _, _, _, _, _, _, _ => rfl
 | n + 1, x0, x1, x2, x3, x4, x5, x6, x7, x8, x9, x10, x11 => by
  have ih : (fun (x0 : Nat) (x1 : Nat → Int) (x2 : Nat) (x3 : Int) (x4 : Nat) (x5 : Nat) (x6 : Nat) (x7 : Nat → Int) (x8 : Nat) (x9 : Nat → Int) (x10 : Nat) (x11 : Nat → Int) => yar E_zax (yaa Tryd.f89 1) (LV.mk 1808 [(2, 1808)] 48 0 true) 0 285 K n [EV.rsI IntKind.u32 x0 x1, EV.slice 0 0 x2 none 1, EV.int IntKind.i64 x3, EV.slice 1 0 x4 none 1, EV.slice 2 0 x5 none 1] [some (EV.arr IntKind.u32 x6 x7), some (EV.arr IntKind.u32 x8 x9), some (EV.arr IntKind.u32 x10 x11)]) = zax.l16 (fun y0 y1 y2 y3 y4 y5 y6 y7 y8 y9 => K (.exit 2) [EV.slice 0 0 y0 none 1, EV.int IntKind.i64 y1, EV.slice 1 0 y2 none 1, EV.slice 2 0 y3 none 1] [some (EV.arr IntKind.u32 y4 y5), some (EV.arr IntKind.u32 y6 y7), some (EV.arr IntKind.u32 y8 y9)]) n := by funext x0 x1 x2 x3 x4 x5 x6 x7 x8 x9 x10 x11; exact zax.l16X.eq K n x0 x1 x2 x3 x4 x5 x6 x7 x8 x9 x10 x11
  show yak _ _ _ _ _ (yar E_zax (yaa Tryd.f89 1) (LV.mk 1808 [(2, 1808)] 48 0 true) 0 285 K n) [EV.rsI IntKind.u32 x0 x1, EV.slice 0 0 x2 none 1, EV.int IntKind.i64 x3, EV.slice 1 0 x4 none 1, EV.slice 2 0 x5 none 1] [some (EV.arr IntKind.u32 x6 x7), some (EV.arr IntKind.u32 x8 x9), some (EV.arr IntKind.u32 x10 x11)] K = zax.l16.step (zax.l16 (fun y0 y1 y2 y3 y4 y5 y6 y7 y8 y9 => K (.exit 2) [EV.slice 0 0 y0 none 1, EV.int IntKind.i64 y1, EV.slice 1 0 y2 none 1, EV.slice 2 0 y3 none 1] [some (EV.arr IntKind.u32 y4 y5), some (EV.arr IntKind.u32 y6 y7), some (EV.arr IntKind.u32 y8 y9)]) n) (fun y0 y1 y2 y3 y4 y5 y6 y7 y8 y9 => K (.exit 2) [EV.slice 0 0 y0 none 1, EV.int IntKind.i64 y1, EV.slice 1 0 y2 none 1, EV.slice 2 0 y3 none 1] [some (EV.arr IntKind.u32 y4 y5), some (EV.arr IntKind.u32 y6 y7), some (EV.arr IntKind.u32 y8 y9)]) x0 x1 x2 x3 x4 x5 x6 x7 x8 x9 x10 x11
  rw [← ih]
  exact zax.l16X.stepEq _ K x0 x1 x2 x3 x4 x5 x6 x7 x8 x9 x10 x11
theorem zax.l16X.ok : LoopEq E_zax (yaa Tryd.f89 1) := by
 intro L hL vs H
 have h1 : E_zax.lp (yai (yaa Tryd.f89 1)) = some zax.l16.entry := by kernel_rfl
 have h2 : L = zax.l16.entry := Option.some.inj (hL.symm.trans h1)
 subst h2
 by_cases hx : ∃ (x0 : Nat) (x1 : Nat → Int) (x2 : Nat) (x3 : Int) (x4 : Nat) (x5 : Nat) (x6 : Nat) (x7 : Nat → Int) (x8 : Nat) (x9 : Nat → Int) (x10 : Nat) (x11 : Nat → Int), vs = [EV.rsI IntKind.u32 x0 x1, EV.slice 0 0 x2 none 1, EV.int IntKind.i64 x3, EV.slice 1 0 x4 none 1, EV.slice 2 0 x5 none 1] ∧ H = [some (EV.arr IntKind.u32 x6 x7), some (EV.arr IntKind.u32 x8 x9), some (EV.arr IntKind.u32 x10 x11)]
 ·obtain ⟨x0, x1, x2, x3, x4, x5, x6, x7, x8, x9, x10, x11, rfl, rfl⟩ := hx
  right; intro K
  exact exists_congr fun n => iff_of_eq (zax.l16X.eq K n x0 x1 x2 x3 x4 x5 x6 x7 x8 x9 x10 x11).symm
 ·left; intro K h
  simp only [zax.l16.entry] at h
  split at h
  ·exact hx ⟨_, _, _, _, _, _, _, _, _, _, _, _, rfl, rfl⟩
  ·exact h
theorem zax.l20X.stepEq (R : List EV → yae → Prop) (K : Ex → List EV → yae → Prop) (x0 : Nat) (x1 : Int) (x2 : Nat) (x3 : Nat) (x4 : Int) (x5 : Int) (x6 : Nat) (x7 : Nat → Int) (x8 : Nat) (x9 : Nat → Int) (x10 : Nat) (x11 : Nat → Int) : yak (yan E_zax (yaa Tryd.f89 2) { (LV.mk 1296 [(4, 1296)] 48 0 true) with nx := live (.loop (yaa Tryd.f89 2)) (LV.mk 1296 [(4, 1296)] 48 0 true) }) (live (.loop (yaa Tryd.f89 2)) (LV.mk 1296 [(4, 1296)] 48 0 true)) (LV.mk 1296 [(4, 1296)] 48 0 true) 0 285 R [EV.slice 0 0 x0 none 1, EV.int IntKind.i64 x1, EV.slice 1 0 x2 none 1, EV.slice 2 0 x3 none 1, EV.int IntKind.i64 x4, EV.int IntKind.i64 x5] [some (EV.arr IntKind.u32 x6 x7), some (EV.arr IntKind.u32 x8 x9), some (EV.arr IntKind.u32 x10 x11)] K = zax.l20.step (fun x0 x1 x2 x3 x4 x5 x6 x7 x8 x9 x10 x11 => R [EV.slice 0 0 x0 none 1, EV.int IntKind.i64 x1, EV.slice 1 0 x2 none 1, EV.slice 2 0 x3 none 1, EV.int IntKind.i64 x4, EV.int IntKind.i64 x5] [some (EV.arr IntKind.u32 x6 x7), some (EV.arr IntKind.u32 x8 x9), some (EV.arr IntKind.u32 x10 x11)]) (fun y0 y1 y2 y3 y4 y5 y6 => K (.exit 4) [EV.slice 0 0 y0 none 1, EV.int IntKind.i64 y1, EV.slice 1 0 y2 none 1] [some (EV.arr IntKind.u32 y3 y4), some (EV.arr IntKind.u32 y5 y6)]) x0 x1 x2 x3 x4 x5 x6 x7 x8 x9 x10 x11 := (yax _ _ _ _ _ _ _ _ _ _ _).symm.trans (by kernel_rfl)
theorem zax.l20X.eq (K : Ex → List EV → yae → Prop) : ∀ (n : Nat) (x0 : Nat) (x1 : Int) (x2 : Nat) (x3 : Nat) (x4 : Int) (x5 : Int) (x6 : Nat) (x7 : Nat → Int) (x8 : Nat) (x9 : Nat → Int) (x10 : Nat) (x11 : Nat → Int), yar E_zax (yaa Tryd.f89 2) (LV.mk 1296 [(4, 1296)] 48 0 true) 0 285 K n [EV.slice 0 0 x0 none 1, EV.int IntKind.i64 x1, EV.slice 1 0 x2 none 1, EV.slice 2 0 x3 none 1, EV.int IntKind.i64 x4, EV.int IntKind.i64 x5] [some (EV.arr IntKind.u32 x6 x7), some (EV.arr IntKind.u32 x8 x9), some (EV.arr IntKind.u32 x10 x11)] = zax.l20 (fun y0 y1 y2 y3 y4 y5 y6 => K (.exit 4) [EV.slice 0 0 y0 none 1, EV.int IntKind.i64 y1, EV.slice 1 0 y2 none 1] [some (EV.arr IntKind.u32 y3 y4), some (EV.arr IntKind.u32 y5 y6)]) n x0 x1 x2 x3 x4 x5 x6 x7 x8 x9 x10 x11
 | 0, _, _, _, _, _, _, _, _, _, _, _, _ => rfl
 | n + 1, x0, x1, x2, x3, x4, x5, x6, x7, x8, x9, x10, x11 => by
  have ih : (fun (x0 : Nat) (x1 : Int) (x2 : Nat) (x3 : Nat) (x4 : Int) (x5 : Int) (x6 : Nat) (x7 : Nat → Int) (x8 : Nat) (x9 : Nat → Int) (x10 : Nat) (x11 : Nat → Int) => yar E_zax (yaa Tryd.f89 2) (LV.mk 1296 [(4, 1296)] 48 0 true) 0 285 K n [EV.slice 0 0 x0 none 1, EV.int IntKind.i64 x1, EV.slice 1 0 x2 none 1, EV.slice 2 0 x3 none 1, EV.int IntKind.i64 x4, EV.int IntKind.i64 x5] [some (EV.arr IntKind.u32 x6 x7), some (EV.arr IntKind.u32 x8 x9), some (EV.arr IntKind.u32 x10 x11)]) = zax.l20 (fun y0 y1 y2 y3 y4 y5 y6 => K (.exit 4) [EV.slice 0 0 y0 none 1, EV.int IntKind.i64 y1, EV.slice 1 0 y2 none 1] [some (EV.arr IntKind.u32 y3 y4), some (EV.arr IntKind.u32 y5 y6)]) n := by funext x0 x1 x2 x3 x4 x5 x6 x7 x8 x9 x10 x11; exact zax.l20X.eq K n x0 x1 x2 x3 x4 x5 x6 x7 x8 x9 x10 x11
  show yak _ _ _ _ _ (yar E_zax (yaa Tryd.f89 2) (LV.mk 1296 [(4, 1296)] 48 0 true) 0 285 K n) [EV.slice 0 0 x0 none 1, EV.int IntKind.i64 x1, EV.slice 1 0 x2 none 1, EV.slice 2 0 x3 none 1, EV.int IntKind.i64 x4, EV.int IntKind.i64 x5] [some (EV.arr IntKind.u32 x6 x7), some (EV.arr IntKind.u32 x8 x9), some (EV.arr IntKind.u32 x10 x11)] K = zax.l20.step (zax.l20 (fun y0 y1 y2 y3 y4 y5 y6 => K (.exit 4) [EV.slice 0 0 y0 none 1, EV.int IntKind.i64 y1, EV.slice 1 0 y2 none 1] [some (EV.arr IntKind.u32 y3 y4), some (EV.arr IntKind.u32 y5 y6)]) n) (fun y0 y1 y2 y3 y4 y5 y6 => K (.exit 4) [EV.slice 0 0 y0 none 1, EV.int IntKind.i64 y1, EV.slice 1 0 y2 none 1] [some (EV.arr IntKind.u32 y3 y4), some (EV.arr IntKind.u32 y5 y6)]) x0 x1 x2 x3 x4 x5 x6 x7 x8 x9 x10 x11
  rw [← ih]
  exact zax.l20X.stepEq _ K x0 x1 x2 x3 x4 x5 x6 x7 x8 x9 x10 x11
theorem zax.l20X.ok : LoopEq E_zax (yaa Tryd.f89 2) := by
 intro L hL vs H
 have h1 : E_zax.lp (yai (yaa Tryd.f89 2)) = some zax.l20.entry := by kernel_rfl
 have h2 : L = zax.l20.entry := Option.some.inj (hL.symm.trans h1)
 subst h2
 by_cases hx : ∃ (x0 : Nat) (x1 : Int) (x2 : Nat) (x3 : Nat) (x4 : Int) (x5 : Int) (x6 : Nat) (x7 : Nat → Int) (x8 : Nat) (x9 : Nat → Int) (x10 : Nat) (x11 : Nat → Int), vs = [EV.slice 0 0 x0 none 1, EV.int IntKind.i64 x1, EV.slice 1 0 x2 none 1, EV.slice 2 0 x3 none 1, EV.int IntKind.i64 x4, EV.int IntKind.i64 x5] ∧ H = [some (EV.arr IntKind.u32 x6 x7), some (EV.arr IntKind.u32 x8 x9), some (EV.arr IntKind.u32 x10 x11)]
 ·obtain ⟨x0, x1, x2, x3, x4, x5, x6, x7, x8, x9, x10, x11, rfl, rfl⟩ := hx
  right; intro K
  exact exists_congr fun n => iff_of_eq (zax.l20X.eq K n x0 x1 x2 x3 x4 x5 x6 x7 x8 x9 x10 x11).symm
 ·left; intro K h
  simp only [zax.l20.entry] at h
  split at h
  ·exact hx ⟨_, _, _, _, _, _, _, _, _, _, _, _, rfl, rfl⟩
  ·exact h
theorem zax.l24X.stepEq (R : List EV → yae → Prop) (K : Ex → List EV → yae → Prop) (x0 : Nat) (x1 : Int) (x2 : Nat) (x3 : Nat) (x4 : Int) (x5 : Int) (x6 : Int) (x7 : Int) (x8 : Nat) (x9 : Nat → Int) (x10 : Nat) (x11 : Nat → Int) (x12 : Nat) (x13 : Nat → Int) : yak (yan E_zax (yaa Tryd.f89 3) { (LV.mk 24336 [(6, 24336), (5, 7952), (4, 1296)] 48 0 true) with nx := live (.loop (yaa Tryd.f89 3)) (LV.mk 24336 [(6, 24336), (5, 7952), (4, 1296)] 48 0 true) }) (live (.loop (yaa Tryd.f89 3)) (LV.mk 24336 [(6, 24336), (5, 7952), (4, 1296)] 48 0 true)) (LV.mk 24336 [(6, 24336), (5, 7952), (4, 1296)] 48 0 true) 0 285 R [EV.slice 0 0 x0 none 1, EV.int IntKind.i64 x1, EV.slice 1 0 x2 none 1, EV.slice 2 0 x3 none 1, EV.int IntKind.i64 x4, EV.int IntKind.i64 x5, EV.int IntKind.u64 x6, EV.int IntKind.u64 x7] [some (EV.arr IntKind.u32 x8 x9), some (EV.arr IntKind.u32 x10 x11), some (EV.arr IntKind.u32 x12 x13)] K = zax.l24.step (fun x0 x1 x2 x3 x4 x5 x6 x7 x8 x9 x10 x11 x12 x13 => R [EV.slice 0 0 x0 none 1, EV.int IntKind.i64 x1, EV.slice 1 0 x2 none 1, EV.slice 2 0 x3 none 1, EV.int IntKind.i64 x4, EV.int IntKind.i64 x5, EV.int IntKind.u64 x6, EV.int IntKind.u64 x7] [some (EV.arr IntKind.u32 x8 x9), some (EV.arr IntKind.u32 x10 x11), some (EV.arr IntKind.u32 x12 x13)]) (fun y0 y1 y2 y3 y4 y5 y6 y7 y8 y9 y10 y11 y12 => K (.exit 6) [EV.slice 0 0 y0 none 1, EV.int IntKind.i64 y1, EV.slice 1 0 y2 none 1, EV.slice 2 0 y3 none 1, EV.int IntKind.i64 y4, EV.int IntKind.i64 y5, EV.int IntKind.u64 y6] [some (EV.arr IntKind.u32 y7 y8), some (EV.arr IntKind.u32 y9 y10), some (EV.arr IntKind.u32 y11 y12)]) x0 x1 x2 x3 x4 x5 x6 x7 x8 x9 x10 x11 x12 x13 := (yax _ _ _ _ _ _ _ _ _ _ _).symm.trans (by kernel_rfl)
theorem zax.l24X.eq (K : Ex → List EV → yae → Prop) : ∀ (n : Nat) (x0 : Nat) (x1 : Int) (x2 : Nat) (x3 : Nat) (x4 : Int) (x5 : Int) (x6 : Int) (x7 : Int) (x8 : Nat) (x9 : Nat → Int) (x10 : Nat) (x11 : Nat → Int) (x12 : Nat) (x13 : Nat → Int), yar E_zax (yaa Tryd.f89 3) (LV.mk 24336 [(6, 24336), (5, 7952), (4, 1296)] 48 0 true) 0 285 K n [EV.slice 0 0 x0 none 1, EV.int IntKind.i64 x1, EV.slice 1 0 x2 none 1, EV.slice 2 0 x3 none 1, EV.int IntKind.i64 x4, EV.int IntKind.i64 x5, EV.int IntKind.u64 x6, EV.int IntKind.u64 x7] [some (EV.arr IntKind.u32 x8 x9), some (EV.arr IntKind.u32 x10 x11), some (EV.arr IntKind.u32 x12 x13)] = zax.l24 (fun y0 y1 y2 y3 y4 y5 y6 y7 y8 y9 y10 y11 y12 => K (.exit 6) [EV.slice 0 0 y0 none 1, EV.int IntKind.i64 y1, EV.slice 1 0 y2 none 1, EV.slice 2 0 y3 none 1, EV.int IntKind.i64 y4, EV.int IntKind.i64 y5, EV.int IntKind.u64 y6] [some (EV.arr IntKind.u32 y7 y8), some (EV.arr IntKind.u32 y9 y10), some (EV.arr IntKind.u32 y11 y12)]) n x0 x1 x2 x3 x4 x5 x6 x7 x8 x9 x10 x11 x12 x13
 | 0, _, _, _, _, _, _, _, _, _, _, _, _, _, _ => rfl
 | n + 1, x0, x1, x2, x3, x4, x5, x6, x7, x8, x9, x10, x11, x12, x13 => by
  have ih : (fun (x0 : Nat) (x1 : Int) (x2 : Nat) (x3 : Nat) (x4 : Int) (x5 : Int) (x6 : Int) (x7 : Int) (x8 : Nat) (x9 : Nat → Int) (x10 : Nat) (x11 : Nat → Int) (x12 : Nat) (x13 : Nat → Int) => yar E_zax (yaa Tryd.f89 3) (LV.mk 24336 [(6, 24336), (5, 7952), (4, 1296)] 48 0 true) 0 285 K n [EV.slice 0 0 x0 none 1, EV.int IntKind.i64 x1, EV.slice 1 0 x2 none 1, EV.slice 2 0 x3 none 1, EV.int IntKind.i64 x4, EV.int IntKind.i64 x5, EV.int IntKind.u64 x6, EV.int IntKind.u64 x7] [some (EV.arr IntKind.u32 x8 x9), some (EV.arr IntKind.u32 x10 x11), some (EV.arr IntKind.u32 x12 x13)]) = zax.l24 (fun y0 y1 y2 y3 y4 y5 y6 y7 y8 y9 y10 y11 y12 => K (.exit 6) [EV.slice 0 0 y0 none 1, EV.int IntKind.i64 y1, EV.slice 1 0 y2 none 1, EV.slice 2 0 y3 none 1, EV.int IntKind.i64 y4, EV.int IntKind.i64 y5, EV.int IntKind.u64 y6] [some (EV.arr IntKind.u32 y7 y8), some (EV.arr IntKind.u32 y9 y10), some (EV.arr IntKind.u32 y11 y12)]) n := by funext x0 x1 x2 x3 x4 x5 x6 x7 x8 x9 x10 x11 x12 x13; exact zax.l24X.eq K n x0 x1 x2 x3 x4 x5 x6 x7 x8 x9 x10 x11 x12 x13
  show yak _ _ _ _ _ (yar E_zax (yaa Tryd.f89 3) (LV.mk 24336 [(6, 24336), (5, 7952), (4, 1296)] 48 0 true) 0 285 K n) [EV.slice 0 0 x0 none 1, EV.int IntKind.i64 x1, EV.slice 1 0 x2 none 1, EV.slice 2 0 x3 none 1, EV.int IntKind.i64 x4, EV.int IntKind.i64 x5, EV.int IntKind.u64 x6, EV.int IntKind.u64 x7] [some (EV.arr IntKind.u32 x8 x9), some (EV.arr IntKind.u32 x10 x11), some (EV.arr IntKind.u32 x12 x13)] K = zax.l24.step (zax.l24 (fun y0 y1 y2 y3 y4 y5 y6 y7 y8 y9 y10 y11 y12 => K (.exit 6) [EV.slice 0 0 y0 none 1, EV.int IntKind.i64 y1, EV.slice 1 0 y2 none 1, EV.slice 2 0 y3 none 1, EV.int IntKind.i64 y4, EV.int IntKind.i64 y5, EV.int IntKind.u64 y6] [some (EV.arr IntKind.u32 y7 y8), some (EV.arr IntKind.u32 y9 y10), some (EV.arr IntKind.u32 y11 y12)]) n) (fun y0 y1 y2 y3 y4 y5 y6 y7 y8 y9 y10 y11 y12 => K (.exit 6) [EV.slice 0 0 y0 none 1, EV.int IntKind.i64 y1, EV.slice 1 0 y2 none 1, EV.slice 2 0 y3 none 1, EV.int IntKind.i64 y4, EV.int IntKind.i64 y5, EV.int IntKind.u64 y6] [some (EV.arr IntKind.u32 y7 y8), some (EV.arr IntKind.u32 y9 y10), some (EV.arr IntKind.u32 y11 y12)]) x0 x1 x2 x3 x4 x5 x6 x7 x8 x9 x10 x11 x12 x13
  rw [← ih]
  exact zax.l24X.stepEq _ K x0 x1 x2 x3 x4 x5 x6 x7 x8 x9 x10 x11 x12 x13
theorem zax.l24X.ok : LoopEq E_zax (yaa Tryd.f89 3) := by
 intro L hL vs H
 have h1 : E_zax.lp (yai (yaa Tryd.f89 3)) = some zax.l24.entry := by kernel_rfl
 have h2 : L = zax.l24.entry := Option.some.inj (hL.symm.trans h1)
 subst h2
 by_cases hx : ∃ (x0 : Nat) (x1 : Int) (x2 : Nat) (x3 : Nat) (x4 : Int) (x5 : Int) (x6 : Int) (x7 : Int) (x8 : Nat) (x9 : Nat → Int) (x10 : Nat) (x11 : Nat → Int) (x12 : Nat) (x13 : Nat → Int), vs = [EV.slice 0 0 x0 none 1, EV.int IntKind.i64 x1, EV.slice 1 0 x2 none 1, EV.slice 2 0 x3 none 1, EV.int IntKind.i64 x4, EV.int IntKind.i64 x5, EV.int IntKind.u64 x6, EV.int IntKind.u64 x7] ∧ H = [some (EV.arr IntKind.u32 x8 x9), some (EV.arr IntKind.u32 x10 x11), some (EV.arr IntKind.u32 x12 x13)]
 ·obtain ⟨x0, x1, x2, x3, x4, x5, x6, x7, x8, x9, x10, x11, x12, x13, rfl, rfl⟩ := hx
  right; intro K
  exact exists_congr fun n => iff_of_eq (zax.l24X.eq K n x0 x1 x2 x3 x4 x5 x6 x7 x8 x9 x10 x11 x12 x13).symm
 ·left; intro K h
  simp only [zax.l24.entry] at h
  split at h
  ·exact hx ⟨_, _, _, _, _, _, _, _, _, _, _, _, _, _, rfl, rfl⟩
  ·exact h
theorem zax.l31X.stepEq (R : List EV → yae → Prop) (K : Ex → List EV → yae → Prop) (x0 : Nat) (x1 : Int) (x2 : Nat) (x3 : Nat) (x4 : Int) (x5 : Int) (x6 : Int) (x7 : Int) (x8 : Int) (x9 : Int) (x10 : Int) (x11 : Nat) (x12 : Nat → Int) (x13 : Nat) (x14 : Nat → Int) (x15 : Nat) (x16 : Nat → Int) : yak (yan E_zax (yaa Tryd.f89 4) { (LV.mk 220944 [(8, 220944), (5, 7952), (4, 1296)] 48 0 true) with nx := live (.loop (yaa Tryd.f89 4)) (LV.mk 220944 [(8, 220944), (5, 7952), (4, 1296)] 48 0 true) }) (live (.loop (yaa Tryd.f89 4)) (LV.mk 220944 [(8, 220944), (5, 7952), (4, 1296)] 48 0 true)) (LV.mk 220944 [(8, 220944), (5, 7952), (4, 1296)] 48 0 true) 0 285 R [EV.slice 0 0 x0 none 1, EV.int IntKind.i64 x1, EV.slice 1 0 x2 none 1, EV.slice 2 0 x3 none 1, EV.int IntKind.i64 x4, EV.int IntKind.i64 x5, EV.int IntKind.u64 x6, EV.int IntKind.u64 x7, EV.int IntKind.i64 x8, EV.int IntKind.i64 x9, EV.int IntKind.i64 x10] [some (EV.arr IntKind.u32 x11 x12), some (EV.arr IntKind.u32 x13 x14), some (EV.arr IntKind.u32 x15 x16)] K = zax.l31.step (fun x0 x1 x2 x3 x4 x5 x6 x7 x8 x9 x10 x11 x12 x13 x14 x15 x16 => R [EV.slice 0 0 x0 none 1, EV.int IntKind.i64 x1, EV.slice 1 0 x2 none 1, EV.slice 2 0 x3 none 1, EV.int IntKind.i64 x4, EV.int IntKind.i64 x5, EV.int IntKind.u64 x6, EV.int IntKind.u64 x7, EV.int IntKind.i64 x8, EV.int IntKind.i64 x9, EV.int IntKind.i64 x10] [some (EV.arr IntKind.u32 x11 x12), some (EV.arr IntKind.u32 x13 x14), some (EV.arr IntKind.u32 x15 x16)]) (fun y0 y1 y2 y3 y4 y5 y6 y7 y8 y9 y10 y11 y12 y13 y14 => K (.exit 8) [EV.slice 0 0 y0 none 1, EV.int IntKind.i64 y1, EV.slice 1 0 y2 none 1, EV.slice 2 0 y3 none 1, EV.int IntKind.i64 y4, EV.int IntKind.i64 y5, EV.int IntKind.u64 y6, EV.int IntKind.u64 y7, EV.int IntKind.i64 y8] [some (EV.arr IntKind.u32 y9 y10), some (EV.arr IntKind.u32 y11 y12), some (EV.arr IntKind.u32 y13 y14)]) x0 x1 x2 x3 x4 x5 x6 x7 x8 x9 x10 x11 x12 x13 x14 x15 x16 := (yax _ _ _ _ _ _ _ _ _ _ _).symm.trans (by kernel_rfl)
theorem zax.l31X.eq (K : Ex → List EV → yae → Prop) : ∀ (n : Nat) (x0 : Nat) (x1 : Int) (x2 : Nat) (x3 : Nat) (x4 : Int) (x5 : Int) (x6 : Int) (x7 : Int) (x8 : Int) (x9 : Int) (x10 : Int) (x11 : Nat) (x12 : Nat → Int) (x13 : Nat) (x14 : Nat → Int) (x15 : Nat) (x16 : Nat → Int), yar E_zax (yaa Tryd.f89 4) (LV.mk 220944 [(8, 220944), (5, 7952), (4, 1296)] 48 0 true) 0 285 K n [EV.slice 0 0 x0 none 1, EV.int IntKind.i64 x1, EV.slice 1 0 x2 none 1, EV.slice 2 0 x3 none 1, EV.int IntKind.i64 x4, EV.int IntKind.i64 x5, EV.int IntKind.u64 x6, EV.int IntKind.u64 x7, EV.int IntKind.i64 x8, EV.int IntKind.i64 x9, EV.int IntKind.i64 x10] [some (EV.arr IntKind.u32 x11 x12), some (EV.arr IntKind.u32 x13 x14), some (EV.arr IntKind.u32 x15 x16)] = zax.l31 (fun y0 y1 y2 y3 y4 y5 y6 y7 y8 y9 y10 y11 y12 y13 y14 => K (.exit 8) [EV.slice 0 0 y0 none 1, EV.int IntKind.i64 y1, EV.slice 1 0 y2 none 1, EV.slice 2 0 y3 none 1, EV.int IntKind.i64 y4, EV.int IntKind.i64 y5, EV.int IntKind.u64 y6, EV.int IntKind.u64 y7, EV.int IntKind.i64 y8] [some (EV.arr IntKind.u32 y9 y10), some (EV.arr IntKind.u32 y11 y12), some (EV.arr IntKind.u32 y13 y14)]) n x0 x1 x2 x3 x4 x5 x6 x7 x8 x9 x10 x11 x12 x13 x14 x15 x16
 | 0, _, _, _, _, _, _, _, _, _, _, _, _, _, _, _, _, _ => rfl
 | n + 1, x0, x1, x2, x3, x4, x5, x6, x7, x8, x9, x10, x11, x12, x13, x14, x15, x16 => by
  have ih : (fun (x0 : Nat) (x1 : Int) (x2 : Nat) (x3 : Nat) (x4 : Int) (x5 : Int) (x6 : Int) (x7 : Int) (x8 : Int) (x9 : Int) (x10 : Int) (x11 : Nat) (x12 : Nat → Int) (x13 : Nat) (x14 : Nat → Int) (x15 : Nat) (x16 : Nat → Int) => yar E_zax (yaa Tryd.f89 4) (LV.mk 220944 [(8, 220944), (5, 7952), (4, 1296)] 48 0 true) 0 285 K n [EV.slice 0 0 x0 none 1, EV.int IntKind.i64 x1, EV.slice 1 0 x2 none 1, EV.slice 2 0 x3 none 1, EV.int IntKind.i64 x4, EV.int IntKind.i64 x5, EV.int IntKind.u64 x6, EV.int IntKind.u64 x7, EV.int IntKind.i64 x8, EV.int IntKind.i64 x9, EV.int IntKind.i64 x10] [some (EV.arr IntKind.u32 x11 x12), some (EV.arr IntKind.u32 x13 x14), some (EV.arr IntKind.u32 x15 x16)]) = zax.l31 (fun y0 y1 y2 y3 y4 y5 y6 y7 y8 y9 y10 y11 y12 y13 y14 => K (.exit 8) [EV.slice 0 0 y0 none 1, EV.int IntKind.i64 y1, EV.slice 1 0 y2 none 1, EV.slice 2 0 y3 none 1, EV.int IntKind.i64 y4, EV.int IntKind.i64 y5, EV.int IntKind.u64 y6, EV.int IntKind.u64 y7, EV.int IntKind.i64 y8] [some (EV.arr IntKind.u32 y9 y10), some (EV.arr IntKind.u32 y11 y12), some (EV.arr IntKind.u32 y13 y14)]) n := by funext x0 x1 x2 x3 x4 x5 x6 x7 x8 x9 x10 x11 x12 x13 x14 x15 x16; exact zax.l31X.eq K n x0 x1 x2 x3 x4 x5 x6 x7 x8 x9 x10 x11 x12 x13 x14 x15 x16
  show yak _ _ _ _ _ (yar E_zax (yaa Tryd.f89 4) (LV.mk 220944 [(8, 220944), (5, 7952), (4, 1296)] 48 0 true) 0 285 K n) [EV.slice 0 0 x0 none 1, EV.int IntKind.i64 x1, EV.slice 1 0 x2 none 1, EV.slice 2 0 x3 none 1, EV.int IntKind.i64 x4, EV.int IntKind.i64 x5, EV.int IntKind.u64 x6, EV.int IntKind.u64 x7, EV.int IntKind.i64 x8, EV.int IntKind.i64 x9, EV.int IntKind.i64 x10] [some (EV.arr IntKind.u32 x11 x12), some (EV.arr IntKind.u32 x13 x14), some (EV.arr IntKind.u32 x15 x16)] K = zax.l31.step (zax.l31 (fun y0 y1 y2 y3 y4 y5 y6 y7 y8 y9 y10 y11 y12 y13 y14 => K (.exit 8) [EV.slice 0 0 y0 none 1, EV.int IntKind.i64 y1, EV.slice 1 0 y2 none 1, EV.slice 2 0 y3 none 1, EV.int IntKind.i64 y4, EV.int IntKind.i64 y5, EV.int IntKind.u64 y6, EV.int IntKind.u64 y7, EV.int IntKind.i64 y8] [some (EV.arr IntKind.u32 y9 y10), some (EV.arr IntKind.u32 y11 y12), some (EV.arr IntKind.u32 y13 y14)]) n) (fun y0 y1 y2 y3 y4 y5 y6 y7 y8 y9 y10 y11 y12 y13 y14 => K (.exit 8) [EV.slice 0 0 y0 none 1, EV.int IntKind.i64 y1, EV.slice 1 0 y2 none 1, EV.slice 2 0 y3 none 1, EV.int IntKind.i64 y4, EV.int IntKind.i64 y5, EV.int IntKind.u64 y6, EV.int IntKind.u64 y7, EV.int IntKind.i64 y8] [some (EV.arr IntKind.u32 y9 y10), some (EV.arr IntKind.u32 y11 y12), some (EV.arr IntKind.u32 y13 y14)]) x0 x1 x2 x3 x4 x5 x6 x7 x8 x9 x10 x11 x12 x13 x14 x15 x16
  rw [← ih]
  exact zax.l31X.stepEq _ K x0 x1 x2 x3 x4 x5 x6 x7 x8 x9 x10 x11 x12 x13 x14 x15 x16
theorem zax.l31X.ok : LoopEq E_zax (yaa Tryd.f89 4) := by
 intro L hL vs H
 have h1 : E_zax.lp (yai (yaa Tryd.f89 4)) = some zax.l31.entry := by kernel_rfl
 have h2 : L = zax.l31.entry := Option.some.inj (hL.symm.trans h1)
 subst h2
 by_cases hx : ∃ (x0 : Nat) (x1 : Int) (x2 : Nat) (x3 : Nat) (x4 : Int) (x5 : Int) (x6 : Int) (x7 : Int) (x8 : Int) (x9 : Int) (x10 : Int) (x11 : Nat) (x12 : Nat → Int) (x13 : Nat) (x14 : Nat → Int) (x15 : Nat) (x16 : Nat → Int), vs = [EV.slice 0 0 x0 none 1, EV.int IntKind.i64 x1, EV.slice 1 0 x2 none 1, EV.slice 2 0 x3 none 1, EV.int IntKind.i64 x4, EV.int IntKind.i64 x5, EV.int IntKind.u64 x6, EV.int IntKind.u64 x7, EV.int IntKind.i64 x8, EV.int IntKind.i64 x9, EV.int IntKind.i64 x10] ∧ H = [some (EV.arr IntKind.u32 x11 x12), some (EV.arr IntKind.u32 x13 x14), some (EV.arr IntKind.u32 x15 x16)]
 ·obtain ⟨x0, x1, x2, x3, x4, x5, x6, x7, x8, x9, x10, x11, x12, x13, x14, x15, x16, rfl, rfl⟩ := hx
  right; intro K
  exact exists_congr fun n => iff_of_eq (zax.l31X.eq K n x0 x1 x2 x3 x4 x5 x6 x7 x8 x9 x10 x11 x12 x13 x14 x15 x16).symm
 ·left; intro K h
  simp only [zax.l31.entry] at h
  split at h
  ·exact hx ⟨_, _, _, _, _, _, _, _, _, _, _, _, _, _, _, _, _, rfl, rfl⟩
  ·exact h
theorem zax.l45X.stepEq (R : List EV → yae → Prop) (K : Ex → List EV → yae → Prop) (x0 : Nat) (x1 : Int) (x2 : Nat) (x3 : Nat) (x4 : Int) (x5 : Int) (x6 : Int) (x7 : Int) (x8 : Int) (x9 : Int) (x10 : Nat) (x11 : Nat → Int) (x12 : Nat) (x13 : Nat → Int) (x14 : Nat) (x15 : Nat → Int) : yak (yan E_zax (yaa Tryd.f89 5) { (LV.mk 89872 [(10, 89872), (5, 7952), (4, 1296)] 48 0 true) with nx := live (.loop (yaa Tryd.f89 5)) (LV.mk 89872 [(10, 89872), (5, 7952), (4, 1296)] 48 0 true) }) (live (.loop (yaa Tryd.f89 5)) (LV.mk 89872 [(10, 89872), (5, 7952), (4, 1296)] 48 0 true)) (LV.mk 89872 [(10, 89872), (5, 7952), (4, 1296)] 48 0 true) 0 285 R [EV.slice 0 0 x0 none 1, EV.int IntKind.i64 x1, EV.slice 1 0 x2 none 1, EV.slice 2 0 x3 none 1, EV.int IntKind.i64 x4, EV.int IntKind.i64 x5, EV.int IntKind.u64 x6, EV.int IntKind.u64 x7, EV.int IntKind.i64 x8, EV.int IntKind.i64 x9] [some (EV.arr IntKind.u32 x10 x11), some (EV.arr IntKind.u32 x12 x13), some (EV.arr IntKind.u32 x14 x15)] K = zax.l45.step (fun x0 x1 x2 x3 x4 x5 x6 x7 x8 x9 x10 x11 x12 x13 x14 x15 => R [EV.slice 0 0 x0 none 1, EV.int IntKind.i64 x1, EV.slice 1 0 x2 none 1, EV.slice 2 0 x3 none 1, EV.int IntKind.i64 x4, EV.int IntKind.i64 x5, EV.int IntKind.u64 x6, EV.int IntKind.u64 x7, EV.int IntKind.i64 x8, EV.int IntKind.i64 x9] [some (EV.arr IntKind.u32 x10 x11), some (EV.arr IntKind.u32 x12 x13), some (EV.arr IntKind.u32 x14 x15)]) (fun y0 y1 y2 y3 y4 y5 y6 y7 y8 y9 y10 y11 y12 y13 => K (.exit 10) [EV.slice 0 0 y0 none 1, EV.int IntKind.i64 y1, EV.slice 1 0 y2 none 1, EV.slice 2 0 y3 none 1, EV.int IntKind.i64 y4, EV.int IntKind.i64 y5, EV.int IntKind.u64 y6, EV.int IntKind.u64 y7] [some (EV.arr IntKind.u32 y8 y9), some (EV.arr IntKind.u32 y10 y11), some (EV.arr IntKind.u32 y12 y13)]) x0 x1 x2 x3 x4 x5 x6 x7 x8 x9 x10 x11 x12 x13 x14 x15 := (yax _ _ _ _ _ _ _ _ _ _ _).symm.trans (by kernel_rfl)
theorem zax.l45X.eq (K : Ex → List EV → yae → Prop) : ∀ (n : Nat) (x0 : Nat) (x1 : Int) (x2 : Nat) (x3 : Nat) (x4 : Int) (x5 : Int) (x6 : Int) (x7 : Int) (x8 : Int) (x9 : Int) (x10 : Nat) (x11 : Nat → Int) (x12 : Nat) (x13 : Nat → Int) (x14 : Nat) (x15 : Nat → Int), yar E_zax (yaa Tryd.f89 5) (LV.mk 89872 [(10, 89872), (5, 7952), (4, 1296)] 48 0 true) 0 285 K n [EV.slice 0 0 x0 none 1, EV.int IntKind.i64 x1, EV.slice 1 0 x2 none 1, EV.slice 2 0 x3 none 1, EV.int IntKind.i64 x4, EV.int IntKind.i64 x5, EV.int IntKind.u64 x6, EV.int IntKind.u64 x7, EV.int IntKind.i64 x8, EV.int IntKind.i64 x9] [some (EV.arr IntKind.u32 x10 x11), some (EV.arr IntKind.u32 x12 x13), some (EV.arr IntKind.u32 x14 x15)] = zax.l45 (fun y0 y1 y2 y3 y4 y5 y6 y7 y8 y9 y10 y11 y12 y13 => K (.exit 10) [EV.slice 0 0 y0 none 1, EV.int IntKind.i64 y1, EV.slice 1 0 y2 none 1, EV.slice 2 0 y3 none 1, EV.int IntKind.i64 y4, EV.int IntKind.i64 y5, EV.int IntKind.u64 y6, EV.int IntKind.u64 y7] [some (EV.arr IntKind.u32 y8 y9), some (EV.arr IntKind.u32 y10 y11), some (EV.arr IntKind.u32 y12 y13)]) n x0 x1 x2 x3 x4 x5 x6 x7 x8 x9 x10 x11 x12 x13 x14 x15
 | 0, _, _, _, _, _, _, _, _, _, _, _, _, _, _, _, _ => rfl
 | n + 1, x0, x1, x2, x3, x4, x5, x6, x7, x8, x9, x10, x11, x12, x13, x14, x15 => by
  have ih : (fun (x0 : Nat) (x1 : Int) (x2 : Nat) (x3 : Nat) (x4 : Int) (x5 : Int) (x6 : Int) (x7 : Int) (x8 : Int) (x9 : Int) (x10 : Nat) (x11 : Nat → Int) (x12 : Nat) (x13 : Nat → Int) (x14 : Nat) (x15 : Nat → Int) => yar E_zax (yaa Tryd.f89 5) (LV.mk 89872 [(10, 89872), (5, 7952), (4, 1296)] 48 0 true) 0 285 K n [EV.slice 0 0 x0 none 1, EV.int IntKind.i64 x1, EV.slice 1 0 x2 none 1, EV.slice 2 0 x3 none 1, EV.int IntKind.i64 x4, EV.int IntKind.i64 x5, EV.int IntKind.u64 x6, EV.int IntKind.u64 x7, EV.int IntKind.i64 x8, EV.int IntKind.i64 x9] [some (EV.arr IntKind.u32 x10 x11), some (EV.arr IntKind.u32 x12 x13), some (EV.arr IntKind.u32 x14 x15)]) = zax.l45 (fun y0 y1 y2 y3 y4 y5 y6 y7 y8 y9 y10 y11 y12 y13 => K (.exit 10) [EV.slice 0 0 y0 none 1, EV.int IntKind.i64 y1, EV.slice 1 0 y2 none 1, EV.slice 2 0 y3 none 1, EV.int IntKind.i64 y4, EV.int IntKind.i64 y5, EV.int IntKind.u64 y6, EV.int IntKind.u64 y7] [some (EV.arr IntKind.u32 y8 y9), some (EV.arr IntKind.u32 y10 y11), some (EV.arr IntKind.u32 y12 y13)]) n := by funext x0 x1 x2 x3 x4 x5 x6 x7 x8 x9 x10 x11 x12 x13 x14 x15; exact zax.l45X.eq K n x0 x1 x2 x3 x4 x5 x6 x7 x8 x9 x10 x11 x12 x13 x14 x15
  show yak _ _ _ _ _ (yar E_zax (yaa Tryd.f89 5) (LV.mk 89872 [(10, 89872), (5, 7952), (4, 1296)] 48 0 true) 0 285 K n) [EV.slice 0 0 x0 none 1, EV.int IntKind.i64 x1, EV.slice 1 0 x2 none 1, EV.slice 2 0 x3 none 1, EV.int IntKind.i64 x4, EV.int IntKind.i64 x5, EV.int IntKind.u64 x6, EV.int IntKind.u64 x7, EV.int IntKind.i64 x8, EV.int IntKind.i64 x9] [some (EV.arr IntKind.u32 x10 x11), some (EV.arr IntKind.u32 x12 x13), some (EV.arr IntKind.u32 x14 x15)] K = zax.l45.step (zax.l45 (fun y0 y1 y2 y3 y4 y5 y6 y7 y8 y9 y10 y11 y12 y13 => K (.exit 10) [EV.slice 0 0 y0 none 1, EV.int IntKind.i64 y1, EV.slice 1 0 y2 none 1, EV.slice 2 0 y3 none 1, EV.int IntKind.i64 y4, EV.int IntKind.i64 y5, EV.int IntKind.u64 y6, EV.int IntKind.u64 y7] [some (EV.arr IntKind.u32 y8 y9), some (EV.arr IntKind.u32 y10 y11), some (EV.arr IntKind.u32 y12 y13)]) n) (fun y0 y1 y2 y3 y4 y5 y6 y7 y8 y9 y10 y11 y12 y13 => K (.exit 10) [EV.slice 0 0 y0 none 1, EV.int IntKind.i64 y1, EV.slice 1 0 y2 none 1, EV.slice 2 0 y3 none 1, EV.int IntKind.i64 y4, EV.int IntKind.i64 y5, EV.int IntKind.u64 y6, EV.int IntKind.u64 y7] [some (EV.arr IntKind.u32 y8 y9), some (EV.arr IntKind.u32 y10 y11), some (EV.arr IntKind.u32 y12 y13)]) x0 x1 x2 x3 x4 x5 x6 x7 x8 x9 x10 x11 x12 x13 x14 x15
  rw [← ih]
  exact zax.l45X.stepEq _ K x0 x1 x2 x3 x4 x5 x6 x7 x8 x9 x10 x11 x12 x13 x14 x15
theorem zax.l45X.ok : LoopEq E_zax (yaa Tryd.f89 5) := by
 intro L hL vs H
 have h1 : E_zax.lp (yai (yaa Tryd.f89 5)) = some zax.l45.entry := by kernel_rfl
 have h2 : L = zax.l45.entry := Option.some.inj (hL.symm.trans h1)
 subst h2
 by_cases hx : ∃ (x0 : Nat) (x1 : Int) (x2 : Nat) (x3 : Nat) (x4 : Int) (x5 : Int) (x6 : Int) (x7 : Int) (x8 : Int) (x9 : Int) (x10 : Nat) (x11 : Nat → Int) (x12 : Nat) (x13 : Nat → Int) (x14 : Nat) (x15 : Nat → Int), vs = [EV.slice 0 0 x0 none 1, EV.int IntKind.i64 x1, EV.slice 1 0 x2 none 1, EV.slice 2 0 x3 none 1, EV.int IntKind.i64 x4, EV.int IntKind.i64 x5, EV.int IntKind.u64 x6, EV.int IntKind.u64 x7, EV.int IntKind.i64 x8, EV.int IntKind.i64 x9] ∧ H = [some (EV.arr IntKind.u32 x10 x11), some (EV.arr IntKind.u32 x12 x13), some (EV.arr IntKind.u32 x14 x15)]
 ·obtain ⟨x0, x1, x2, x3, x4, x5, x6, x7, x8, x9, x10, x11, x12, x13, x14, x15, rfl, rfl⟩ := hx
  right; intro K
  exact exists_congr fun n => iff_of_eq (zax.l45X.eq K n x0 x1 x2 x3 x4 x5 x6 x7 x8 x9 x10 x11 x12 x13 x14 x15).symm
 ·left; intro K h
  simp only [zax.l45.entry] at h
  split at h
  ·exact hx ⟨_, _, _, _, _, _, _, _, _, _, _, _, _, _, _, _, rfl, rfl⟩
  ·exact h
theorem X_zax.eq (a0n : Nat) (a0 : Nat → Int) (a1n : Nat) (a1 : Nat → Int) (K : EV → yae → Prop) : ybC E_zax Tryd.f89 false [.rsI .u32 a0n a0, .rsI .u32 a1n a1] [] K = zax a0n a0 a1n a1 (fun y0 y1 y2 y3 => K (EV.tuple [EV.rsI IntKind.u32 y0 y1, EV.rsI IntKind.u32 y2 y3]) []) := by
 rw [zax.is]; exact (yam _ _ _ _ _ _).symm.trans (by kernel_rfl)
theorem X_zax.ok : SoundE Tryd.prog gl 89 e_zax := by
 refine ybZ (E := E_zax) (fn := Tryd.f89) rfl tys_ok rfl (show ybF _ l_zax from ⟨X_zav.ok, X_nat_upN.ok, X_nat_cut.ok, X_zar.ok, X_zby.ok, trivial⟩) mixed (by kernel_rfl) (by kernel_rfl) (by kernel_rfl) 6 (by kernel_rfl) false ⟨zax.l7X.ok, zax.l16X.ok, zax.l20X.ok, zax.l24X.ok, zax.l31X.ok, zax.l45X.ok, trivial⟩ ?_
 intro args H
 by_cases hx : ∃ (a0n : Nat) (a0 : Nat → Int) (a1n : Nat) (a1 : Nat → Int), args = [.rsI .u32 a0n a0, .rsI .u32 a1n a1] ∧ H = []
 ·obtain ⟨a0n, a0, a1n, a1, rfl, rfl⟩ := hx
  right; intro K
  exact iff_of_eq (X_zax.eq a0n a0 a1n a1 K).symm
 ·left; intro K h
  simp only [e_zax] at h
  split at h
  ·exact hx ⟨_, _, _, _, rfl, rfl⟩
  ·exact h
noncomputable def e_zaw : Entry := ⟨[some .u32], false, fun args H K => match args, H with
 | [.rsI .u32 a0n a0], [] => zaw a0n a0 (fun y0 => K (EV.str y0) [])
 | _, _ => False⟩
noncomputable def l_zaw : List (Nat × Entry) := [(103, e_nat_cut)]
noncomputable def E_zaw : Env := ⟨look tys, look l_zaw, look [(4, zaw.l4.entry), (8, zaw.l8.entry)], gl, yaM [], false⟩
theorem zaw.l4X.stepEq (R : List EV → yae → Prop) (K : Ex → List EV → yae → Prop) (x0 : Nat) (x1 : Nat → Int) (x2 : Nat) (x3 : Nat) (x4 : Int) (x5 : Int) (x6 : Nat) (x7 : Nat → Int) : yak (yan E_zaw (yaa Tryd.f90 0) { (LV.mk 8 [(0, 8)] 4 0 false) with nx := live (.loop (yaa Tryd.f90 0)) (LV.mk 8 [(0, 8)] 4 0 false) }) (live (.loop (yaa Tryd.f90 0)) (LV.mk 8 [(0, 8)] 4 0 false)) (LV.mk 8 [(0, 8)] 4 0 false) 0 48 R [EV.rsI IntKind.u32 x0 x1, EV.slice 0 0 x2 (some x3) 1, EV.int IntKind.i64 x4, EV.int IntKind.i64 x5] [some (EV.arr IntKind.u8 x6 x7)] K = zaw.l4.step (fun x0 x1 x2 x3 x4 x5 x6 x7 => R [EV.rsI IntKind.u32 x0 x1, EV.slice 0 0 x2 (some x3) 1, EV.int IntKind.i64 x4, EV.int IntKind.i64 x5] [some (EV.arr IntKind.u8 x6 x7)]) (fun y0 y1 y2 y3 => K (.exit 0) [EV.slice 0 0 y0 (some y1) 1] [some (EV.arr IntKind.u8 y2 y3)]) x0 x1 x2 x3 x4 x5 x6 x7 := (yax _ _ _ _ _ _ _ _ _ _ _).symm.trans (by kernel_rfl)
theorem zaw.l4X.eq (K : Ex → List EV → yae → Prop) : ∀ (n : Nat) (x0 : Nat) (x1 : Nat → Int) (x2 : Nat) (x3 : Nat) (x4 : Int) (x5 : Int) (x6 : Nat) (x7 : Nat → Int), yar E_zaw (yaa Tryd.f90 0) (LV.mk 8 [(0, 8)] 4 0 false) 0 48 K n [EV.rsI IntKind.u32 x0 x1, EV.slice 0 0 x2 (some x3) 1, EV.int IntKind.i64 x4, EV.int IntKind.i64 x5] [some (EV.arr IntKind.u8 x6 x7)] = zaw.l4 (fun y0 y1 y2 y3 => K (.exit 0) [EV.slice 0 0 y0 (some y1) 1] [some (EV.arr IntKind.u8 y2 y3)]) n x0 x1 x2 x3 x4 x5 x6 x7
 | 0, _, _, _, _, _, _, _, _ => rfl
 | n + 1, x0, x1, x2, x3, x4, x5, x6, x7 => by
  have ih : (fun (x0 : Nat) (x1 : Nat → Int) (x2 : Nat) (x3 : Nat) (x4 : Int) (x5 : Int) (x6 : Nat) (x7 : Nat → Int) => yar E_zaw (yaa Tryd.f90 0) (LV.mk 8 [(0, 8)] 4 0 false) 0 48 K n [EV.rsI IntKind.u32 x0 x1, EV.slice 0 0 x2 (some x3) 1, EV.int IntKind.i64 x4, EV.int IntKind.i64 x5] [some (EV.arr IntKind.u8 x6 x7)]) = zaw.l4 (fun y0 y1 y2 y3 => K (.exit 0) [EV.slice 0 0 y0 (some y1) 1] [some (EV.arr IntKind.u8 y2 y3)]) n := by funext x0 x1 x2 x3 x4 x5 x6 x7; exact zaw.l4X.eq K n x0 x1 x2 x3 x4 x5 x6 x7
  show yak _ _ _ _ _ (yar E_zaw (yaa Tryd.f90 0) (LV.mk 8 [(0, 8)] 4 0 false) 0 48 K n) [EV.rsI IntKind.u32 x0 x1, EV.slice 0 0 x2 (some x3) 1, EV.int IntKind.i64 x4, EV.int IntKind.i64 x5] [some (EV.arr IntKind.u8 x6 x7)] K = zaw.l4.step (zaw.l4 (fun y0 y1 y2 y3 => K (.exit 0) [EV.slice 0 0 y0 (some y1) 1] [some (EV.arr IntKind.u8 y2 y3)]) n) (fun y0 y1 y2 y3 => K (.exit 0) [EV.slice 0 0 y0 (some y1) 1] [some (EV.arr IntKind.u8 y2 y3)]) x0 x1 x2 x3 x4 x5 x6 x7
  rw [← ih]
  exact zaw.l4X.stepEq _ K x0 x1 x2 x3 x4 x5 x6 x7
theorem zaw.l4X.ok : LoopEq E_zaw (yaa Tryd.f90 0) := by
 intro L hL vs H
 have h1 : E_zaw.lp (yai (yaa Tryd.f90 0)) = some zaw.l4.entry := by kernel_rfl
 have h2 : L = zaw.l4.entry := Option.some.inj (hL.symm.trans h1)
 subst h2
 by_cases hx : ∃ (x0 : Nat) (x1 : Nat → Int) (x2 : Nat) (x3 : Nat) (x4 : Int) (x5 : Int) (x6 : Nat) (x7 : Nat → Int), vs = [EV.rsI IntKind.u32 x0 x1, EV.slice 0 0 x2 (some x3) 1, EV.int IntKind.i64 x4, EV.int IntKind.i64 x5] ∧ H = [some (EV.arr IntKind.u8 x6 x7)]
 ·obtain ⟨x0, x1, x2, x3, x4, x5, x6, x7, rfl, rfl⟩ := hx
  right; intro K
  exact exists_congr fun n => iff_of_eq (zaw.l4X.eq K n x0 x1 x2 x3 x4 x5 x6 x7).symm
 ·left; intro K h
  simp only [zaw.l4.entry] at h
  split at h
  ·exact hx ⟨_, _, _, _, _, _, _, _, rfl, rfl⟩
  ·exact h
theorem zaw.l8X.stepEq (R : List EV → yae → Prop) (K : Ex → List EV → yae → Prop) (x0 : Nat) (x1 : Nat) (x2 : Nat) (x3 : Nat) (x4 : Nat → Int) : yak (yan E_zaw (yaa Tryd.f90 1) { (LV.mk 8 [(2, 8)] 4 0 false) with nx := live (.loop (yaa Tryd.f90 1)) (LV.mk 8 [(2, 8)] 4 0 false) }) (live (.loop (yaa Tryd.f90 1)) (LV.mk 8 [(2, 8)] 4 0 false)) (LV.mk 8 [(2, 8)] 4 0 false) 0 48 R [EV.slice 0 x0 x1 (some x2) 1] [some (EV.arr IntKind.u8 x3 x4)] K = zaw.l8.step (fun x0 x1 x2 x3 x4 => R [EV.slice 0 x0 x1 (some x2) 1] [some (EV.arr IntKind.u8 x3 x4)]) (fun y0 y1 y2 y3 y4 => K (.exit 2) [EV.slice 0 y0 y1 (some y2) 1] [some (EV.arr IntKind.u8 y3 y4)]) x0 x1 x2 x3 x4 := (yax _ _ _ _ _ _ _ _ _ _ _).symm.trans (by kernel_rfl)
theorem zaw.l8X.eq (K : Ex → List EV → yae → Prop) : ∀ (n : Nat) (x0 : Nat) (x1 : Nat) (x2 : Nat) (x3 : Nat) (x4 : Nat → Int), yar E_zaw (yaa Tryd.f90 1) (LV.mk 8 [(2, 8)] 4 0 false) 0 48 K n [EV.slice 0 x0 x1 (some x2) 1] [some (EV.arr IntKind.u8 x3 x4)] = zaw.l8 (fun y0 y1 y2 y3 y4 => K (.exit 2) [EV.slice 0 y0 y1 (some y2) 1] [some (EV.arr IntKind.u8 y3 y4)]) n x0 x1 x2 x3 x4
 | 0, _, _, _, _, _ => rfl
 | n + 1, x0, x1, x2, x3, x4 => by
  have ih : (fun (x0 : Nat) (x1 : Nat) (x2 : Nat) (x3 : Nat) (x4 : Nat → Int) => yar E_zaw (yaa Tryd.f90 1) (LV.mk 8 [(2, 8)] 4 0 false) 0 48 K n [EV.slice 0 x0 x1 (some x2) 1] [some (EV.arr IntKind.u8 x3 x4)]) = zaw.l8 (fun y0 y1 y2 y3 y4 => K (.exit 2) [EV.slice 0 y0 y1 (some y2) 1] [some (EV.arr IntKind.u8 y3 y4)]) n := by funext x0 x1 x2 x3 x4; exact zaw.l8X.eq K n x0 x1 x2 x3 x4
  show yak _ _ _ _ _ (yar E_zaw (yaa Tryd.f90 1) (LV.mk 8 [(2, 8)] 4 0 false) 0 48 K n) [EV.slice 0 x0 x1 (some x2) 1] [some (EV.arr IntKind.u8 x3 x4)] K = zaw.l8.step (zaw.l8 (fun y0 y1 y2 y3 y4 => K (.exit 2) [EV.slice 0 y0 y1 (some y2) 1] [some (EV.arr IntKind.u8 y3 y4)]) n) (fun y0 y1 y2 y3 y4 => K (.exit 2) [EV.slice 0 y0 y1 (some y2) 1] [some (EV.arr IntKind.u8 y3 y4)]) x0 x1 x2 x3 x4
  rw [← ih]
  exact zaw.l8X.stepEq _ K x0 x1 x2 x3 x4
theorem zaw.l8X.ok : LoopEq E_zaw (yaa Tryd.f90 1) := by
 intro L hL vs H
 have h1 : E_zaw.lp (yai (yaa Tryd.f90 1)) = some zaw.l8.entry := by kernel_rfl
 have h2 : L = zaw.l8.entry := Option.some.inj (hL.symm.trans h1)
 subst h2
 by_cases hx : ∃ (x0 : Nat) (x1 : Nat) (x2 : Nat) (x3 : Nat) (x4 : Nat → Int), vs = [EV.slice 0 x0 x1 (some x2) 1] ∧ H = [some (EV.arr IntKind.u8 x3 x4)]
 ·obtain ⟨x0, x1, x2, x3, x4, rfl, rfl⟩ := hx
  right; intro K
  exact exists_congr fun n => iff_of_eq (zaw.l8X.eq K n x0 x1 x2 x3 x4).symm
 ·left; intro K h
  simp only [zaw.l8.entry] at h
  split at h
  ·exact hx ⟨_, _, _, _, _, rfl, rfl⟩
  ·exact h
theorem X_zaw.eq (a0n : Nat) (a0 : Nat → Int) (K : EV → yae → Prop) : ybC E_zaw Tryd.f90 false [.rsI .u32 a0n a0] [] K = zaw a0n a0 (fun y0 => K (EV.str y0) []) := by
 rw [zaw.is]; exact (yam _ _ _ _ _ _).symm.trans (by kernel_rfl)
theorem X_zaw.ok : SoundE Tryd.prog gl 90 e_zaw := by
 refine ybZ (E := E_zaw) (fn := Tryd.f90) rfl tys_ok rfl (show ybF _ l_zaw from ⟨X_nat_cut.ok, trivial⟩) mixed (by kernel_rfl) (by kernel_rfl) (by kernel_rfl) 2 (by kernel_rfl) false ⟨zaw.l4X.ok, zaw.l8X.ok, trivial⟩ ?_
 intro args H
 by_cases hx : ∃ (a0n : Nat) (a0 : Nat → Int), args = [.rsI .u32 a0n a0] ∧ H = []
 ·obtain ⟨a0n, a0, rfl, rfl⟩ := hx
  right; intro K
  exact iff_of_eq (X_zaw.eq a0n a0 K).symm
 ·left; intro K h
  simp only [e_zaw] at h
  split at h
  ·exact hx ⟨_, _, rfl, rfl⟩
  ·exact h
noncomputable def e_zan : Entry := ⟨[none, none], false, fun args H K => match args, H with
 | [.str a0, .str a1], [] => zan a0 a1 (fun y0 y1 => K (EV.tuple [EV.str y0, EV.int IntKind.i64 y1]) [])
 | _, _ => False⟩
noncomputable def l_zan : List (Nat × Entry) := [(72, e_zay), (75, e_zba), (89, e_zax), (90, e_zaw)]
noncomputable def E_zan : Env := ⟨look tys, look l_zan, look [(4, zan.l4.entry)], gl, yaM [], false⟩
theorem zan.l4X.stepEq (R : List EV → yae → Prop) (K : Ex → List EV → yae → Prop) (x0 : Nat) (x1 : Nat → Int) (x2 : Nat) (x3 : Nat → Int) : yak (yan E_zan (yaa Tryd.f50 0) { (LV.mk 64 [(0, 64)] 48 0 false) with nx := live (.loop (yaa Tryd.f50 0)) (LV.mk 64 [(0, 64)] 48 0 false) }) (live (.loop (yaa Tryd.f50 0)) (LV.mk 64 [(0, 64)] 48 0 false)) (LV.mk 64 [(0, 64)] 48 0 false) 0 31 R [EV.rsI IntKind.u32 x0 x1, EV.rsI IntKind.u32 x2 x3] [] K = zan.l4.step (fun x0 x1 x2 x3 => R [EV.rsI IntKind.u32 x0 x1, EV.rsI IntKind.u32 x2 x3] []) (fun y0 y1 => K (.exit 0) [EV.rsI IntKind.u32 y0 y1] []) x0 x1 x2 x3 := (yax _ _ _ _ _ _ _ _ _ _ _).symm.trans (by kernel_rfl)
theorem zan.l4X.eq (K : Ex → List EV → yae → Prop) : ∀ (n : Nat) (x0 : Nat) (x1 : Nat → Int) (x2 : Nat) (x3 : Nat → Int), yar E_zan (yaa Tryd.f50 0) (LV.mk 64 [(0, 64)] 48 0 false) 0 31 K n [EV.rsI IntKind.u32 x0 x1, EV.rsI IntKind.u32 x2 x3] [] = zan.l4 (fun y0 y1 => K (.exit 0) [EV.rsI IntKind.u32 y0 y1] []) n x0 x1 x2 x3
 | 0, _, _, _, _ => rfl
 | n + 1, x0, x1, x2, x3 => by
  have ih : (fun (x0 : Nat) (x1 : Nat → Int) (x2 : Nat) (x3 : Nat → Int) => yar E_zan (yaa Tryd.f50 0) (LV.mk 64 [(0, 64)] 48 0 false) 0 31 K n [EV.rsI IntKind.u32 x0 x1, EV.rsI IntKind.u32 x2 x3] []) = zan.l4 (fun y0 y1 => K (.exit 0) [EV.rsI IntKind.u32 y0 y1] []) n := by funext x0 x1 x2 x3; exact zan.l4X.eq K n x0 x1 x2 x3
  show yak _ _ _ _ _ (yar E_zan (yaa Tryd.f50 0) (LV.mk 64 [(0, 64)] 48 0 false) 0 31 K n) [EV.rsI IntKind.u32 x0 x1, EV.rsI IntKind.u32 x2 x3] [] K = zan.l4.step (zan.l4 (fun y0 y1 => K (.exit 0) [EV.rsI IntKind.u32 y0 y1] []) n) (fun y0 y1 => K (.exit 0) [EV.rsI IntKind.u32 y0 y1] []) x0 x1 x2 x3
  rw [← ih]
  exact zan.l4X.stepEq _ K x0 x1 x2 x3
theorem zan.l4X.ok : LoopEq E_zan (yaa Tryd.f50 0) := by
 intro L hL vs H
 have h1 : E_zan.lp (yai (yaa Tryd.f50 0)) = some zan.l4.entry := by kernel_rfl
 have h2 : L = zan.l4.entry := Option.some.inj (hL.symm.trans h1)
 subst h2
 by_cases hx : ∃ (x0 : Nat) (x1 : Nat → Int) (x2 : Nat) (x3 : Nat → Int), vs = [EV.rsI IntKind.u32 x0 x1, EV.rsI IntKind.u32 x2 x3] ∧ H = []
 ·obtain ⟨x0, x1, x2, x3, rfl, rfl⟩ := hx
  right; intro K
  exact exists_congr fun n => iff_of_eq (zan.l4X.eq K n x0 x1 x2 x3).symm
 ·left; intro K h
  simp only [zan.l4.entry] at h
  split at h
  ·exact hx ⟨_, _, _, _, rfl, rfl⟩
  ·exact h
theorem X_zan.eq (a0 : List UInt8) (a1 : List UInt8) (K : EV → yae → Prop) : ybC E_zan Tryd.f50 false [.str a0, .str a1] [] K = zan a0 a1 (fun y0 y1 => K (EV.tuple [EV.str y0, EV.int IntKind.i64 y1]) []) := by
 rw [zan.is]; exact (yam _ _ _ _ _ _).symm.trans (by kernel_rfl)
theorem X_zan.ok : SoundE Tryd.prog gl 50 e_zan := by
 refine ybZ (E := E_zan) (fn := Tryd.f50) rfl tys_ok rfl (show ybF _ l_zan from ⟨X_zay.ok, X_zba.ok, X_zax.ok, X_zaw.ok, trivial⟩) mixed (by kernel_rfl) (by kernel_rfl) (by kernel_rfl) 1 (by kernel_rfl) false ⟨zan.l4X.ok, trivial⟩ ?_
 intro args H
 by_cases hx : ∃ (a0 : List UInt8) (a1 : List UInt8), args = [.str a0, .str a1] ∧ H = []
 ·obtain ⟨a0, a1, rfl, rfl⟩ := hx
  right; intro K
  exact iff_of_eq (X_zan.eq a0 a1 K).symm
 ·left; intro K h
  simp only [e_zan] at h
  split at h
  ·exact hx ⟨_, _, rfl, rfl⟩
  ·exact h
noncomputable def e_zab : Entry := ⟨[none], false, fun args H K => match args, H with
 | [.int .u64 a0], [] => zab a0 (fun y0 => K (EV.int IntKind.i64 y0) [])
 | _, _ => False⟩
noncomputable def E_zab : Env := ⟨look tys, look [], look [], gl, yaM [], false⟩
theorem X_zab.eq (a0 : Int) (K : EV → yae → Prop) : ybC E_zab Tryd.f110 false [.int .u64 a0] [] K = zab a0 (fun y0 => K (EV.int IntKind.i64 y0) []) := by
 rw [zab.is]; exact (yam _ _ _ _ _ _).symm.trans (by kernel_rfl)
theorem X_zab.ok : SoundE Tryd.prog gl 110 e_zab := by
 refine ybZ (E := E_zab) (fn := Tryd.f110) rfl tys_ok rfl (show ybF _ [] from trivial) mixed (by kernel_rfl) (by kernel_rfl) (by kernel_rfl) 0 (by kernel_rfl) false trivial ?_
 intro args H
 by_cases hx : ∃ (a0 : Int), args = [.int .u64 a0] ∧ H = []
 ·obtain ⟨a0, rfl, rfl⟩ := hx
  right; intro K
  exact iff_of_eq (X_zab.eq a0 K).symm
 ·left; intro K h
  simp only [e_zab] at h
  split at h
  ·exact hx ⟨_, rfl, rfl⟩
  ·exact h
noncomputable def e_zbz : Entry := ⟨[none], false, fun args H K => match args, H with
 | [.int .u64 a0], [] => zbz a0 (fun y0 => K (EV.int IntKind.i64 y0) [])
 | _, _ => False⟩
noncomputable def l_zbz : List (Nat × Entry) := [(110, e_zab)]
noncomputable def E_zbz : Env := ⟨look tys, look l_zbz, look [], gl, yaM [], false⟩
theorem X_zbz.eq (a0 : Int) (K : EV → yae → Prop) : ybC E_zbz Tryd.f91 false [.int .u64 a0] [] K = zbz a0 (fun y0 => K (EV.int IntKind.i64 y0) []) := by
 rw [zbz.is]; exact (yam _ _ _ _ _ _).symm.trans (by kernel_rfl)
theorem X_zbz.ok : SoundE Tryd.prog gl 91 e_zbz := by
 refine ybZ (E := E_zbz) (fn := Tryd.f91) rfl tys_ok rfl (show ybF _ l_zbz from ⟨X_zab.ok, trivial⟩) mixed (by kernel_rfl) (by kernel_rfl) (by kernel_rfl) 0 (by kernel_rfl) false trivial ?_
 intro args H
 by_cases hx : ∃ (a0 : Int), args = [.int .u64 a0] ∧ H = []
 ·obtain ⟨a0, rfl, rfl⟩ := hx
  right; intro K
  exact iff_of_eq (X_zbz.eq a0 K).symm
 ·left; intro K h
  simp only [e_zbz] at h
  split at h
  ·exact hx ⟨_, rfl, rfl⟩
  ·exact h
noncomputable def e_zao : Entry := ⟨[none], false, fun args H K => match args, H with
 | [.str a0], [] => zao a0 (fun y0 => K (EV.int IntKind.i64 y0) [])
 | _, _ => False⟩
noncomputable def l_zao : List (Nat × Entry) := [(46, e_zal), (91, e_zbz)]
noncomputable def E_zao : Env := ⟨look tys, look l_zao, look [(4, zao.l4.entry)], gl, yaM [], false⟩
theorem zao.l4X.stepEq (R : List EV → yae → Prop) (K : Ex → List EV → yae → Prop) (x0 : List UInt8) (x1 : Int) : yak (yan E_zao (yaa Tryd.f55 0) { (LV.mk 0 [(0, 0)] 4 0 false) with nx := live (.loop (yaa Tryd.f55 0)) (LV.mk 0 [(0, 0)] 4 0 false) }) (live (.loop (yaa Tryd.f55 0)) (LV.mk 0 [(0, 0)] 4 0 false)) (LV.mk 0 [(0, 0)] 4 0 false) 0 30 R [EV.str x0, EV.int IntKind.i64 x1] [] K = zao.l4.step (fun x0 x1 => R [EV.str x0, EV.int IntKind.i64 x1] []) (fun y0 => K .ret [EV.int IntKind.i64 y0] []) (K (.exit 0) [] []) x0 x1 := (yax _ _ _ _ _ _ _ _ _ _ _).symm.trans (by kernel_rfl)
theorem zao.l4X.eq (K : Ex → List EV → yae → Prop) : ∀ (n : Nat) (x0 : List UInt8) (x1 : Int), yar E_zao (yaa Tryd.f55 0) (LV.mk 0 [(0, 0)] 4 0 false) 0 30 K n [EV.str x0, EV.int IntKind.i64 x1] [] = zao.l4 (fun y0 => K .ret [EV.int IntKind.i64 y0] []) (K (.exit 0) [] []) n x0 x1
 | 0, _, _ => rfl
 | n + 1, x0, x1 => by
  have ih : (fun (x0 : List UInt8) (x1 : Int) => yar E_zao (yaa Tryd.f55 0) (LV.mk 0 [(0, 0)] 4 0 false) 0 30 K n [EV.str x0, EV.int IntKind.i64 x1] []) = zao.l4 (fun y0 => K .ret [EV.int IntKind.i64 y0] []) (K (.exit 0) [] []) n := by funext x0 x1; exact zao.l4X.eq K n x0 x1
  show yak _ _ _ _ _ (yar E_zao (yaa Tryd.f55 0) (LV.mk 0 [(0, 0)] 4 0 false) 0 30 K n) [EV.str x0, EV.int IntKind.i64 x1] [] K = zao.l4.step (zao.l4 (fun y0 => K .ret [EV.int IntKind.i64 y0] []) (K (.exit 0) [] []) n) (fun y0 => K .ret [EV.int IntKind.i64 y0] []) (K (.exit 0) [] []) x0 x1
  rw [← ih]
  exact zao.l4X.stepEq _ K x0 x1
theorem zao.l4X.ok : LoopEq E_zao (yaa Tryd.f55 0) := by
 intro L hL vs H
 have h1 : E_zao.lp (yai (yaa Tryd.f55 0)) = some zao.l4.entry := by kernel_rfl
 have h2 : L = zao.l4.entry := Option.some.inj (hL.symm.trans h1)
 subst h2
 by_cases hx : ∃ (x0 : List UInt8) (x1 : Int), vs = [EV.str x0, EV.int IntKind.i64 x1] ∧ H = []
 ·obtain ⟨x0, x1, rfl, rfl⟩ := hx
  right; intro K
  exact exists_congr fun n => iff_of_eq (zao.l4X.eq K n x0 x1).symm
 ·left; intro K h
  simp only [zao.l4.entry] at h
  split at h
  ·exact hx ⟨_, _, rfl, rfl⟩
  ·exact h
theorem X_zao.eq (a0 : List UInt8) (K : EV → yae → Prop) : ybC E_zao Tryd.f55 false [.str a0] [] K = zao a0 (fun y0 => K (EV.int IntKind.i64 y0) []) := by
 rw [zao.is]; exact (yam _ _ _ _ _ _).symm.trans (by kernel_rfl)
theorem X_zao.ok : SoundE Tryd.prog gl 55 e_zao := by
 refine ybZ (E := E_zao) (fn := Tryd.f55) rfl tys_ok rfl (show ybF _ l_zao from ⟨X_zal.ok, X_zbz.ok, trivial⟩) mixed (by kernel_rfl) (by kernel_rfl) (by kernel_rfl) 1 (by kernel_rfl) false ⟨zao.l4X.ok, trivial⟩ ?_
 intro args H
 by_cases hx : ∃ (a0 : List UInt8), args = [.str a0] ∧ H = []
 ·obtain ⟨a0, rfl, rfl⟩ := hx
  right; intro K
  exact iff_of_eq (X_zao.eq a0 K).symm
 ·left; intro K h
  simp only [e_zao] at h
  split at h
  ·exact hx ⟨_, rfl, rfl⟩
  ·exact h
noncomputable def e_zap : Entry := ⟨[none, none], false, fun args H K => match args, H with
 | [.str a0, .int .i64 a1], [] => zap a0 a1 (fun y0 y1 y2 => K (EV.tuple [EV.str y0, EV.bool y1, EV.int IntKind.i64 y2]) [])
 | _, _ => False⟩
noncomputable def l_zap : List (Nat × Entry) := [(46, e_zal), (55, e_zao), (75, e_zba), (90, e_zaw), (92, e_zav)]
noncomputable def E_zap : Env := ⟨look tys, look l_zap, look [], gl, yaM [], false⟩
theorem X_zap.eq (a0 : List UInt8) (a1 : Int) (K : EV → yae → Prop) : ybC E_zap Tryd.f56 false [.str a0, .int .i64 a1] [] K = zap a0 a1 (fun y0 y1 y2 => K (EV.tuple [EV.str y0, EV.bool y1, EV.int IntKind.i64 y2]) []) := by
 rw [zap.is]; exact (yam _ _ _ _ _ _).symm.trans (by kernel_rfl)
theorem X_zap.ok : SoundE Tryd.prog gl 56 e_zap := by
 refine ybZ (E := E_zap) (fn := Tryd.f56) rfl tys_ok rfl (show ybF _ l_zap from ⟨X_zal.ok, X_zao.ok, X_zba.ok, X_zaw.ok, X_zav.ok, trivial⟩) mixed (by kernel_rfl) (by kernel_rfl) (by kernel_rfl) 0 (by kernel_rfl) false trivial ?_
 intro args H
 by_cases hx : ∃ (a0 : List UInt8) (a1 : Int), args = [.str a0, .int .i64 a1] ∧ H = []
 ·obtain ⟨a0, a1, rfl, rfl⟩ := hx
  right; intro K
  exact iff_of_eq (X_zap.eq a0 a1 K).symm
 ·left; intro K h
  simp only [e_zap] at h
  split at h
  ·exact hx ⟨_, _, rfl, rfl⟩
  ·exact h
noncomputable def e_zam : Entry := ⟨[none, none], false, fun args H K => match args, H with
 | [.str a0, .str a1], [] => zam a0 a1 (fun y0 y1 y2 => K (EV.tuple [EV.str y0, EV.str y1, EV.int IntKind.i64 y2]) [])
 | _, _ => False⟩
noncomputable def l_zam : List (Nat × Entry) := [(72, e_zay), (75, e_zba), (89, e_zax), (90, e_zaw)]
noncomputable def E_zam : Env := ⟨look tys, look l_zam, look [], gl, yaM [], false⟩
theorem X_zam.eq (a0 : List UInt8) (a1 : List UInt8) (K : EV → yae → Prop) : ybC E_zam Tryd.f57 false [.str a0, .str a1] [] K = zam a0 a1 (fun y0 y1 y2 => K (EV.tuple [EV.str y0, EV.str y1, EV.int IntKind.i64 y2]) []) := by
 rw [zam.is]; exact (yam _ _ _ _ _ _).symm.trans (by kernel_rfl)
theorem X_zam.ok : SoundE Tryd.prog gl 57 e_zam := by
 refine ybZ (E := E_zam) (fn := Tryd.f57) rfl tys_ok rfl (show ybF _ l_zam from ⟨X_zay.ok, X_zba.ok, X_zax.ok, X_zaw.ok, trivial⟩) mixed (by kernel_rfl) (by kernel_rfl) (by kernel_rfl) 0 (by kernel_rfl) false trivial ?_
 intro args H
 by_cases hx : ∃ (a0 : List UInt8) (a1 : List UInt8), args = [.str a0, .str a1] ∧ H = []
 ·obtain ⟨a0, a1, rfl, rfl⟩ := hx
  right; intro K
  exact iff_of_eq (X_zam.eq a0 a1 K).symm
 ·left; intro K h
  simp only [e_zam] at h
  split at h
  ·exact hx ⟨_, _, rfl, rfl⟩
  ·exact h
noncomputable def e_zad : Entry := ⟨[none, none, none, none], false, fun args H K => match args, H with
 | [.bool a0, .str a1, .str a2, .int .i64 a3], [] => zad a0 a1 a2 a3 (fun y0 y1 y2 y3 y4 => K (EV.tuple [EV.agg [EV.bool y0, EV.str y1, EV.str y2, EV.int IntKind.i64 y3], EV.int IntKind.i64 y4]) [])
 | _, _ => False⟩
noncomputable def l_zad : List (Nat × Entry) := [(46, e_zal), (48, e_zah), (49, e_zaf), (50, e_zan), (55, e_zao), (56, e_zap), (57, e_zam)]
noncomputable def E_zad : Env := ⟨look tys, look l_zad, look [], gl, yaM [], false⟩
theorem X_zad.eq (a0 : Bool) (a1 : List UInt8) (a2 : List UInt8) (a3 : Int) (K : EV → yae → Prop) : ybC E_zad Tryd.f15 false [.bool a0, .str a1, .str a2, .int .i64 a3] [] K = zad a0 a1 a2 a3 (fun y0 y1 y2 y3 y4 => K (EV.tuple [EV.agg [EV.bool y0, EV.str y1, EV.str y2, EV.int IntKind.i64 y3], EV.int IntKind.i64 y4]) []) := by
 rw [zad.is]; exact (yam _ _ _ _ _ _).symm.trans (by kernel_rfl)
theorem X_zad.ok : SoundE Tryd.prog gl 15 e_zad := by
 refine ybZ (E := E_zad) (fn := Tryd.f15) rfl tys_ok rfl (show ybF _ l_zad from ⟨X_zal.ok, X_zah.ok, X_zaf.ok, X_zan.ok, X_zao.ok, X_zap.ok, X_zam.ok, trivial⟩) mixed (by kernel_rfl) (by kernel_rfl) (by kernel_rfl) 0 (by kernel_rfl) false trivial ?_
 intro args H
 by_cases hx : ∃ (a0 : Bool) (a1 : List UInt8) (a2 : List UInt8) (a3 : Int), args = [.bool a0, .str a1, .str a2, .int .i64 a3] ∧ H = []
 ·obtain ⟨a0, a1, a2, a3, rfl, rfl⟩ := hx
  right; intro K
  exact iff_of_eq (X_zad.eq a0 a1 a2 a3 K).symm
 ·left; intro K h
  simp only [e_zad] at h
  split at h
  ·exact hx ⟨_, _, _, _, rfl, rfl⟩
  ·exact h
noncomputable def e_zaj : Entry := ⟨[], false, fun args H K => match args, H with
 | [], [] => zaj  (fun y0 => K (EV.bool y0) [])
 | _, _ => False⟩
noncomputable def l_zaj : List (Nat × Entry) := [(15, e_zad)]
noncomputable def E_zaj : Env := ⟨look tys, look l_zaj, look [], gl, yaM [], false⟩
theorem X_zaj.eq (K : EV → yae → Prop) : ybC E_zaj Tryd.f12 false [] [] K = zaj  (fun y0 => K (EV.bool y0) []) := by
 rw [zaj.is]; exact (yam _ _ _ _ _ _).symm.trans (by kernel_rfl)
theorem X_zaj.ok : SoundE Tryd.prog gl 12 e_zaj := by
 refine ybZ (E := E_zaj) (fn := Tryd.f12) rfl tys_ok rfl (show ybF _ l_zaj from ⟨X_zad.ok, trivial⟩) mixed (by kernel_rfl) (by kernel_rfl) (by kernel_rfl) 0 (by kernel_rfl) false trivial ?_
 intro args H
 by_cases hx : args = [] ∧ H = []
 ·obtain ⟨rfl, rfl⟩ := hx
  right; intro K
  exact iff_of_eq (X_zaj.eq  K).symm
 ·left; intro K h
  simp only [e_zaj] at h
  split at h
  ·exact hx ⟨rfl, rfl⟩
  ·exact h
noncomputable def e_zbj : Entry := ⟨[none], false, fun args H K => match args, H with
 | [.str a0], [] => zbj a0 (fun y0 => K (EV.bool y0) [])
 | _, _ => False⟩
noncomputable def E_zbj : Env := ⟨look tys, look [], look [], gl, yaM [], false⟩
theorem X_zbj.eq (a0 : List UInt8) (K : EV → yae → Prop) : ybC E_zbj Tryd.f51 false [.str a0] [] K = zbj a0 (fun y0 => K (EV.bool y0) []) := by
 rw [zbj.is]; exact (yam _ _ _ _ _ _).symm.trans (by kernel_rfl)
theorem X_zbj.ok : SoundE Tryd.prog gl 51 e_zbj := by
 refine ybZ (E := E_zbj) (fn := Tryd.f51) rfl tys_ok rfl (show ybF _ [] from trivial) mixed (by kernel_rfl) (by kernel_rfl) (by kernel_rfl) 0 (by kernel_rfl) false trivial ?_
 intro args H
 by_cases hx : ∃ (a0 : List UInt8), args = [.str a0] ∧ H = []
 ·obtain ⟨a0, rfl, rfl⟩ := hx
  right; intro K
  exact iff_of_eq (X_zbj.eq a0 K).symm
 ·left; intro K h
  simp only [e_zbj] at h
  split at h
  ·exact hx ⟨_, rfl, rfl⟩
  ·exact h
noncomputable def e_zbw : Entry := ⟨[none], false, fun args H K => match args, H with
 | [.str a0], [] => zbw a0 (fun y0 => K (EV.bool y0) [])
 | _, _ => False⟩
noncomputable def E_zbw : Env := ⟨look tys, look [], look [], gl, yaM [], false⟩
theorem X_zbw.eq (a0 : List UInt8) (K : EV → yae → Prop) : ybC E_zbw Tryd.f52 false [.str a0] [] K = zbw a0 (fun y0 => K (EV.bool y0) []) := by
 rw [zbw.is]; exact (yam _ _ _ _ _ _).symm.trans (by kernel_rfl)
theorem X_zbw.ok : SoundE Tryd.prog gl 52 e_zbw := by
 refine ybZ (E := E_zbw) (fn := Tryd.f52) rfl tys_ok rfl (show ybF _ [] from trivial) mixed (by kernel_rfl) (by kernel_rfl) (by kernel_rfl) 0 (by kernel_rfl) false trivial ?_
 intro args H
 by_cases hx : ∃ (a0 : List UInt8), args = [.str a0] ∧ H = []
 ·obtain ⟨a0, rfl, rfl⟩ := hx
  right; intro K
  exact iff_of_eq (X_zbw.eq a0 K).symm
 ·left; intro K h
  simp only [e_zbw] at h
  split at h
  ·exact hx ⟨_, rfl, rfl⟩
  ·exact h
noncomputable def e_zbs : Entry := ⟨[], false, fun args H K => match args, H with
 | [], [] => zbs  (fun y0 y1 y2 y3 => K (EV.agg [EV.bool y0, EV.str y1, EV.str y2, EV.int IntKind.i64 y3]) [])
 | _, _ => False⟩
noncomputable def E_zbs : Env := ⟨look tys, look [], look [], gl, yaM [], false⟩
theorem X_zbs.eq (K : EV → yae → Prop) : ybC E_zbs Tryd.f53 false [] [] K = zbs  (fun y0 y1 y2 y3 => K (EV.agg [EV.bool y0, EV.str y1, EV.str y2, EV.int IntKind.i64 y3]) []) := by
 rw [zbs.is]; exact (yam _ _ _ _ _ _).symm.trans (by kernel_rfl)
theorem X_zbs.ok : SoundE Tryd.prog gl 53 e_zbs := by
 refine ybZ (E := E_zbs) (fn := Tryd.f53) rfl tys_ok rfl (show ybF _ [] from trivial) mixed (by kernel_rfl) (by kernel_rfl) (by kernel_rfl) 0 (by kernel_rfl) false trivial ?_
 intro args H
 by_cases hx : args = [] ∧ H = []
 ·obtain ⟨rfl, rfl⟩ := hx
  right; intro K
  exact iff_of_eq (X_zbs.eq  K).symm
 ·left; intro K h
  simp only [e_zbs] at h
  split at h
  ·exact hx ⟨rfl, rfl⟩
  ·exact h
noncomputable def e_zbm : Entry := ⟨[none, none], false, fun args H K => match args, H with
 | [.str a0, .int .i64 a1], [] => zbm a0 a1 (fun y0 => K (EV.int IntKind.i64 y0) [])
 | _, _ => False⟩
noncomputable def E_zbm : Env := ⟨look tys, look [], look [], gl, yaM [], false⟩
theorem X_zbm.eq (a0 : List UInt8) (a1 : Int) (K : EV → yae → Prop) : ybC E_zbm Tryd.f93 false [.str a0, .int .i64 a1] [] K = zbm a0 a1 (fun y0 => K (EV.int IntKind.i64 y0) []) := by
 rw [zbm.is]; exact (yam _ _ _ _ _ _).symm.trans (by kernel_rfl)
theorem X_zbm.ok : SoundE Tryd.prog gl 93 e_zbm := by
 refine ybZ (E := E_zbm) (fn := Tryd.f93) rfl tys_ok rfl (show ybF _ [] from trivial) mixed (by kernel_rfl) (by kernel_rfl) (by kernel_rfl) 0 (by kernel_rfl) false trivial ?_
 intro args H
 by_cases hx : ∃ (a0 : List UInt8) (a1 : Int), args = [.str a0, .int .i64 a1] ∧ H = []
 ·obtain ⟨a0, a1, rfl, rfl⟩ := hx
  right; intro K
  exact iff_of_eq (X_zbm.eq a0 a1 K).symm
 ·left; intro K h
  simp only [e_zbm] at h
  split at h
  ·exact hx ⟨_, _, rfl, rfl⟩
  ·exact h
noncomputable def e_zbb : Entry := ⟨[none, none], false, fun args H K => match args, H with
 | [.int .u64 a0, .int .i64 a1], [] => zbb a0 a1 (fun y0 => K (EV.bool y0) [])
 | _, _ => False⟩
noncomputable def E_zbb : Env := ⟨look tys, look [], look [], gl, yaM [], false⟩
theorem X_zbb.eq (a0 : Int) (a1 : Int) (K : EV → yae → Prop) : ybC E_zbb Tryd.f111 false [.int .u64 a0, .int .i64 a1] [] K = zbb a0 a1 (fun y0 => K (EV.bool y0) []) := by
 rw [zbb.is]; exact (yam _ _ _ _ _ _).symm.trans (by kernel_rfl)
theorem X_zbb.ok : SoundE Tryd.prog gl 111 e_zbb := by
 refine ybZ (E := E_zbb) (fn := Tryd.f111) rfl tys_ok rfl (show ybF _ [] from trivial) mixed (by kernel_rfl) (by kernel_rfl) (by kernel_rfl) 0 (by kernel_rfl) false trivial ?_
 intro args H
 by_cases hx : ∃ (a0 : Int) (a1 : Int), args = [.int .u64 a0, .int .i64 a1] ∧ H = []
 ·obtain ⟨a0, a1, rfl, rfl⟩ := hx
  right; intro K
  exact iff_of_eq (X_zbb.eq a0 a1 K).symm
 ·left; intro K h
  simp only [e_zbb] at h
  split at h
  ·exact hx ⟨_, _, rfl, rfl⟩
  ·exact h
noncomputable def e_zbd : Entry := ⟨[none], false, fun args H K => match args, H with
 | [.int .u64 a0], [] => zbd a0 (fun y0 => K (EV.int IntKind.i64 y0) [])
 | _, _ => False⟩
noncomputable def l_zbd : List (Nat × Entry) := [(111, e_zbb)]
noncomputable def E_zbd : Env := ⟨look tys, look l_zbd, look [(2, zbd.l2.entry)], gl, yaM [], false⟩
theorem zbd.l2X.stepEq (R : List EV → yae → Prop) (K : Ex → List EV → yae → Prop) (x0 : Int) (x1 : Int) : yak (yan E_zbd (yaa Tryd.f94 0) { (LV.mk 0 [(0, 0)] 4 0 false) with nx := live (.loop (yaa Tryd.f94 0)) (LV.mk 0 [(0, 0)] 4 0 false) }) (live (.loop (yaa Tryd.f94 0)) (LV.mk 0 [(0, 0)] 4 0 false)) (LV.mk 0 [(0, 0)] 4 0 false) 0 12 R [EV.int IntKind.u64 x0, EV.int IntKind.i64 x1] [] K = zbd.l2.step (fun x0 x1 => R [EV.int IntKind.u64 x0, EV.int IntKind.i64 x1] []) (fun y0 => K .ret [EV.int IntKind.i64 y0] []) (K (.exit 0) [] []) x0 x1 := (yax _ _ _ _ _ _ _ _ _ _ _).symm.trans (by kernel_rfl)
theorem zbd.l2X.eq (K : Ex → List EV → yae → Prop) : ∀ (n : Nat) (x0 : Int) (x1 : Int), yar E_zbd (yaa Tryd.f94 0) (LV.mk 0 [(0, 0)] 4 0 false) 0 12 K n [EV.int IntKind.u64 x0, EV.int IntKind.i64 x1] [] = zbd.l2 (fun y0 => K .ret [EV.int IntKind.i64 y0] []) (K (.exit 0) [] []) n x0 x1
 | 0, _, _ => rfl
 | n + 1, x0, x1 => by
  have ih : (fun (x0 : Int) (x1 : Int) => yar E_zbd (yaa Tryd.f94 0) (LV.mk 0 [(0, 0)] 4 0 false) 0 12 K n [EV.int IntKind.u64 x0, EV.int IntKind.i64 x1] []) = zbd.l2 (fun y0 => K .ret [EV.int IntKind.i64 y0] []) (K (.exit 0) [] []) n := by funext x0 x1; exact zbd.l2X.eq K n x0 x1
  show yak _ _ _ _ _ (yar E_zbd (yaa Tryd.f94 0) (LV.mk 0 [(0, 0)] 4 0 false) 0 12 K n) [EV.int IntKind.u64 x0, EV.int IntKind.i64 x1] [] K = zbd.l2.step (zbd.l2 (fun y0 => K .ret [EV.int IntKind.i64 y0] []) (K (.exit 0) [] []) n) (fun y0 => K .ret [EV.int IntKind.i64 y0] []) (K (.exit 0) [] []) x0 x1
  rw [← ih]
  exact zbd.l2X.stepEq _ K x0 x1
theorem zbd.l2X.ok : LoopEq E_zbd (yaa Tryd.f94 0) := by
 intro L hL vs H
 have h1 : E_zbd.lp (yai (yaa Tryd.f94 0)) = some zbd.l2.entry := by kernel_rfl
 have h2 : L = zbd.l2.entry := Option.some.inj (hL.symm.trans h1)
 subst h2
 by_cases hx : ∃ (x0 : Int) (x1 : Int), vs = [EV.int IntKind.u64 x0, EV.int IntKind.i64 x1] ∧ H = []
 ·obtain ⟨x0, x1, rfl, rfl⟩ := hx
  right; intro K
  exact exists_congr fun n => iff_of_eq (zbd.l2X.eq K n x0 x1).symm
 ·left; intro K h
  simp only [zbd.l2.entry] at h
  split at h
  ·exact hx ⟨_, _, rfl, rfl⟩
  ·exact h
theorem X_zbd.eq (a0 : Int) (K : EV → yae → Prop) : ybC E_zbd Tryd.f94 false [.int .u64 a0] [] K = zbd a0 (fun y0 => K (EV.int IntKind.i64 y0) []) := by
 rw [zbd.is]; exact (yam _ _ _ _ _ _).symm.trans (by kernel_rfl)
theorem X_zbd.ok : SoundE Tryd.prog gl 94 e_zbd := by
 refine ybZ (E := E_zbd) (fn := Tryd.f94) rfl tys_ok rfl (show ybF _ l_zbd from ⟨X_zbb.ok, trivial⟩) mixed (by kernel_rfl) (by kernel_rfl) (by kernel_rfl) 1 (by kernel_rfl) false ⟨zbd.l2X.ok, trivial⟩ ?_
 intro args H
 by_cases hx : ∃ (a0 : Int), args = [.int .u64 a0] ∧ H = []
 ·obtain ⟨a0, rfl, rfl⟩ := hx
  right; intro K
  exact iff_of_eq (X_zbd.eq a0 K).symm
 ·left; intro K h
  simp only [e_zbd] at h
  split at h
  ·exact hx ⟨_, rfl, rfl⟩
  ·exact h
noncomputable def e_zbi : Entry := ⟨[none], false, fun args H K => match args, H with
 | [.str a0], [] => zbi a0 (fun y0 => K (EV.int IntKind.i64 y0) [])
 | _, _ => False⟩
noncomputable def l_zbi : List (Nat × Entry) := [(51, e_zbj), (93, e_zbm), (94, e_zbd)]
noncomputable def E_zbi : Env := ⟨look tys, look l_zbi, look [(4, zbi.l4.entry)], gl, yaM [], false⟩
theorem zbi.l4X.stepEq (R : List EV → yae → Prop) (K : Ex → List EV → yae → Prop) (x0 : List UInt8) (x1 : Int) : yak (yan E_zbi (yaa Tryd.f58 0) { (LV.mk 0 [(0, 0)] 4 0 false) with nx := live (.loop (yaa Tryd.f58 0)) (LV.mk 0 [(0, 0)] 4 0 false) }) (live (.loop (yaa Tryd.f58 0)) (LV.mk 0 [(0, 0)] 4 0 false)) (LV.mk 0 [(0, 0)] 4 0 false) 0 25 R [EV.str x0, EV.int IntKind.i64 x1] [] K = zbi.l4.step (fun x0 x1 => R [EV.str x0, EV.int IntKind.i64 x1] []) (fun y0 => K .ret [EV.int IntKind.i64 y0] []) (K (.exit 0) [] []) x0 x1 := (yax _ _ _ _ _ _ _ _ _ _ _).symm.trans (by kernel_rfl)
theorem zbi.l4X.eq (K : Ex → List EV → yae → Prop) : ∀ (n : Nat) (x0 : List UInt8) (x1 : Int), yar E_zbi (yaa Tryd.f58 0) (LV.mk 0 [(0, 0)] 4 0 false) 0 25 K n [EV.str x0, EV.int IntKind.i64 x1] [] = zbi.l4 (fun y0 => K .ret [EV.int IntKind.i64 y0] []) (K (.exit 0) [] []) n x0 x1
 | 0, _, _ => rfl
 | n + 1, x0, x1 => by
  have ih : (fun (x0 : List UInt8) (x1 : Int) => yar E_zbi (yaa Tryd.f58 0) (LV.mk 0 [(0, 0)] 4 0 false) 0 25 K n [EV.str x0, EV.int IntKind.i64 x1] []) = zbi.l4 (fun y0 => K .ret [EV.int IntKind.i64 y0] []) (K (.exit 0) [] []) n := by funext x0 x1; exact zbi.l4X.eq K n x0 x1
  show yak _ _ _ _ _ (yar E_zbi (yaa Tryd.f58 0) (LV.mk 0 [(0, 0)] 4 0 false) 0 25 K n) [EV.str x0, EV.int IntKind.i64 x1] [] K = zbi.l4.step (zbi.l4 (fun y0 => K .ret [EV.int IntKind.i64 y0] []) (K (.exit 0) [] []) n) (fun y0 => K .ret [EV.int IntKind.i64 y0] []) (K (.exit 0) [] []) x0 x1
  rw [← ih]
  exact zbi.l4X.stepEq _ K x0 x1
theorem zbi.l4X.ok : LoopEq E_zbi (yaa Tryd.f58 0) := by
 intro L hL vs H
 have h1 : E_zbi.lp (yai (yaa Tryd.f58 0)) = some zbi.l4.entry := by kernel_rfl
 have h2 : L = zbi.l4.entry := Option.some.inj (hL.symm.trans h1)
 subst h2
 by_cases hx : ∃ (x0 : List UInt8) (x1 : Int), vs = [EV.str x0, EV.int IntKind.i64 x1] ∧ H = []
 ·obtain ⟨x0, x1, rfl, rfl⟩ := hx
  right; intro K
  exact exists_congr fun n => iff_of_eq (zbi.l4X.eq K n x0 x1).symm
 ·left; intro K h
  simp only [zbi.l4.entry] at h
  split at h
  ·exact hx ⟨_, _, rfl, rfl⟩
  ·exact h
theorem X_zbi.eq (a0 : List UInt8) (K : EV → yae → Prop) : ybC E_zbi Tryd.f58 false [.str a0] [] K = zbi a0 (fun y0 => K (EV.int IntKind.i64 y0) []) := by
 rw [zbi.is]; exact (yam _ _ _ _ _ _).symm.trans (by kernel_rfl)
theorem X_zbi.ok : SoundE Tryd.prog gl 58 e_zbi := by
 refine ybZ (E := E_zbi) (fn := Tryd.f58) rfl tys_ok rfl (show ybF _ l_zbi from ⟨X_zbj.ok, X_zbm.ok, X_zbd.ok, trivial⟩) mixed (by kernel_rfl) (by kernel_rfl) (by kernel_rfl) 1 (by kernel_rfl) false ⟨zbi.l4X.ok, trivial⟩ ?_
 intro args H
 by_cases hx : ∃ (a0 : List UInt8), args = [.str a0] ∧ H = []
 ·obtain ⟨a0, rfl, rfl⟩ := hx
  right; intro K
  exact iff_of_eq (X_zbi.eq a0 K).symm
 ·left; intro K h
  simp only [e_zbi] at h
  split at h
  ·exact hx ⟨_, rfl, rfl⟩
  ·exact h
noncomputable def e_zbp : Entry := ⟨[some .u8], false, fun args H K => match args, H with
 | [.rsI .u8 a0n a0], [] => zbp a0n a0 (fun y0 => K (EV.str y0) [])
 | _, _ => False⟩
noncomputable def E_zbp : Env := ⟨look tys, look [], look [(2, zbp.l2.entry), (6, zbp.l6.entry)], gl, yaM [], false⟩
theorem zbp.l2X.stepEq (R : List EV → yae → Prop) (K : Ex → List EV → yae → Prop) (x0 : Nat) (x1 : Nat → Int) (x2 : Int) : yak (yan E_zbp (yaa Tryd.f95 0) { (LV.mk 9 [(0, 9)] 4 0 false) with nx := live (.loop (yaa Tryd.f95 0)) (LV.mk 9 [(0, 9)] 4 0 false) }) (live (.loop (yaa Tryd.f95 0)) (LV.mk 9 [(0, 9)] 4 0 false)) (LV.mk 9 [(0, 9)] 4 0 false) 0 39 R [EV.rsI IntKind.u8 x0 x1, EV.int IntKind.i64 x2] [] K = zbp.l2.step (fun x0 x1 x2 => R [EV.rsI IntKind.u8 x0 x1, EV.int IntKind.i64 x2] []) (fun y0 y1 y2 => K (.exit 0) [EV.rsI IntKind.u8 y0 y1, EV.int IntKind.i64 y2] []) x0 x1 x2 := (yax _ _ _ _ _ _ _ _ _ _ _).symm.trans (by kernel_rfl)
theorem zbp.l2X.eq (K : Ex → List EV → yae → Prop) : ∀ (n : Nat) (x0 : Nat) (x1 : Nat → Int) (x2 : Int), yar E_zbp (yaa Tryd.f95 0) (LV.mk 9 [(0, 9)] 4 0 false) 0 39 K n [EV.rsI IntKind.u8 x0 x1, EV.int IntKind.i64 x2] [] = zbp.l2 (fun y0 y1 y2 => K (.exit 0) [EV.rsI IntKind.u8 y0 y1, EV.int IntKind.i64 y2] []) n x0 x1 x2
 | 0, _, _, _ => rfl
 | n + 1, x0, x1, x2 => by
  have ih : (fun (x0 : Nat) (x1 : Nat → Int) (x2 : Int) => yar E_zbp (yaa Tryd.f95 0) (LV.mk 9 [(0, 9)] 4 0 false) 0 39 K n [EV.rsI IntKind.u8 x0 x1, EV.int IntKind.i64 x2] []) = zbp.l2 (fun y0 y1 y2 => K (.exit 0) [EV.rsI IntKind.u8 y0 y1, EV.int IntKind.i64 y2] []) n := by funext x0 x1 x2; exact zbp.l2X.eq K n x0 x1 x2
  show yak _ _ _ _ _ (yar E_zbp (yaa Tryd.f95 0) (LV.mk 9 [(0, 9)] 4 0 false) 0 39 K n) [EV.rsI IntKind.u8 x0 x1, EV.int IntKind.i64 x2] [] K = zbp.l2.step (zbp.l2 (fun y0 y1 y2 => K (.exit 0) [EV.rsI IntKind.u8 y0 y1, EV.int IntKind.i64 y2] []) n) (fun y0 y1 y2 => K (.exit 0) [EV.rsI IntKind.u8 y0 y1, EV.int IntKind.i64 y2] []) x0 x1 x2
  rw [← ih]
  exact zbp.l2X.stepEq _ K x0 x1 x2
theorem zbp.l2X.ok : LoopEq E_zbp (yaa Tryd.f95 0) := by
 intro L hL vs H
 have h1 : E_zbp.lp (yai (yaa Tryd.f95 0)) = some zbp.l2.entry := by kernel_rfl
 have h2 : L = zbp.l2.entry := Option.some.inj (hL.symm.trans h1)
 subst h2
 by_cases hx : ∃ (x0 : Nat) (x1 : Nat → Int) (x2 : Int), vs = [EV.rsI IntKind.u8 x0 x1, EV.int IntKind.i64 x2] ∧ H = []
 ·obtain ⟨x0, x1, x2, rfl, rfl⟩ := hx
  right; intro K
  exact exists_congr fun n => iff_of_eq (zbp.l2X.eq K n x0 x1 x2).symm
 ·left; intro K h
  simp only [zbp.l2.entry] at h
  split at h
  ·exact hx ⟨_, _, _, rfl, rfl⟩
  ·exact h
theorem zbp.l6X.stepEq (R : List EV → yae → Prop) (K : Ex → List EV → yae → Prop) (x0 : Nat) (x1 : Nat → Int) (x2 : Int) (x3 : Nat) (x4 : Nat) (x5 : Int) (x6 : Nat) (x7 : Nat → Int) : yak (yan E_zbp (yaa Tryd.f95 1) { (LV.mk 16 [(2, 16)] 4 0 false) with nx := live (.loop (yaa Tryd.f95 1)) (LV.mk 16 [(2, 16)] 4 0 false) }) (live (.loop (yaa Tryd.f95 1)) (LV.mk 16 [(2, 16)] 4 0 false)) (LV.mk 16 [(2, 16)] 4 0 false) 0 39 R [EV.rsI IntKind.u8 x0 x1, EV.int IntKind.i64 x2, EV.slice 0 0 x3 (some x4) 1, EV.int IntKind.i64 x5] [some (EV.arr IntKind.u8 x6 x7)] K = zbp.l6.step (fun x0 x1 x2 x3 x4 x5 x6 x7 => R [EV.rsI IntKind.u8 x0 x1, EV.int IntKind.i64 x2, EV.slice 0 0 x3 (some x4) 1, EV.int IntKind.i64 x5] [some (EV.arr IntKind.u8 x6 x7)]) (fun y0 y1 y2 y3 => K (.exit 2) [EV.slice 0 0 y0 (some y1) 1] [some (EV.arr IntKind.u8 y2 y3)]) x0 x1 x2 x3 x4 x5 x6 x7 := (yax _ _ _ _ _ _ _ _ _ _ _).symm.trans (by kernel_rfl)
theorem zbp.l6X.eq (K : Ex → List EV → yae → Prop) : ∀ (n : Nat) (x0 : Nat) (x1 : Nat → Int) (x2 : Int) (x3 : Nat) (x4 : Nat) (x5 : Int) (x6 : Nat) (x7 : Nat → Int), yar E_zbp (yaa Tryd.f95 1) (LV.mk 16 [(2, 16)] 4 0 false) 0 39 K n [EV.rsI IntKind.u8 x0 x1, EV.int IntKind.i64 x2, EV.slice 0 0 x3 (some x4) 1, EV.int IntKind.i64 x5] [some (EV.arr IntKind.u8 x6 x7)] = zbp.l6 (fun y0 y1 y2 y3 => K (.exit 2) [EV.slice 0 0 y0 (some y1) 1] [some (EV.arr IntKind.u8 y2 y3)]) n x0 x1 x2 x3 x4 x5 x6 x7
 | 0, _, _, _, _, _, _, _, _ => rfl
 | n + 1, x0, x1, x2, x3, x4, x5, x6, x7 => by
  have ih : (fun (x0 : Nat) (x1 : Nat → Int) (x2 : Int) (x3 : Nat) (x4 : Nat) (x5 : Int) (x6 : Nat) (x7 : Nat → Int) => yar E_zbp (yaa Tryd.f95 1) (LV.mk 16 [(2, 16)] 4 0 false) 0 39 K n [EV.rsI IntKind.u8 x0 x1, EV.int IntKind.i64 x2, EV.slice 0 0 x3 (some x4) 1, EV.int IntKind.i64 x5] [some (EV.arr IntKind.u8 x6 x7)]) = zbp.l6 (fun y0 y1 y2 y3 => K (.exit 2) [EV.slice 0 0 y0 (some y1) 1] [some (EV.arr IntKind.u8 y2 y3)]) n := by funext x0 x1 x2 x3 x4 x5 x6 x7; exact zbp.l6X.eq K n x0 x1 x2 x3 x4 x5 x6 x7
  show yak _ _ _ _ _ (yar E_zbp (yaa Tryd.f95 1) (LV.mk 16 [(2, 16)] 4 0 false) 0 39 K n) [EV.rsI IntKind.u8 x0 x1, EV.int IntKind.i64 x2, EV.slice 0 0 x3 (some x4) 1, EV.int IntKind.i64 x5] [some (EV.arr IntKind.u8 x6 x7)] K = zbp.l6.step (zbp.l6 (fun y0 y1 y2 y3 => K (.exit 2) [EV.slice 0 0 y0 (some y1) 1] [some (EV.arr IntKind.u8 y2 y3)]) n) (fun y0 y1 y2 y3 => K (.exit 2) [EV.slice 0 0 y0 (some y1) 1] [some (EV.arr IntKind.u8 y2 y3)]) x0 x1 x2 x3 x4 x5 x6 x7
  rw [← ih]
  exact zbp.l6X.stepEq _ K x0 x1 x2 x3 x4 x5 x6 x7
theorem zbp.l6X.ok : LoopEq E_zbp (yaa Tryd.f95 1) := by
 intro L hL vs H
 have h1 : E_zbp.lp (yai (yaa Tryd.f95 1)) = some zbp.l6.entry := by kernel_rfl
 have h2 : L = zbp.l6.entry := Option.some.inj (hL.symm.trans h1)
 subst h2
 by_cases hx : ∃ (x0 : Nat) (x1 : Nat → Int) (x2 : Int) (x3 : Nat) (x4 : Nat) (x5 : Int) (x6 : Nat) (x7 : Nat → Int), vs = [EV.rsI IntKind.u8 x0 x1, EV.int IntKind.i64 x2, EV.slice 0 0 x3 (some x4) 1, EV.int IntKind.i64 x5] ∧ H = [some (EV.arr IntKind.u8 x6 x7)]
 ·obtain ⟨x0, x1, x2, x3, x4, x5, x6, x7, rfl, rfl⟩ := hx
  right; intro K
  exact exists_congr fun n => iff_of_eq (zbp.l6X.eq K n x0 x1 x2 x3 x4 x5 x6 x7).symm
 ·left; intro K h
  simp only [zbp.l6.entry] at h
  split at h
  ·exact hx ⟨_, _, _, _, _, _, _, _, rfl, rfl⟩
  ·exact h
theorem X_zbp.eq (a0n : Nat) (a0 : Nat → Int) (K : EV → yae → Prop) : ybC E_zbp Tryd.f95 false [.rsI .u8 a0n a0] [] K = zbp a0n a0 (fun y0 => K (EV.str y0) []) := by
 rw [zbp.is]; exact (yam _ _ _ _ _ _).symm.trans (by kernel_rfl)
theorem X_zbp.ok : SoundE Tryd.prog gl 95 e_zbp := by
 refine ybZ (E := E_zbp) (fn := Tryd.f95) rfl tys_ok rfl (show ybF _ [] from trivial) mixed (by kernel_rfl) (by kernel_rfl) (by kernel_rfl) 2 (by kernel_rfl) false ⟨zbp.l2X.ok, zbp.l6X.ok, trivial⟩ ?_
 intro args H
 by_cases hx : ∃ (a0n : Nat) (a0 : Nat → Int), args = [.rsI .u8 a0n a0] ∧ H = []
 ·obtain ⟨a0n, a0, rfl, rfl⟩ := hx
  right; intro K
  exact iff_of_eq (X_zbp.eq a0n a0 K).symm
 ·left; intro K h
  simp only [e_zbp] at h
  split at h
  ·exact hx ⟨_, _, rfl, rfl⟩
  ·exact h
noncomputable def e_zbk : Entry := ⟨[none, none], false, fun args H K => match args, H with
 | [.str a0, .int .i64 a1], [] => zbk a0 a1 (fun y0 y1 y2 => K (EV.tuple [EV.str y0, EV.bool y1, EV.int IntKind.i64 y2]) [])
 | _, _ => False⟩
noncomputable def l_zbk : List (Nat × Entry) := [(58, e_zbi), (93, e_zbm), (95, e_zbp)]
noncomputable def E_zbk : Env := ⟨look tys, look l_zbk, look [(11, zbk.l11.entry)], gl, yaM [], false⟩
theorem zbk.l11X.stepEq (R : List EV → yae → Prop) (K : Ex → List EV → yae → Prop) (x0 : List UInt8) (x1 : Int) (x2 : Bool) (x3 : Int) (x4 : Nat) (x5 : Nat) (x6 : Int) (x7 : Nat) (x8 : Nat → Int) : yak (yan E_zbk (yaa Tryd.f59 0) { (LV.mk 640 [(0, 640)] 112 0 false) with nx := live (.loop (yaa Tryd.f59 0)) (LV.mk 640 [(0, 640)] 112 0 false) }) (live (.loop (yaa Tryd.f59 0)) (LV.mk 640 [(0, 640)] 112 0 false)) (LV.mk 640 [(0, 640)] 112 0 false) 0 65 R [EV.str x0, EV.int IntKind.i64 x1, EV.bool x2, EV.int IntKind.i64 x3, EV.slice 0 0 x4 (some x5) 1, EV.int IntKind.i64 x6] [some (EV.arr IntKind.u8 x7 x8)] K = zbk.l11.step (fun x0 x1 x2 x3 x4 x5 x6 x7 x8 => R [EV.str x0, EV.int IntKind.i64 x1, EV.bool x2, EV.int IntKind.i64 x3, EV.slice 0 0 x4 (some x5) 1, EV.int IntKind.i64 x6] [some (EV.arr IntKind.u8 x7 x8)]) (fun y0 y1 y2 y3 y4 => K (.exit 0) [EV.bool y0, EV.slice 0 0 y1 (some y2) 1] [some (EV.arr IntKind.u8 y3 y4)]) x0 x1 x2 x3 x4 x5 x6 x7 x8 := (yax _ _ _ _ _ _ _ _ _ _ _).symm.trans (by kernel_rfl)
theorem zbk.l11X.eq (K : Ex → List EV → yae → Prop) : ∀ (n : Nat) (x0 : List UInt8) (x1 : Int) (x2 : Bool) (x3 : Int) (x4 : Nat) (x5 : Nat) (x6 : Int) (x7 : Nat) (x8 : Nat → Int), yar E_zbk (yaa Tryd.f59 0) (LV.mk 640 [(0, 640)] 112 0 false) 0 65 K n [EV.str x0, EV.int IntKind.i64 x1, EV.bool x2, EV.int IntKind.i64 x3, EV.slice 0 0 x4 (some x5) 1, EV.int IntKind.i64 x6] [some (EV.arr IntKind.u8 x7 x8)] = zbk.l11 (fun y0 y1 y2 y3 y4 => K (.exit 0) [EV.bool y0, EV.slice 0 0 y1 (some y2) 1] [some (EV.arr IntKind.u8 y3 y4)]) n x0 x1 x2 x3 x4 x5 x6 x7 x8
 | 0, _, _, _, _, _, _, _, _, _ => rfl
 | n + 1, x0, x1, x2, x3, x4, x5, x6, x7, x8 => by
  have ih : (fun (x0 : List UInt8) (x1 : Int) (x2 : Bool) (x3 : Int) (x4 : Nat) (x5 : Nat) (x6 : Int) (x7 : Nat) (x8 : Nat → Int) => yar E_zbk (yaa Tryd.f59 0) (LV.mk 640 [(0, 640)] 112 0 false) 0 65 K n [EV.str x0, EV.int IntKind.i64 x1, EV.bool x2, EV.int IntKind.i64 x3, EV.slice 0 0 x4 (some x5) 1, EV.int IntKind.i64 x6] [some (EV.arr IntKind.u8 x7 x8)]) = zbk.l11 (fun y0 y1 y2 y3 y4 => K (.exit 0) [EV.bool y0, EV.slice 0 0 y1 (some y2) 1] [some (EV.arr IntKind.u8 y3 y4)]) n := by funext x0 x1 x2 x3 x4 x5 x6 x7 x8; exact zbk.l11X.eq K n x0 x1 x2 x3 x4 x5 x6 x7 x8
  show yak _ _ _ _ _ (yar E_zbk (yaa Tryd.f59 0) (LV.mk 640 [(0, 640)] 112 0 false) 0 65 K n) [EV.str x0, EV.int IntKind.i64 x1, EV.bool x2, EV.int IntKind.i64 x3, EV.slice 0 0 x4 (some x5) 1, EV.int IntKind.i64 x6] [some (EV.arr IntKind.u8 x7 x8)] K = zbk.l11.step (zbk.l11 (fun y0 y1 y2 y3 y4 => K (.exit 0) [EV.bool y0, EV.slice 0 0 y1 (some y2) 1] [some (EV.arr IntKind.u8 y3 y4)]) n) (fun y0 y1 y2 y3 y4 => K (.exit 0) [EV.bool y0, EV.slice 0 0 y1 (some y2) 1] [some (EV.arr IntKind.u8 y3 y4)]) x0 x1 x2 x3 x4 x5 x6 x7 x8
  rw [← ih]
  exact zbk.l11X.stepEq _ K x0 x1 x2 x3 x4 x5 x6 x7 x8
theorem zbk.l11X.ok : LoopEq E_zbk (yaa Tryd.f59 0) := by
 intro L hL vs H
 have h1 : E_zbk.lp (yai (yaa Tryd.f59 0)) = some zbk.l11.entry := by kernel_rfl
 have h2 : L = zbk.l11.entry := Option.some.inj (hL.symm.trans h1)
 subst h2
 by_cases hx : ∃ (x0 : List UInt8) (x1 : Int) (x2 : Bool) (x3 : Int) (x4 : Nat) (x5 : Nat) (x6 : Int) (x7 : Nat) (x8 : Nat → Int), vs = [EV.str x0, EV.int IntKind.i64 x1, EV.bool x2, EV.int IntKind.i64 x3, EV.slice 0 0 x4 (some x5) 1, EV.int IntKind.i64 x6] ∧ H = [some (EV.arr IntKind.u8 x7 x8)]
 ·obtain ⟨x0, x1, x2, x3, x4, x5, x6, x7, x8, rfl, rfl⟩ := hx
  right; intro K
  exact exists_congr fun n => iff_of_eq (zbk.l11X.eq K n x0 x1 x2 x3 x4 x5 x6 x7 x8).symm
 ·left; intro K h
  simp only [zbk.l11.entry] at h
  split at h
  ·exact hx ⟨_, _, _, _, _, _, _, _, _, rfl, rfl⟩
  ·exact h
theorem X_zbk.eq (a0 : List UInt8) (a1 : Int) (K : EV → yae → Prop) : ybC E_zbk Tryd.f59 false [.str a0, .int .i64 a1] [] K = zbk a0 a1 (fun y0 y1 y2 => K (EV.tuple [EV.str y0, EV.bool y1, EV.int IntKind.i64 y2]) []) := by
 rw [zbk.is]; exact (yam _ _ _ _ _ _).symm.trans (by kernel_rfl)
theorem X_zbk.ok : SoundE Tryd.prog gl 59 e_zbk := by
 refine ybZ (E := E_zbk) (fn := Tryd.f59) rfl tys_ok rfl (show ybF _ l_zbk from ⟨X_zbi.ok, X_zbm.ok, X_zbp.ok, trivial⟩) mixed (by kernel_rfl) (by kernel_rfl) (by kernel_rfl) 1 (by kernel_rfl) false ⟨zbk.l11X.ok, trivial⟩ ?_
 intro args H
 by_cases hx : ∃ (a0 : List UInt8) (a1 : Int), args = [.str a0, .int .i64 a1] ∧ H = []
 ·obtain ⟨a0, a1, rfl, rfl⟩ := hx
  right; intro K
  exact iff_of_eq (X_zbk.eq a0 a1 K).symm
 ·left; intro K h
  simp only [e_zbk] at h
  split at h
  ·exact hx ⟨_, _, rfl, rfl⟩
  ·exact h
noncomputable def e_zbc : Entry := ⟨[none], false, fun args H K => match args, H with
 | [.int .u64 a0], [] => zbc a0 (fun y0 => K (EV.int IntKind.i64 y0) [])
 | _, _ => False⟩
noncomputable def l_zbc : List (Nat × Entry) := [(111, e_zbb)]
noncomputable def E_zbc : Env := ⟨look tys, look l_zbc, look [(3, zbc.l3.entry)], gl, yaM [], false⟩
theorem zbc.l3X.stepEq (R : List EV → yae → Prop) (K : Ex → List EV → yae → Prop) (x0 : Int) (x1 : Int) (x2 : Int) : yak (yan E_zbc (yaa Tryd.f102 0) { (LV.mk 8 [(0, 8)] 4 0 false) with nx := live (.loop (yaa Tryd.f102 0)) (LV.mk 8 [(0, 8)] 4 0 false) }) (live (.loop (yaa Tryd.f102 0)) (LV.mk 8 [(0, 8)] 4 0 false)) (LV.mk 8 [(0, 8)] 4 0 false) 0 15 R [EV.int IntKind.u64 x0, EV.int IntKind.i64 x1, EV.int IntKind.i64 x2] [] K = zbc.l3.step (fun x0 x1 x2 => R [EV.int IntKind.u64 x0, EV.int IntKind.i64 x1, EV.int IntKind.i64 x2] []) (fun y0 => K (.exit 0) [EV.int IntKind.i64 y0] []) x0 x1 x2 := (yax _ _ _ _ _ _ _ _ _ _ _).symm.trans (by kernel_rfl)
theorem zbc.l3X.eq (K : Ex → List EV → yae → Prop) : ∀ (n : Nat) (x0 : Int) (x1 : Int) (x2 : Int), yar E_zbc (yaa Tryd.f102 0) (LV.mk 8 [(0, 8)] 4 0 false) 0 15 K n [EV.int IntKind.u64 x0, EV.int IntKind.i64 x1, EV.int IntKind.i64 x2] [] = zbc.l3 (fun y0 => K (.exit 0) [EV.int IntKind.i64 y0] []) n x0 x1 x2
 | 0, _, _, _ => rfl
 | n + 1, x0, x1, x2 => by
  have ih : (fun (x0 : Int) (x1 : Int) (x2 : Int) => yar E_zbc (yaa Tryd.f102 0) (LV.mk 8 [(0, 8)] 4 0 false) 0 15 K n [EV.int IntKind.u64 x0, EV.int IntKind.i64 x1, EV.int IntKind.i64 x2] []) = zbc.l3 (fun y0 => K (.exit 0) [EV.int IntKind.i64 y0] []) n := by funext x0 x1 x2; exact zbc.l3X.eq K n x0 x1 x2
  show yak _ _ _ _ _ (yar E_zbc (yaa Tryd.f102 0) (LV.mk 8 [(0, 8)] 4 0 false) 0 15 K n) [EV.int IntKind.u64 x0, EV.int IntKind.i64 x1, EV.int IntKind.i64 x2] [] K = zbc.l3.step (zbc.l3 (fun y0 => K (.exit 0) [EV.int IntKind.i64 y0] []) n) (fun y0 => K (.exit 0) [EV.int IntKind.i64 y0] []) x0 x1 x2
  rw [← ih]
  exact zbc.l3X.stepEq _ K x0 x1 x2
theorem zbc.l3X.ok : LoopEq E_zbc (yaa Tryd.f102 0) := by
 intro L hL vs H
 have h1 : E_zbc.lp (yai (yaa Tryd.f102 0)) = some zbc.l3.entry := by kernel_rfl
 have h2 : L = zbc.l3.entry := Option.some.inj (hL.symm.trans h1)
 subst h2
 by_cases hx : ∃ (x0 : Int) (x1 : Int) (x2 : Int), vs = [EV.int IntKind.u64 x0, EV.int IntKind.i64 x1, EV.int IntKind.i64 x2] ∧ H = []
 ·obtain ⟨x0, x1, x2, rfl, rfl⟩ := hx
  right; intro K
  exact exists_congr fun n => iff_of_eq (zbc.l3X.eq K n x0 x1 x2).symm
 ·left; intro K h
  simp only [zbc.l3.entry] at h
  split at h
  ·exact hx ⟨_, _, _, rfl, rfl⟩
  ·exact h
theorem X_zbc.eq (a0 : Int) (K : EV → yae → Prop) : ybC E_zbc Tryd.f102 false [.int .u64 a0] [] K = zbc a0 (fun y0 => K (EV.int IntKind.i64 y0) []) := by
 rw [zbc.is]; exact (yam _ _ _ _ _ _).symm.trans (by kernel_rfl)
theorem X_zbc.ok : SoundE Tryd.prog gl 102 e_zbc := by
 refine ybZ (E := E_zbc) (fn := Tryd.f102) rfl tys_ok rfl (show ybF _ l_zbc from ⟨X_zbb.ok, trivial⟩) mixed (by kernel_rfl) (by kernel_rfl) (by kernel_rfl) 1 (by kernel_rfl) false ⟨zbc.l3X.ok, trivial⟩ ?_
 intro args H
 by_cases hx : ∃ (a0 : Int), args = [.int .u64 a0] ∧ H = []
 ·obtain ⟨a0, rfl, rfl⟩ := hx
  right; intro K
  exact iff_of_eq (X_zbc.eq a0 K).symm
 ·left; intro K h
  simp only [e_zbc] at h
  split at h
  ·exact hx ⟨_, rfl, rfl⟩
  ·exact h
noncomputable def e_zbh : Entry := ⟨[none], false, fun args H K => match args, H with
 | [.str a0], [] => zbh a0 (fun y0 => K (EV.int IntKind.i64 y0) [])
 | _, _ => False⟩
noncomputable def l_zbh : List (Nat × Entry) := [(51, e_zbj), (102, e_zbc)]
noncomputable def E_zbh : Env := ⟨look tys, look l_zbh, look [], gl, yaM [], false⟩
theorem X_zbh.eq (a0 : List UInt8) (K : EV → yae → Prop) : ybC E_zbh Tryd.f68 false [.str a0] [] K = zbh a0 (fun y0 => K (EV.int IntKind.i64 y0) []) := by
 rw [zbh.is]; exact (yam _ _ _ _ _ _).symm.trans (by kernel_rfl)
theorem X_zbh.ok : SoundE Tryd.prog gl 68 e_zbh := by
 refine ybZ (E := E_zbh) (fn := Tryd.f68) rfl tys_ok rfl (show ybF _ l_zbh from ⟨X_zbj.ok, X_zbc.ok, trivial⟩) mixed (by kernel_rfl) (by kernel_rfl) (by kernel_rfl) 0 (by kernel_rfl) false trivial ?_
 intro args H
 by_cases hx : ∃ (a0 : List UInt8), args = [.str a0] ∧ H = []
 ·obtain ⟨a0, rfl, rfl⟩ := hx
  right; intro K
  exact iff_of_eq (X_zbh.eq a0 K).symm
 ·left; intro K h
  simp only [e_zbh] at h
  split at h
  ·exact hx ⟨_, rfl, rfl⟩
  ·exact h
noncomputable def e_zbe : Entry := ⟨[none, none], false, fun args H K => match args, H with
 | [.str a0, .str a1], [] => zbe a0 a1 (fun y0 => K (EV.int IntKind.i64 y0) [])
 | _, _ => False⟩
noncomputable def E_zbe : Env := ⟨look tys, look [], look [], gl, yaM [], false⟩
theorem X_zbe.eq (a0 : List UInt8) (a1 : List UInt8) (K : EV → yae → Prop) : ybC E_zbe Tryd.f70 false [.str a0, .str a1] [] K = zbe a0 a1 (fun y0 => K (EV.int IntKind.i64 y0) []) := by
 rw [zbe.is]; exact (yam _ _ _ _ _ _).symm.trans (by kernel_rfl)
theorem X_zbe.ok : SoundE Tryd.prog gl 70 e_zbe := by
 refine ybZ (E := E_zbe) (fn := Tryd.f70) rfl tys_ok rfl (show ybF _ [] from trivial) mixed (by kernel_rfl) (by kernel_rfl) (by kernel_rfl) 0 (by kernel_rfl) false trivial ?_
 intro args H
 by_cases hx : ∃ (a0 : List UInt8) (a1 : List UInt8), args = [.str a0, .str a1] ∧ H = []
 ·obtain ⟨a0, a1, rfl, rfl⟩ := hx
  right; intro K
  exact iff_of_eq (X_zbe.eq a0 a1 K).symm
 ·left; intro K h
  simp only [e_zbe] at h
  split at h
  ·exact hx ⟨_, _, rfl, rfl⟩
  ·exact h
noncomputable def e_zbo : Entry := ⟨[none, none], false, fun args H K => match args, H with
 | [.str a0, .int .i64 a1], [] => zbo a0 a1 (fun y0 => K (EV.str y0) [])
 | _, _ => False⟩
noncomputable def l_zbo : List (Nat × Entry) := [(93, e_zbm), (95, e_zbp)]
noncomputable def E_zbo : Env := ⟨look tys, look l_zbo, look [(4, zbo.l4.entry)], gl, yaM [], false⟩
theorem zbo.l4X.stepEq (R : List EV → yae → Prop) (K : Ex → List EV → yae → Prop) (x0 : List UInt8) (x1 : Nat) (x2 : Nat) (x3 : Int) (x4 : Int) (x5 : Nat) (x6 : Nat → Int) : yak (yan E_zbo (yaa Tryd.f96 0) { (LV.mk 32 [(0, 32)] 16 0 false) with nx := live (.loop (yaa Tryd.f96 0)) (LV.mk 32 [(0, 32)] 16 0 false) }) (live (.loop (yaa Tryd.f96 0)) (LV.mk 32 [(0, 32)] 16 0 false)) (LV.mk 32 [(0, 32)] 16 0 false) 0 34 R [EV.str x0, EV.slice 0 0 x1 (some x2) 1, EV.int IntKind.i64 x3, EV.int IntKind.i64 x4] [some (EV.arr IntKind.u8 x5 x6)] K = zbo.l4.step (fun x0 x1 x2 x3 x4 x5 x6 => R [EV.str x0, EV.slice 0 0 x1 (some x2) 1, EV.int IntKind.i64 x3, EV.int IntKind.i64 x4] [some (EV.arr IntKind.u8 x5 x6)]) (fun y0 y1 y2 y3 => K (.exit 0) [EV.slice 0 0 y0 (some y1) 1] [some (EV.arr IntKind.u8 y2 y3)]) x0 x1 x2 x3 x4 x5 x6 := (yax _ _ _ _ _ _ _ _ _ _ _).symm.trans (by kernel_rfl)
theorem zbo.l4X.eq (K : Ex → List EV → yae → Prop) : ∀ (n : Nat) (x0 : List UInt8) (x1 : Nat) (x2 : Nat) (x3 : Int) (x4 : Int) (x5 : Nat) (x6 : Nat → Int), yar E_zbo (yaa Tryd.f96 0) (LV.mk 32 [(0, 32)] 16 0 false) 0 34 K n [EV.str x0, EV.slice 0 0 x1 (some x2) 1, EV.int IntKind.i64 x3, EV.int IntKind.i64 x4] [some (EV.arr IntKind.u8 x5 x6)] = zbo.l4 (fun y0 y1 y2 y3 => K (.exit 0) [EV.slice 0 0 y0 (some y1) 1] [some (EV.arr IntKind.u8 y2 y3)]) n x0 x1 x2 x3 x4 x5 x6
 | 0, _, _, _, _, _, _, _ => rfl
 | n + 1, x0, x1, x2, x3, x4, x5, x6 => by
  have ih : (fun (x0 : List UInt8) (x1 : Nat) (x2 : Nat) (x3 : Int) (x4 : Int) (x5 : Nat) (x6 : Nat → Int) => yar E_zbo (yaa Tryd.f96 0) (LV.mk 32 [(0, 32)] 16 0 false) 0 34 K n [EV.str x0, EV.slice 0 0 x1 (some x2) 1, EV.int IntKind.i64 x3, EV.int IntKind.i64 x4] [some (EV.arr IntKind.u8 x5 x6)]) = zbo.l4 (fun y0 y1 y2 y3 => K (.exit 0) [EV.slice 0 0 y0 (some y1) 1] [some (EV.arr IntKind.u8 y2 y3)]) n := by funext x0 x1 x2 x3 x4 x5 x6; exact zbo.l4X.eq K n x0 x1 x2 x3 x4 x5 x6
  show yak _ _ _ _ _ (yar E_zbo (yaa Tryd.f96 0) (LV.mk 32 [(0, 32)] 16 0 false) 0 34 K n) [EV.str x0, EV.slice 0 0 x1 (some x2) 1, EV.int IntKind.i64 x3, EV.int IntKind.i64 x4] [some (EV.arr IntKind.u8 x5 x6)] K = zbo.l4.step (zbo.l4 (fun y0 y1 y2 y3 => K (.exit 0) [EV.slice 0 0 y0 (some y1) 1] [some (EV.arr IntKind.u8 y2 y3)]) n) (fun y0 y1 y2 y3 => K (.exit 0) [EV.slice 0 0 y0 (some y1) 1] [some (EV.arr IntKind.u8 y2 y3)]) x0 x1 x2 x3 x4 x5 x6
  rw [← ih]
  exact zbo.l4X.stepEq _ K x0 x1 x2 x3 x4 x5 x6
theorem zbo.l4X.ok : LoopEq E_zbo (yaa Tryd.f96 0) := by
 intro L hL vs H
 have h1 : E_zbo.lp (yai (yaa Tryd.f96 0)) = some zbo.l4.entry := by kernel_rfl
 have h2 : L = zbo.l4.entry := Option.some.inj (hL.symm.trans h1)
 subst h2
 by_cases hx : ∃ (x0 : List UInt8) (x1 : Nat) (x2 : Nat) (x3 : Int) (x4 : Int) (x5 : Nat) (x6 : Nat → Int), vs = [EV.str x0, EV.slice 0 0 x1 (some x2) 1, EV.int IntKind.i64 x3, EV.int IntKind.i64 x4] ∧ H = [some (EV.arr IntKind.u8 x5 x6)]
 ·obtain ⟨x0, x1, x2, x3, x4, x5, x6, rfl, rfl⟩ := hx
  right; intro K
  exact exists_congr fun n => iff_of_eq (zbo.l4X.eq K n x0 x1 x2 x3 x4 x5 x6).symm
 ·left; intro K h
  simp only [zbo.l4.entry] at h
  split at h
  ·exact hx ⟨_, _, _, _, _, _, _, rfl, rfl⟩
  ·exact h
theorem X_zbo.eq (a0 : List UInt8) (a1 : Int) (K : EV → yae → Prop) : ybC E_zbo Tryd.f96 false [.str a0, .int .i64 a1] [] K = zbo a0 a1 (fun y0 => K (EV.str y0) []) := by
 rw [zbo.is]; exact (yam _ _ _ _ _ _).symm.trans (by kernel_rfl)
theorem X_zbo.ok : SoundE Tryd.prog gl 96 e_zbo := by
 refine ybZ (E := E_zbo) (fn := Tryd.f96) rfl tys_ok rfl (show ybF _ l_zbo from ⟨X_zbm.ok, X_zbp.ok, trivial⟩) mixed (by kernel_rfl) (by kernel_rfl) (by kernel_rfl) 1 (by kernel_rfl) false ⟨zbo.l4X.ok, trivial⟩ ?_
 intro args H
 by_cases hx : ∃ (a0 : List UInt8) (a1 : Int), args = [.str a0, .int .i64 a1] ∧ H = []
 ·obtain ⟨a0, a1, rfl, rfl⟩ := hx
  right; intro K
  exact iff_of_eq (X_zbo.eq a0 a1 K).symm
 ·left; intro K h
  simp only [e_zbo] at h
  split at h
  ·exact hx ⟨_, _, rfl, rfl⟩
  ·exact h
noncomputable def e_zbn : Entry := ⟨[none, none], false, fun args H K => match args, H with
 | [.str a0, .int .i64 a1], [] => zbn a0 a1 (fun y0 => K (EV.int IntKind.i64 y0) [])
 | _, _ => False⟩
noncomputable def l_zbn : List (Nat × Entry) := [(93, e_zbm)]
noncomputable def E_zbn : Env := ⟨look tys, look l_zbn, look [], gl, yaM [], false⟩
theorem X_zbn.eq (a0 : List UInt8) (a1 : Int) (K : EV → yae → Prop) : ybC E_zbn Tryd.f97 false [.str a0, .int .i64 a1] [] K = zbn a0 a1 (fun y0 => K (EV.int IntKind.i64 y0) []) := by
 rw [zbn.is]; exact (yam _ _ _ _ _ _).symm.trans (by kernel_rfl)
theorem X_zbn.ok : SoundE Tryd.prog gl 97 e_zbn := by
 refine ybZ (E := E_zbn) (fn := Tryd.f97) rfl tys_ok rfl (show ybF _ l_zbn from ⟨X_zbm.ok, trivial⟩) mixed (by kernel_rfl) (by kernel_rfl) (by kernel_rfl) 0 (by kernel_rfl) false trivial ?_
 intro args H
 by_cases hx : ∃ (a0 : List UInt8) (a1 : Int), args = [.str a0, .int .i64 a1] ∧ H = []
 ·obtain ⟨a0, a1, rfl, rfl⟩ := hx
  right; intro K
  exact iff_of_eq (X_zbn.eq a0 a1 K).symm
 ·left; intro K h
  simp only [e_zbn] at h
  split at h
  ·exact hx ⟨_, _, rfl, rfl⟩
  ·exact h
end Go.Ev.S

/- The functions of the seat: that the evaluator has them as they are. -/
set_option maxRecDepth 100000
set_option linter.unusedVariables false
set_option linter.unusedSimpArgs false
namespace Go.Ev.S
open Go Go.Proofs Go.Ev
noncomputable def e_zbq : Entry := ⟨[none, none], false, fun args H K => match args, H with
 | [.str a0, .str a1], [] => zbq a0 a1 (fun y0 => K (EV.str y0) [])
 | _, _ => False⟩
noncomputable def l_zbq : List (Nat × Entry) := [(93, e_zbm), (95, e_zbp)]
noncomputable def E_zbq : Env := ⟨look tys, look l_zbq, look [(4, zbq.l4.entry)], gl, yaM [], false⟩
theorem zbq.l4X.stepEq (R : List EV → yae → Prop) (K : Ex → List EV → yae → Prop) (x0 : List UInt8) (x1 : List UInt8) (x2 : Nat) (x3 : Nat) (x4 : Int) (x5 : Int) (x6 : Nat) (x7 : Nat → Int) : yak (yan E_zbq (yaa Tryd.f98 0) { (LV.mk 32 [(0, 32)] 16 0 false) with nx := live (.loop (yaa Tryd.f98 0)) (LV.mk 32 [(0, 32)] 16 0 false) }) (live (.loop (yaa Tryd.f98 0)) (LV.mk 32 [(0, 32)] 16 0 false)) (LV.mk 32 [(0, 32)] 16 0 false) 0 35 R [EV.str x0, EV.str x1, EV.slice 0 0 x2 (some x3) 1, EV.int IntKind.i64 x4, EV.int IntKind.i64 x5] [some (EV.arr IntKind.u8 x6 x7)] K = zbq.l4.step (fun x0 x1 x2 x3 x4 x5 x6 x7 => R [EV.str x0, EV.str x1, EV.slice 0 0 x2 (some x3) 1, EV.int IntKind.i64 x4, EV.int IntKind.i64 x5] [some (EV.arr IntKind.u8 x6 x7)]) (fun y0 y1 y2 y3 => K (.exit 0) [EV.slice 0 0 y0 (some y1) 1] [some (EV.arr IntKind.u8 y2 y3)]) x0 x1 x2 x3 x4 x5 x6 x7 := (yax _ _ _ _ _ _ _ _ _ _ _).symm.trans (by kernel_rfl)
theorem zbq.l4X.eq (K : Ex → List EV → yae → Prop) : ∀ (n : Nat) (x0 : List UInt8) (x1 : List UInt8) (x2 : Nat) (x3 : Nat) (x4 : Int) (x5 : Int) (x6 : Nat) (x7 : Nat → Int), yar E_zbq (yaa Tryd.f98 0) (LV.mk 32 [(0, 32)] 16 0 false) 0 35 K n [EV.str x0, EV.str x1, EV.slice 0 0 x2 (some x3) 1, EV.int IntKind.i64 x4, EV.int IntKind.i64 x5] [some (EV.arr IntKind.u8 x6 x7)] = zbq.l4 (fun y0 y1 y2 y3 => K (.exit 0) [EV.slice 0 0 y0 (some y1) 1] [some (EV.arr IntKind.u8 y2 y3)]) n x0 x1 x2 x3 x4 x5 x6 x7
 | 0, _, _, _, _, _, _, _, _ => rfl
 | n + 1, x0, x1, x2, x3, x4, x5, x6, x7 => by
  have ih : (fun (x0 : List UInt8) (x1 : List UInt8) (x2 : Nat) (x3 : Nat) (x4 : Int) (x5 : Int) (x6 : Nat) (x7 : Nat → Int) => yar E_zbq (yaa Tryd.f98 0) (LV.mk 32 [(0, 32)] 16 0 false) 0 35 K n [EV.str x0, EV.str x1, EV.slice 0 0 x2 (some x3) 1, EV.int IntKind.i64 x4, EV.int IntKind.i64 x5] [some (EV.arr IntKind.u8 x6 x7)]) = zbq.l4 (fun y0 y1 y2 y3 => K (.exit 0) [EV.slice 0 0 y0 (some y1) 1] [some (EV.arr IntKind.u8 y2 y3)]) n := by funext x0 x1 x2 x3 x4 x5 x6 x7; exact zbq.l4X.eq K n x0 x1 x2 x3 x4 x5 x6 x7
  show yak _ _ _ _ _ (yar E_zbq (yaa Tryd.f98 0) (LV.mk 32 [(0, 32)] 16 0 false) 0 35 K n) [EV.str x0, EV.str x1, EV.slice 0 0 x2 (some x3) 1, EV.int IntKind.i64 x4, EV.int IntKind.i64 x5] [some (EV.arr IntKind.u8 x6 x7)] K = zbq.l4.step (zbq.l4 (fun y0 y1 y2 y3 => K (.exit 0) [EV.slice 0 0 y0 (some y1) 1] [some (EV.arr IntKind.u8 y2 y3)]) n) (fun y0 y1 y2 y3 => K (.exit 0) [EV.slice 0 0 y0 (some y1) 1] [some (EV.arr IntKind.u8 y2 y3)]) x0 x1 x2 x3 x4 x5 x6 x7
  rw [← ih]
  exact zbq.l4X.stepEq _ K x0 x1 x2 x3 x4 x5 x6 x7
theorem zbq.l4X.ok : LoopEq E_zbq (yaa Tryd.f98 0) := by
 intro L hL vs H
 have h1 : E_zbq.lp (yai (yaa Tryd.f98 0)) = some zbq.l4.entry := by kernel_rfl
 have h2 : L = zbq.l4.entry := Option.some.inj (hL.symm.trans h1)
 subst h2
 by_cases hx : ∃ (x0 : List UInt8) (x1 : List UInt8) (x2 : Nat) (x3 : Nat) (x4 : Int) (x5 : Int) (x6 : Nat) (x7 : Nat → Int), vs = [EV.str x0, EV.str x1, EV.slice 0 0 x2 (some x3) 1, EV.int IntKind.i64 x4, EV.int IntKind.i64 x5] ∧ H = [some (EV.arr IntKind.u8 x6 x7)]
 ·obtain ⟨x0, x1, x2, x3, x4, x5, x6, x7, rfl, rfl⟩ := hx
  right; intro K
  exact exists_congr fun n => iff_of_eq (zbq.l4X.eq K n x0 x1 x2 x3 x4 x5 x6 x7).symm
 ·left; intro K h
  simp only [zbq.l4.entry] at h
  split at h
  ·exact hx ⟨_, _, _, _, _, _, _, _, rfl, rfl⟩
  ·exact h
theorem X_zbq.eq (a0 : List UInt8) (a1 : List UInt8) (K : EV → yae → Prop) : ybC E_zbq Tryd.f98 false [.str a0, .str a1] [] K = zbq a0 a1 (fun y0 => K (EV.str y0) []) := by
 rw [zbq.is]; exact (yam _ _ _ _ _ _).symm.trans (by kernel_rfl)
theorem X_zbq.ok : SoundE Tryd.prog gl 98 e_zbq := by
 refine ybZ (E := E_zbq) (fn := Tryd.f98) rfl tys_ok rfl (show ybF _ l_zbq from ⟨X_zbm.ok, X_zbp.ok, trivial⟩) mixed (by kernel_rfl) (by kernel_rfl) (by kernel_rfl) 1 (by kernel_rfl) false ⟨zbq.l4X.ok, trivial⟩ ?_
 intro args H
 by_cases hx : ∃ (a0 : List UInt8) (a1 : List UInt8), args = [.str a0, .str a1] ∧ H = []
 ·obtain ⟨a0, a1, rfl, rfl⟩ := hx
  right; intro K
  exact iff_of_eq (X_zbq.eq a0 a1 K).symm
 ·left; intro K h
  simp only [e_zbq] at h
  split at h
  ·exact hx ⟨_, _, rfl, rfl⟩
  ·exact h
noncomputable def e_zbf : Entry := ⟨[none, none], false, fun args H K => match args, H with
 | [.str a0, .str a1], [] => zbf a0 a1 (fun y0 y1 y2 => K (EV.tuple [EV.str y0, EV.str y1, EV.int IntKind.i64 y2]) [])
 | _, _ => False⟩
noncomputable def l_zbf : List (Nat × Entry) := [(59, e_zbk), (68, e_zbh), (70, e_zbe), (95, e_zbp), (96, e_zbo), (97, e_zbn), (98, e_zbq)]
noncomputable def E_zbf : Env := ⟨look tys, look l_zbf, look [(10, zbf.l10.entry)], gl, yaM [], false⟩
theorem zbf.l10X.stepEq (R : List EV → yae → Prop) (K : Ex → List EV → yae → Prop) (x0 : List UInt8) (x1 : List UInt8) (x2 : List UInt8) (x3 : Nat) (x4 : Nat) (x5 : Int) (x6 : Nat) (x7 : Nat → Int) : yak (yan E_zbf (yaa Tryd.f60 0) { (LV.mk 4608 [(0, 4608)] 112 0 false) with nx := live (.loop (yaa Tryd.f60 0)) (LV.mk 4608 [(0, 4608)] 112 0 false) }) (live (.loop (yaa Tryd.f60 0)) (LV.mk 4608 [(0, 4608)] 112 0 false)) (LV.mk 4608 [(0, 4608)] 112 0 false) 0 76 R [EV.str x0, EV.str x1, EV.str x2, EV.slice 0 0 x3 (some x4) 1, EV.int IntKind.i64 x5] [some (EV.arr IntKind.u8 x6 x7)] K = zbf.l10.step (fun x0 x1 x2 x3 x4 x5 x6 x7 => R [EV.str x0, EV.str x1, EV.str x2, EV.slice 0 0 x3 (some x4) 1, EV.int IntKind.i64 x5] [some (EV.arr IntKind.u8 x6 x7)]) (fun y0 y1 y2 y3 y4 => K (.exit 0) [EV.str y0, EV.slice 0 0 y1 (some y2) 1] [some (EV.arr IntKind.u8 y3 y4)]) x0 x1 x2 x3 x4 x5 x6 x7 := (yax _ _ _ _ _ _ _ _ _ _ _).symm.trans (by kernel_rfl)
theorem zbf.l10X.eq (K : Ex → List EV → yae → Prop) : ∀ (n : Nat) (x0 : List UInt8) (x1 : List UInt8) (x2 : List UInt8) (x3 : Nat) (x4 : Nat) (x5 : Int) (x6 : Nat) (x7 : Nat → Int), yar E_zbf (yaa Tryd.f60 0) (LV.mk 4608 [(0, 4608)] 112 0 false) 0 76 K n [EV.str x0, EV.str x1, EV.str x2, EV.slice 0 0 x3 (some x4) 1, EV.int IntKind.i64 x5] [some (EV.arr IntKind.u8 x6 x7)] = zbf.l10 (fun y0 y1 y2 y3 y4 => K (.exit 0) [EV.str y0, EV.slice 0 0 y1 (some y2) 1] [some (EV.arr IntKind.u8 y3 y4)]) n x0 x1 x2 x3 x4 x5 x6 x7
 | 0, _, _, _, _, _, _, _, _ => rfl
 | n + 1, x0, x1, x2, x3, x4, x5, x6, x7 => by
  have ih : (fun (x0 : List UInt8) (x1 : List UInt8) (x2 : List UInt8) (x3 : Nat) (x4 : Nat) (x5 : Int) (x6 : Nat) (x7 : Nat → Int) => yar E_zbf (yaa Tryd.f60 0) (LV.mk 4608 [(0, 4608)] 112 0 false) 0 76 K n [EV.str x0, EV.str x1, EV.str x2, EV.slice 0 0 x3 (some x4) 1, EV.int IntKind.i64 x5] [some (EV.arr IntKind.u8 x6 x7)]) = zbf.l10 (fun y0 y1 y2 y3 y4 => K (.exit 0) [EV.str y0, EV.slice 0 0 y1 (some y2) 1] [some (EV.arr IntKind.u8 y3 y4)]) n := by funext x0 x1 x2 x3 x4 x5 x6 x7; exact zbf.l10X.eq K n x0 x1 x2 x3 x4 x5 x6 x7
  show yak _ _ _ _ _ (yar E_zbf (yaa Tryd.f60 0) (LV.mk 4608 [(0, 4608)] 112 0 false) 0 76 K n) [EV.str x0, EV.str x1, EV.str x2, EV.slice 0 0 x3 (some x4) 1, EV.int IntKind.i64 x5] [some (EV.arr IntKind.u8 x6 x7)] K = zbf.l10.step (zbf.l10 (fun y0 y1 y2 y3 y4 => K (.exit 0) [EV.str y0, EV.slice 0 0 y1 (some y2) 1] [some (EV.arr IntKind.u8 y3 y4)]) n) (fun y0 y1 y2 y3 y4 => K (.exit 0) [EV.str y0, EV.slice 0 0 y1 (some y2) 1] [some (EV.arr IntKind.u8 y3 y4)]) x0 x1 x2 x3 x4 x5 x6 x7
  rw [← ih]
  exact zbf.l10X.stepEq _ K x0 x1 x2 x3 x4 x5 x6 x7
theorem zbf.l10X.ok : LoopEq E_zbf (yaa Tryd.f60 0) := by
 intro L hL vs H
 have h1 : E_zbf.lp (yai (yaa Tryd.f60 0)) = some zbf.l10.entry := by kernel_rfl
 have h2 : L = zbf.l10.entry := Option.some.inj (hL.symm.trans h1)
 subst h2
 by_cases hx : ∃ (x0 : List UInt8) (x1 : List UInt8) (x2 : List UInt8) (x3 : Nat) (x4 : Nat) (x5 : Int) (x6 : Nat) (x7 : Nat → Int), vs = [EV.str x0, EV.str x1, EV.str x2, EV.slice 0 0 x3 (some x4) 1, EV.int IntKind.i64 x5] ∧ H = [some (EV.arr IntKind.u8 x6 x7)]
 ·obtain ⟨x0, x1, x2, x3, x4, x5, x6, x7, rfl, rfl⟩ := hx
  right; intro K
  exact exists_congr fun n => iff_of_eq (zbf.l10X.eq K n x0 x1 x2 x3 x4 x5 x6 x7).symm
 ·left; intro K h
  simp only [zbf.l10.entry] at h
  split at h
  ·exact hx ⟨_, _, _, _, _, _, _, _, rfl, rfl⟩
  ·exact h
theorem X_zbf.eq (a0 : List UInt8) (a1 : List UInt8) (K : EV → yae → Prop) : ybC E_zbf Tryd.f60 false [.str a0, .str a1] [] K = zbf a0 a1 (fun y0 y1 y2 => K (EV.tuple [EV.str y0, EV.str y1, EV.int IntKind.i64 y2]) []) := by
 rw [zbf.is]; exact (yam _ _ _ _ _ _).symm.trans (by kernel_rfl)
theorem X_zbf.ok : SoundE Tryd.prog gl 60 e_zbf := by
 refine ybZ (E := E_zbf) (fn := Tryd.f60) rfl tys_ok rfl (show ybF _ l_zbf from ⟨X_zbk.ok, X_zbh.ok, X_zbe.ok, X_zbp.ok, X_zbo.ok, X_zbn.ok, X_zbq.ok, trivial⟩) mixed (by kernel_rfl) (by kernel_rfl) (by kernel_rfl) 1 (by kernel_rfl) false ⟨zbf.l10X.ok, trivial⟩ ?_
 intro args H
 by_cases hx : ∃ (a0 : List UInt8) (a1 : List UInt8), args = [.str a0, .str a1] ∧ H = []
 ·obtain ⟨a0, a1, rfl, rfl⟩ := hx
  right; intro K
  exact iff_of_eq (X_zbf.eq a0 a1 K).symm
 ·left; intro K h
  simp only [e_zbf] at h
  split at h
  ·exact hx ⟨_, _, rfl, rfl⟩
  ·exact h
noncomputable def e_zbg : Entry := ⟨[none, none], false, fun args H K => match args, H with
 | [.str a0, .str a1], [] => zbg a0 a1 (fun y0 => K (EV.str y0) [])
 | _, _ => False⟩
noncomputable def l_zbg : List (Nat × Entry) := [(60, e_zbf)]
noncomputable def E_zbg : Env := ⟨look tys, look l_zbg, look [(1, zbg.l1.entry)], gl, yaM [], false⟩
theorem zbg.l1X.stepEq (R : List EV → yae → Prop) (K : Ex → List EV → yae → Prop) (x0 : List UInt8) (x1 : List UInt8) : yak (yan E_zbg (yaa Tryd.f54 0) { (LV.mk 1 [(0, 1)] 16 0 false) with nx := live (.loop (yaa Tryd.f54 0)) (LV.mk 1 [(0, 1)] 16 0 false) }) (live (.loop (yaa Tryd.f54 0)) (LV.mk 1 [(0, 1)] 16 0 false)) (LV.mk 1 [(0, 1)] 16 0 false) 0 20 R [EV.str x0, EV.str x1] [] K = zbg.l1.step (fun x0 x1 => R [EV.str x0, EV.str x1] []) (fun y0 => K (.exit 0) [EV.str y0] []) x0 x1 := (yax _ _ _ _ _ _ _ _ _ _ _).symm.trans (by kernel_rfl)
theorem zbg.l1X.eq (K : Ex → List EV → yae → Prop) : ∀ (n : Nat) (x0 : List UInt8) (x1 : List UInt8), yar E_zbg (yaa Tryd.f54 0) (LV.mk 1 [(0, 1)] 16 0 false) 0 20 K n [EV.str x0, EV.str x1] [] = zbg.l1 (fun y0 => K (.exit 0) [EV.str y0] []) n x0 x1
 | 0, _, _ => rfl
 | n + 1, x0, x1 => by
  have ih : (fun (x0 : List UInt8) (x1 : List UInt8) => yar E_zbg (yaa Tryd.f54 0) (LV.mk 1 [(0, 1)] 16 0 false) 0 20 K n [EV.str x0, EV.str x1] []) = zbg.l1 (fun y0 => K (.exit 0) [EV.str y0] []) n := by funext x0 x1; exact zbg.l1X.eq K n x0 x1
  show yak _ _ _ _ _ (yar E_zbg (yaa Tryd.f54 0) (LV.mk 1 [(0, 1)] 16 0 false) 0 20 K n) [EV.str x0, EV.str x1] [] K = zbg.l1.step (zbg.l1 (fun y0 => K (.exit 0) [EV.str y0] []) n) (fun y0 => K (.exit 0) [EV.str y0] []) x0 x1
  rw [← ih]
  exact zbg.l1X.stepEq _ K x0 x1
theorem zbg.l1X.ok : LoopEq E_zbg (yaa Tryd.f54 0) := by
 intro L hL vs H
 have h1 : E_zbg.lp (yai (yaa Tryd.f54 0)) = some zbg.l1.entry := by kernel_rfl
 have h2 : L = zbg.l1.entry := Option.some.inj (hL.symm.trans h1)
 subst h2
 by_cases hx : ∃ (x0 : List UInt8) (x1 : List UInt8), vs = [EV.str x0, EV.str x1] ∧ H = []
 ·obtain ⟨x0, x1, rfl, rfl⟩ := hx
  right; intro K
  exact exists_congr fun n => iff_of_eq (zbg.l1X.eq K n x0 x1).symm
 ·left; intro K h
  simp only [zbg.l1.entry] at h
  split at h
  ·exact hx ⟨_, _, rfl, rfl⟩
  ·exact h
theorem X_zbg.eq (a0 : List UInt8) (a1 : List UInt8) (K : EV → yae → Prop) : ybC E_zbg Tryd.f54 false [.str a0, .str a1] [] K = zbg a0 a1 (fun y0 => K (EV.str y0) []) := by
 rw [zbg.is]; exact (yam _ _ _ _ _ _).symm.trans (by kernel_rfl)
theorem X_zbg.ok : SoundE Tryd.prog gl 54 e_zbg := by
 refine ybZ (E := E_zbg) (fn := Tryd.f54) rfl tys_ok rfl (show ybF _ l_zbg from ⟨X_zbf.ok, trivial⟩) mixed (by kernel_rfl) (by kernel_rfl) (by kernel_rfl) 1 (by kernel_rfl) false ⟨zbg.l1X.ok, trivial⟩ ?_
 intro args H
 by_cases hx : ∃ (a0 : List UInt8) (a1 : List UInt8), args = [.str a0, .str a1] ∧ H = []
 ·obtain ⟨a0, a1, rfl, rfl⟩ := hx
  right; intro K
  exact iff_of_eq (X_zbg.eq a0 a1 K).symm
 ·left; intro K h
  simp only [e_zbg] at h
  split at h
  ·exact hx ⟨_, _, rfl, rfl⟩
  ·exact h
noncomputable def e_zbr : Entry := ⟨[none], false, fun args H K => match args, H with
 | [.agg [.bool a0_0, .str a0_1, .str a0_2, .int .i64 a0_3]], [] => zbr a0_0 a0_1 a0_2 a0_3 (fun y0 => K (EV.bool y0) [])
 | _, _ => False⟩
noncomputable def l_zbr : List (Nat × Entry) := [(51, e_zbj), (52, e_zbw), (53, e_zbs), (54, e_zbg)]
noncomputable def E_zbr : Env := ⟨look tys, look l_zbr, look [], gl, yaM [], false⟩
theorem X_zbr.eq (a0_0 : Bool) (a0_1 : List UInt8) (a0_2 : List UInt8) (a0_3 : Int) (K : EV → yae → Prop) : ybC E_zbr Tryd.f14 false [.agg [.bool a0_0, .str a0_1, .str a0_2, .int .i64 a0_3]] [] K = zbr a0_0 a0_1 a0_2 a0_3 (fun y0 => K (EV.bool y0) []) := by
 rw [zbr.is]; exact (yam _ _ _ _ _ _).symm.trans (by kernel_rfl)
theorem X_zbr.ok : SoundE Tryd.prog gl 14 e_zbr := by
 refine ybZ (E := E_zbr) (fn := Tryd.f14) rfl tys_ok rfl (show ybF _ l_zbr from ⟨X_zbj.ok, X_zbw.ok, X_zbs.ok, X_zbg.ok, trivial⟩) mixed (by kernel_rfl) (by kernel_rfl) (by kernel_rfl) 0 (by kernel_rfl) false trivial ?_
 intro args H
 by_cases hx : ∃ (a0_0 : Bool) (a0_1 : List UInt8) (a0_2 : List UInt8) (a0_3 : Int), args = [.agg [.bool a0_0, .str a0_1, .str a0_2, .int .i64 a0_3]] ∧ H = []
 ·obtain ⟨a0_0, a0_1, a0_2, a0_3, rfl, rfl⟩ := hx
  right; intro K
  exact iff_of_eq (X_zbr.eq a0_0 a0_1 a0_2 a0_3 K).symm
 ·left; intro K h
  simp only [e_zbr] at h
  split at h
  ·exact hx ⟨_, _, _, _, rfl, rfl⟩
  ·exact h
noncomputable def e_zag : Entry := ⟨[none], false, fun args H K => match args, H with
 | [.str a0], [] => zag a0 (fun y0 => K (EV.bool y0) [])
 | _, _ => False⟩
noncomputable def E_zag : Env := ⟨look tys, look [], look [], gl, yaM [], false⟩
theorem X_zag.eq (a0 : List UInt8) (K : EV → yae → Prop) : ybC E_zag Tryd.f47 false [.str a0] [] K = zag a0 (fun y0 => K (EV.bool y0) []) := by
 rw [zag.is]; exact (yam _ _ _ _ _ _).symm.trans (by kernel_rfl)
theorem X_zag.ok : SoundE Tryd.prog gl 47 e_zag := by
 refine ybZ (E := E_zag) (fn := Tryd.f47) rfl tys_ok rfl (show ybF _ [] from trivial) mixed (by kernel_rfl) (by kernel_rfl) (by kernel_rfl) 0 (by kernel_rfl) false trivial ?_
 intro args H
 by_cases hx : ∃ (a0 : List UInt8), args = [.str a0] ∧ H = []
 ·obtain ⟨a0, rfl, rfl⟩ := hx
  right; intro K
  exact iff_of_eq (X_zag.eq a0 K).symm
 ·left; intro K h
  simp only [e_zag] at h
  split at h
  ·exact hx ⟨_, rfl, rfl⟩
  ·exact h
noncomputable def e_zac : Entry := ⟨[none], false, fun args H K => match args, H with
 | [.agg [.bool a0_0, .str a0_1, .str a0_2, .int .i64 a0_3]], [] => zac a0_0 a0_1 a0_2 a0_3 (fun y0 => K (EV.int IntKind.i64 y0) [])
 | _, _ => False⟩
noncomputable def l_zac : List (Nat × Entry) := [(46, e_zal), (47, e_zag), (48, e_zah), (49, e_zaf), (50, e_zan)]
noncomputable def E_zac : Env := ⟨look tys, look l_zac, look [], gl, yaM [], false⟩
theorem X_zac.eq (a0_0 : Bool) (a0_1 : List UInt8) (a0_2 : List UInt8) (a0_3 : Int) (K : EV → yae → Prop) : ybC E_zac Tryd.f13 false [.agg [.bool a0_0, .str a0_1, .str a0_2, .int .i64 a0_3]] [] K = zac a0_0 a0_1 a0_2 a0_3 (fun y0 => K (EV.int IntKind.i64 y0) []) := by
 rw [zac.is]; exact (yam _ _ _ _ _ _).symm.trans (by kernel_rfl)
theorem X_zac.ok : SoundE Tryd.prog gl 13 e_zac := by
 refine ybZ (E := E_zac) (fn := Tryd.f13) rfl tys_ok rfl (show ybF _ l_zac from ⟨X_zal.ok, X_zag.ok, X_zah.ok, X_zaf.ok, X_zan.ok, trivial⟩) mixed (by kernel_rfl) (by kernel_rfl) (by kernel_rfl) 0 (by kernel_rfl) false trivial ?_
 intro args H
 by_cases hx : ∃ (a0_0 : Bool) (a0_1 : List UInt8) (a0_2 : List UInt8) (a0_3 : Int), args = [.agg [.bool a0_0, .str a0_1, .str a0_2, .int .i64 a0_3]] ∧ H = []
 ·obtain ⟨a0_0, a0_1, a0_2, a0_3, rfl, rfl⟩ := hx
  right; intro K
  exact iff_of_eq (X_zac.eq a0_0 a0_1 a0_2 a0_3 K).symm
 ·left; intro K h
  simp only [e_zac] at h
  split at h
  ·exact hx ⟨_, _, _, _, rfl, rfl⟩
  ·exact h
noncomputable def e_zaq : Entry := ⟨[none], false, fun args H K => match args, H with
 | [.str a0], [] => zaq a0 (fun y0 y1 => K (EV.tuple [EV.str y0, EV.int IntKind.i64 y1]) [])
 | _, _ => False⟩
noncomputable def l_zaq : List (Nat × Entry) := [(46, e_zal)]
noncomputable def E_zaq : Env := ⟨look tys, look l_zaq, look [(7, zaq.l7.entry)], gl, yaM [], true⟩
theorem zaq.l7X.stepEq (R : List EV → yae → Prop) (K : Ex → List EV → yae → Prop) (x0 : List UInt8) (x1 : Nat) (x2 : Int) (x3 : Int) (x4 : Nat) (x5 : Nat → Int) : yak (yan E_zaq (yaa Tryd.f85 0) { (LV.mk 16 [(0, 16)] 12 0 true) with nx := live (.loop (yaa Tryd.f85 0)) (LV.mk 16 [(0, 16)] 12 0 true) }) (live (.loop (yaa Tryd.f85 0)) (LV.mk 16 [(0, 16)] 12 0 true)) (LV.mk 16 [(0, 16)] 12 0 true) 0 47 R [EV.str x0, EV.slice 0 0 x1 none 1, EV.int IntKind.i64 x2, EV.int IntKind.i64 x3] [some (EV.arr IntKind.u8 x4 x5)] K = zaq.l7.step (fun x0 x1 x2 x3 x4 x5 => R [EV.str x0, EV.slice 0 0 x1 none 1, EV.int IntKind.i64 x2, EV.int IntKind.i64 x3] [some (EV.arr IntKind.u8 x4 x5)]) (fun y0 y1 y2 => K (.exit 0) [EV.slice 0 0 y0 none 1] [some (EV.arr IntKind.u8 y1 y2)]) x0 x1 x2 x3 x4 x5 := (yax _ _ _ _ _ _ _ _ _ _ _).symm.trans (by kernel_rfl)
theorem zaq.l7X.eq (K : Ex → List EV → yae → Prop) : ∀ (n : Nat) (x0 : List UInt8) (x1 : Nat) (x2 : Int) (x3 : Int) (x4 : Nat) (x5 : Nat → Int), yar E_zaq (yaa Tryd.f85 0) (LV.mk 16 [(0, 16)] 12 0 true) 0 47 K n [EV.str x0, EV.slice 0 0 x1 none 1, EV.int IntKind.i64 x2, EV.int IntKind.i64 x3] [some (EV.arr IntKind.u8 x4 x5)] = zaq.l7 (fun y0 y1 y2 => K (.exit 0) [EV.slice 0 0 y0 none 1] [some (EV.arr IntKind.u8 y1 y2)]) n x0 x1 x2 x3 x4 x5
 | 0, _, _, _, _, _, _ => rfl
 | n + 1, x0, x1, x2, x3, x4, x5 => by
  have ih : (fun (x0 : List UInt8) (x1 : Nat) (x2 : Int) (x3 : Int) (x4 : Nat) (x5 : Nat → Int) => yar E_zaq (yaa Tryd.f85 0) (LV.mk 16 [(0, 16)] 12 0 true) 0 47 K n [EV.str x0, EV.slice 0 0 x1 none 1, EV.int IntKind.i64 x2, EV.int IntKind.i64 x3] [some (EV.arr IntKind.u8 x4 x5)]) = zaq.l7 (fun y0 y1 y2 => K (.exit 0) [EV.slice 0 0 y0 none 1] [some (EV.arr IntKind.u8 y1 y2)]) n := by funext x0 x1 x2 x3 x4 x5; exact zaq.l7X.eq K n x0 x1 x2 x3 x4 x5
  show yak _ _ _ _ _ (yar E_zaq (yaa Tryd.f85 0) (LV.mk 16 [(0, 16)] 12 0 true) 0 47 K n) [EV.str x0, EV.slice 0 0 x1 none 1, EV.int IntKind.i64 x2, EV.int IntKind.i64 x3] [some (EV.arr IntKind.u8 x4 x5)] K = zaq.l7.step (zaq.l7 (fun y0 y1 y2 => K (.exit 0) [EV.slice 0 0 y0 none 1] [some (EV.arr IntKind.u8 y1 y2)]) n) (fun y0 y1 y2 => K (.exit 0) [EV.slice 0 0 y0 none 1] [some (EV.arr IntKind.u8 y1 y2)]) x0 x1 x2 x3 x4 x5
  rw [← ih]
  exact zaq.l7X.stepEq _ K x0 x1 x2 x3 x4 x5
theorem zaq.l7X.ok : LoopEq E_zaq (yaa Tryd.f85 0) := by
 intro L hL vs H
 have h1 : E_zaq.lp (yai (yaa Tryd.f85 0)) = some zaq.l7.entry := by kernel_rfl
 have h2 : L = zaq.l7.entry := Option.some.inj (hL.symm.trans h1)
 subst h2
 by_cases hx : ∃ (x0 : List UInt8) (x1 : Nat) (x2 : Int) (x3 : Int) (x4 : Nat) (x5 : Nat → Int), vs = [EV.str x0, EV.slice 0 0 x1 none 1, EV.int IntKind.i64 x2, EV.int IntKind.i64 x3] ∧ H = [some (EV.arr IntKind.u8 x4 x5)]
 ·obtain ⟨x0, x1, x2, x3, x4, x5, rfl, rfl⟩ := hx
  right; intro K
  exact exists_congr fun n => iff_of_eq (zaq.l7X.eq K n x0 x1 x2 x3 x4 x5).symm
 ·left; intro K h
  simp only [zaq.l7.entry] at h
  split at h
  ·exact hx ⟨_, _, _, _, _, _, rfl, rfl⟩
  ·exact h
theorem X_zaq.eq (a0 : List UInt8) (K : EV → yae → Prop) : ybC E_zaq Tryd.f85 false [.str a0] [] K = zaq a0 (fun y0 y1 => K (EV.tuple [EV.str y0, EV.int IntKind.i64 y1]) []) := by
 rw [zaq.is]; exact (yam _ _ _ _ _ _).symm.trans (by kernel_rfl)
theorem X_zaq.ok : SoundE Tryd.prog gl 85 e_zaq := by
 refine ybZ (E := E_zaq) (fn := Tryd.f85) rfl tys_ok rfl (show ybF _ l_zaq from ⟨X_zal.ok, trivial⟩) mixed (by kernel_rfl) (by kernel_rfl) (by kernel_rfl) 1 (by kernel_rfl) false ⟨zaq.l7X.ok, trivial⟩ ?_
 intro args H
 by_cases hx : ∃ (a0 : List UInt8), args = [.str a0] ∧ H = []
 ·obtain ⟨a0, rfl, rfl⟩ := hx
  right; intro K
  exact iff_of_eq (X_zaq.eq a0 K).symm
 ·left; intro K h
  simp only [e_zaq] at h
  split at h
  ·exact hx ⟨_, rfl, rfl⟩
  ·exact h
open Go.Shelf in
def lays_strconv_Itoa_ren : Go.Shelf.Ren := ⟨fun | 171 => 86 | 243 => 108 | 246 => 112 | 283 => 114 | 284 => 115 | 285 => 116 | 286 => 117 | 129 => 113 | 317 => 118 | 318 => 119 | 319 => 120 | 320 => 121 | 337 => 122 | 338 => 110 | n => n, fun | 3 => 3 | 9 => 9 | 2 => 2 | 4 => 4 | 171 => 117 | 0 => 0 | 53 => 25 | 37 => 106 | 5 => 5 | 173 => 119 | 212 => 123 | 51 => 109 | 20 => 20 | 213 => 124 | 46 => 107 | 232 => 127 | 233 => 116 | n => n, fun | 17 => 1 | 18 => 2 | 19 => 0 | n => n⟩
open Go.Shelf in
theorem lays_strconv_Itoa : Go.Proofs.LaysM.n171 Tryd.prog lays_strconv_Itoa_ren where
 mixed := by kernel_rfl
 f129 := Tryd.func113.trans (congrArg some (by kernel_rfl))
 f171 := Tryd.func86.trans (congrArg some (by kernel_rfl))
 f243 := Tryd.func108.trans (congrArg some (by kernel_rfl))
 f246 := Tryd.func112.trans (congrArg some (by kernel_rfl))
 f283 := Tryd.func114.trans (congrArg some (by kernel_rfl))
 f284 := Tryd.func115.trans (congrArg some (by kernel_rfl))
 f285 := Tryd.func116.trans (congrArg some (by kernel_rfl))
 f286 := Tryd.func117.trans (congrArg some (by kernel_rfl))
 f317 := Tryd.func118.trans (congrArg some (by kernel_rfl))
 f318 := Tryd.func119.trans (congrArg some (by kernel_rfl))
 f319 := Tryd.func120.trans (congrArg some (by kernel_rfl))
 f320 := Tryd.func121.trans (congrArg some (by kernel_rfl))
 f337 := Tryd.func122.trans (congrArg some (by kernel_rfl))
 f338 := Tryd.func110.trans (congrArg some (by kernel_rfl))
 t0 := Tryd.underlying0
 a0 := Tryd.isAgg0
 z0 := Tryd.sizeOf0
 v0 := Tryd.zeroValue0
 t2 := Tryd.underlying2
 a2 := Tryd.isAgg2
 z2 := Tryd.sizeOf2
 v2 := Tryd.zeroValue2
 t3 := Tryd.underlying3
 a3 := Tryd.isAgg3
 z3 := Tryd.sizeOf3
 v3 := Tryd.zeroValue3
 t4 := Tryd.underlying4
 a4 := Tryd.isAgg4
 z4 := Tryd.sizeOf4
 v4 := Tryd.zeroValue4
 t5 := Tryd.underlying5
 a5 := Tryd.isAgg5
 z5 := Tryd.sizeOf5
 v5 := Tryd.zeroValue5
 t9 := Tryd.underlying9
 a9 := Tryd.isAgg9
 z9 := Tryd.sizeOf9
 v9 := Tryd.zeroValue9
 t20 := Tryd.underlying20
 a20 := Tryd.isAgg20
 z20 := Tryd.sizeOf20
 v20 := Tryd.zeroValue20
 t37 := Tryd.underlying106
 a37 := Tryd.isAgg106
 z37 := Tryd.sizeOf106
 v37 := Tryd.zeroValue106
 t46 := Tryd.underlying107
 a46 := Tryd.isAgg107
 z46 := Tryd.sizeOf107
 v46 := Tryd.zeroValue107
 t51 := Tryd.underlying109
 a51 := Tryd.isAgg109
 z51 := Tryd.sizeOf109
 v51 := Tryd.zeroValue109
 t53 := Tryd.underlying25
 a53 := Tryd.isAgg25
 z53 := Tryd.sizeOf25
 v53 := Tryd.zeroValue25
 t171 := Tryd.underlying117
 a171 := Tryd.isAgg117
 z171 := Tryd.sizeOf117
 v171 := Tryd.zeroValue117
 t173 := Tryd.underlying119
 a173 := Tryd.isAgg119
 z173 := Tryd.sizeOf119
 v173 := Tryd.zeroValue119
 t212 := Tryd.underlying123
 a212 := Tryd.isAgg123
 z212 := Tryd.sizeOf123
 v212 := Tryd.zeroValue123
 t213 := Tryd.underlying124
 a213 := Tryd.isAgg124
 z213 := Tryd.sizeOf124
 t232 := Tryd.underlying127
 a232 := Tryd.isAgg127
 z232 := Tryd.sizeOf127
 v232 := Tryd.zeroValue127
 t233 := Tryd.underlying116
 a233 := Tryd.isAgg116
 z233 := Tryd.sizeOf116
 v233 := Tryd.zeroValue116
 g17 := by kernel_rfl
 g18 := by kernel_rfl
 g19 := by kernel_rfl
 i0 := by kernel_rfl
 i2 := by kernel_rfl
 i3 := by kernel_rfl
 i4 := by kernel_rfl
 i5 := by kernel_rfl
 i9 := by kernel_rfl
 i20 := by kernel_rfl
 i37 := by kernel_rfl
 i46 := by kernel_rfl
 i51 := by kernel_rfl
 i53 := by kernel_rfl
 i171 := by kernel_rfl
 i173 := by kernel_rfl
 i212 := by kernel_rfl
 i232 := by kernel_rfl
 i233 := by kernel_rfl
 m17 := by kernel_rfl
 m18 := by kernel_rfl
 m19 := by kernel_rfl
theorem X_zbx.ok : SoundE Tryd.prog gl 86 ymC := yo7 (g := 1) lays_strconv_Itoa (by kernel_rfl) (by kernel_rfl) (by kernel_rfl) ⟨_, Tryd.func86, by kernel_rfl, by kernel_rfl⟩
noncomputable def e_zae : Entry := ⟨[none], false, fun args H K => match args, H with
 | [.agg [.bool a0_0, .str a0_1, .str a0_2, .int .i64 a0_3]], [] => zae a0_0 a0_1 a0_2 a0_3 (fun y0 y1 => K (EV.tuple [EV.str y0, EV.int IntKind.i64 y1]) [])
 | _, _ => False⟩
noncomputable def l_zae : List (Nat × Entry) := [(13, e_zac), (85, e_zaq), (86, ymC)]
noncomputable def E_zae : Env := ⟨look tys, look l_zae, look [], gl, yaM [], false⟩
theorem X_zae.eq (a0_0 : Bool) (a0_1 : List UInt8) (a0_2 : List UInt8) (a0_3 : Int) (K : EV → yae → Prop) : ybC E_zae Tryd.f44 false [.agg [.bool a0_0, .str a0_1, .str a0_2, .int .i64 a0_3]] [] K = zae a0_0 a0_1 a0_2 a0_3 (fun y0 y1 => K (EV.tuple [EV.str y0, EV.int IntKind.i64 y1]) []) := by
 rw [zae.is]; exact (yam _ _ _ _ _ _).symm.trans (by kernel_rfl)
theorem X_zae.ok : SoundE Tryd.prog gl 44 e_zae := by
 refine ybZ (E := E_zae) (fn := Tryd.f44) rfl tys_ok rfl (show ybF _ l_zae from ⟨X_zac.ok, X_zaq.ok, X_zbx.ok, trivial⟩) mixed (by kernel_rfl) (by kernel_rfl) (by kernel_rfl) 0 (by kernel_rfl) false trivial ?_
 intro args H
 by_cases hx : ∃ (a0_0 : Bool) (a0_1 : List UInt8) (a0_2 : List UInt8) (a0_3 : Int), args = [.agg [.bool a0_0, .str a0_1, .str a0_2, .int .i64 a0_3]] ∧ H = []
 ·obtain ⟨a0_0, a0_1, a0_2, a0_3, rfl, rfl⟩ := hx
  right; intro K
  exact iff_of_eq (X_zae.eq a0_0 a0_1 a0_2 a0_3 K).symm
 ·left; intro K h
  simp only [e_zae] at h
  split at h
  ·exact hx ⟨_, _, _, _, rfl, rfl⟩
  ·exact h
noncomputable def e_zbl : Entry := ⟨[none], false, fun args H K => match args, H with
 | [.str a0], [] => zbl a0 (fun y0 => K (EV.str y0) [])
 | _, _ => False⟩
noncomputable def E_zbl : Env := ⟨look tys, look [], look [(5, zbl.l5.entry)], gl, yaM [], true⟩
theorem zbl.l5X.stepEq (R : List EV → yae → Prop) (K : Ex → List EV → yae → Prop) (x0 : List UInt8) (x1 : Nat) (x2 : Int) (x3 : Nat) (x4 : Nat → Int) : yak (yan E_zbl (yaa Tryd.f87 0) { (LV.mk 8 [(0, 8)] 4 0 true) with nx := live (.loop (yaa Tryd.f87 0)) (LV.mk 8 [(0, 8)] 4 0 true) }) (live (.loop (yaa Tryd.f87 0)) (LV.mk 8 [(0, 8)] 4 0 true)) (LV.mk 8 [(0, 8)] 4 0 true) 0 45 R [EV.str x0, EV.slice 0 0 x1 none 1, EV.int IntKind.i64 x2] [some (EV.arr IntKind.u8 x3 x4)] K = zbl.l5.step (fun x0 x1 x2 x3 x4 => R [EV.str x0, EV.slice 0 0 x1 none 1, EV.int IntKind.i64 x2] [some (EV.arr IntKind.u8 x3 x4)]) (fun y0 y1 y2 => K (.exit 0) [EV.slice 0 0 y0 none 1] [some (EV.arr IntKind.u8 y1 y2)]) x0 x1 x2 x3 x4 := (yax _ _ _ _ _ _ _ _ _ _ _).symm.trans (by kernel_rfl)
theorem zbl.l5X.eq (K : Ex → List EV → yae → Prop) : ∀ (n : Nat) (x0 : List UInt8) (x1 : Nat) (x2 : Int) (x3 : Nat) (x4 : Nat → Int), yar E_zbl (yaa Tryd.f87 0) (LV.mk 8 [(0, 8)] 4 0 true) 0 45 K n [EV.str x0, EV.slice 0 0 x1 none 1, EV.int IntKind.i64 x2] [some (EV.arr IntKind.u8 x3 x4)] = zbl.l5 (fun y0 y1 y2 => K (.exit 0) [EV.slice 0 0 y0 none 1] [some (EV.arr IntKind.u8 y1 y2)]) n x0 x1 x2 x3 x4
 | 0, _, _, _, _, _ => rfl
 | n + 1, x0, x1, x2, x3, x4 => by
  have ih : (fun (x0 : List UInt8) (x1 : Nat) (x2 : Int) (x3 : Nat) (x4 : Nat → Int) => yar E_zbl (yaa Tryd.f87 0) (LV.mk 8 [(0, 8)] 4 0 true) 0 45 K n [EV.str x0, EV.slice 0 0 x1 none 1, EV.int IntKind.i64 x2] [some (EV.arr IntKind.u8 x3 x4)]) = zbl.l5 (fun y0 y1 y2 => K (.exit 0) [EV.slice 0 0 y0 none 1] [some (EV.arr IntKind.u8 y1 y2)]) n := by funext x0 x1 x2 x3 x4; exact zbl.l5X.eq K n x0 x1 x2 x3 x4
  show yak _ _ _ _ _ (yar E_zbl (yaa Tryd.f87 0) (LV.mk 8 [(0, 8)] 4 0 true) 0 45 K n) [EV.str x0, EV.slice 0 0 x1 none 1, EV.int IntKind.i64 x2] [some (EV.arr IntKind.u8 x3 x4)] K = zbl.l5.step (zbl.l5 (fun y0 y1 y2 => K (.exit 0) [EV.slice 0 0 y0 none 1] [some (EV.arr IntKind.u8 y1 y2)]) n) (fun y0 y1 y2 => K (.exit 0) [EV.slice 0 0 y0 none 1] [some (EV.arr IntKind.u8 y1 y2)]) x0 x1 x2 x3 x4
  rw [← ih]
  exact zbl.l5X.stepEq _ K x0 x1 x2 x3 x4
theorem zbl.l5X.ok : LoopEq E_zbl (yaa Tryd.f87 0) := by
 intro L hL vs H
 have h1 : E_zbl.lp (yai (yaa Tryd.f87 0)) = some zbl.l5.entry := by kernel_rfl
 have h2 : L = zbl.l5.entry := Option.some.inj (hL.symm.trans h1)
 subst h2
 by_cases hx : ∃ (x0 : List UInt8) (x1 : Nat) (x2 : Int) (x3 : Nat) (x4 : Nat → Int), vs = [EV.str x0, EV.slice 0 0 x1 none 1, EV.int IntKind.i64 x2] ∧ H = [some (EV.arr IntKind.u8 x3 x4)]
 ·obtain ⟨x0, x1, x2, x3, x4, rfl, rfl⟩ := hx
  right; intro K
  exact exists_congr fun n => iff_of_eq (zbl.l5X.eq K n x0 x1 x2 x3 x4).symm
 ·left; intro K h
  simp only [zbl.l5.entry] at h
  split at h
  ·exact hx ⟨_, _, _, _, _, rfl, rfl⟩
  ·exact h
theorem X_zbl.eq (a0 : List UInt8) (K : EV → yae → Prop) : ybC E_zbl Tryd.f87 false [.str a0] [] K = zbl a0 (fun y0 => K (EV.str y0) []) := by
 rw [zbl.is]; exact (yam _ _ _ _ _ _).symm.trans (by kernel_rfl)
theorem X_zbl.ok : SoundE Tryd.prog gl 87 e_zbl := by
 refine ybZ (E := E_zbl) (fn := Tryd.f87) rfl tys_ok rfl (show ybF _ [] from trivial) mixed (by kernel_rfl) (by kernel_rfl) (by kernel_rfl) 1 (by kernel_rfl) false ⟨zbl.l5X.ok, trivial⟩ ?_
 intro args H
 by_cases hx : ∃ (a0 : List UInt8), args = [.str a0] ∧ H = []
 ·obtain ⟨a0, rfl, rfl⟩ := hx
  right; intro K
  exact iff_of_eq (X_zbl.eq a0 K).symm
 ·left; intro K h
  simp only [e_zbl] at h
  split at h
  ·exact hx ⟨_, rfl, rfl⟩
  ·exact h
noncomputable def e_zbv : Entry := ⟨[none], false, fun args H K => match args, H with
 | [.int .i64 a0], [] => zbv a0 (fun y0 => K (EV.str y0) [])
 | _, _ => False⟩
noncomputable def E_zbv : Env := ⟨look tys, look [], look [(4, zbv.l4.entry)], gl, yaM [], false⟩
theorem zbv.l4X.stepEq (R : List EV → yae → Prop) (K : Ex → List EV → yae → Prop) (x0 : Int) (x1 : List UInt8) : yak (yan E_zbv (yaa Tryd.f88 0) { (LV.mk 9 [(0, 9)] 4 0 false) with nx := live (.loop (yaa Tryd.f88 0)) (LV.mk 9 [(0, 9)] 4 0 false) }) (live (.loop (yaa Tryd.f88 0)) (LV.mk 9 [(0, 9)] 4 0 false)) (LV.mk 9 [(0, 9)] 4 0 false) 0 28 R [EV.int IntKind.i64 x0, EV.str x1] [] K = zbv.l4.step (fun x0 x1 => R [EV.int IntKind.i64 x0, EV.str x1] []) (fun y0 y1 => K (.exit 0) [EV.int IntKind.i64 y0, EV.str y1] []) x0 x1 := (yax _ _ _ _ _ _ _ _ _ _ _).symm.trans (by kernel_rfl)
theorem zbv.l4X.eq (K : Ex → List EV → yae → Prop) : ∀ (n : Nat) (x0 : Int) (x1 : List UInt8), yar E_zbv (yaa Tryd.f88 0) (LV.mk 9 [(0, 9)] 4 0 false) 0 28 K n [EV.int IntKind.i64 x0, EV.str x1] [] = zbv.l4 (fun y0 y1 => K (.exit 0) [EV.int IntKind.i64 y0, EV.str y1] []) n x0 x1
 | 0, _, _ => rfl
 | n + 1, x0, x1 => by
  have ih : (fun (x0 : Int) (x1 : List UInt8) => yar E_zbv (yaa Tryd.f88 0) (LV.mk 9 [(0, 9)] 4 0 false) 0 28 K n [EV.int IntKind.i64 x0, EV.str x1] []) = zbv.l4 (fun y0 y1 => K (.exit 0) [EV.int IntKind.i64 y0, EV.str y1] []) n := by funext x0 x1; exact zbv.l4X.eq K n x0 x1
  show yak _ _ _ _ _ (yar E_zbv (yaa Tryd.f88 0) (LV.mk 9 [(0, 9)] 4 0 false) 0 28 K n) [EV.int IntKind.i64 x0, EV.str x1] [] K = zbv.l4.step (zbv.l4 (fun y0 y1 => K (.exit 0) [EV.int IntKind.i64 y0, EV.str y1] []) n) (fun y0 y1 => K (.exit 0) [EV.int IntKind.i64 y0, EV.str y1] []) x0 x1
  rw [← ih]
  exact zbv.l4X.stepEq _ K x0 x1
theorem zbv.l4X.ok : LoopEq E_zbv (yaa Tryd.f88 0) := by
 intro L hL vs H
 have h1 : E_zbv.lp (yai (yaa Tryd.f88 0)) = some zbv.l4.entry := by kernel_rfl
 have h2 : L = zbv.l4.entry := Option.some.inj (hL.symm.trans h1)
 subst h2
 by_cases hx : ∃ (x0 : Int) (x1 : List UInt8), vs = [EV.int IntKind.i64 x0, EV.str x1] ∧ H = []
 ·obtain ⟨x0, x1, rfl, rfl⟩ := hx
  right; intro K
  exact exists_congr fun n => iff_of_eq (zbv.l4X.eq K n x0 x1).symm
 ·left; intro K h
  simp only [zbv.l4.entry] at h
  split at h
  ·exact hx ⟨_, _, rfl, rfl⟩
  ·exact h
theorem X_zbv.eq (a0 : Int) (K : EV → yae → Prop) : ybC E_zbv Tryd.f88 false [.int .i64 a0] [] K = zbv a0 (fun y0 => K (EV.str y0) []) := by
 rw [zbv.is]; exact (yam _ _ _ _ _ _).symm.trans (by kernel_rfl)
theorem X_zbv.ok : SoundE Tryd.prog gl 88 e_zbv := by
 refine ybZ (E := E_zbv) (fn := Tryd.f88) rfl tys_ok rfl (show ybF _ [] from trivial) mixed (by kernel_rfl) (by kernel_rfl) (by kernel_rfl) 1 (by kernel_rfl) false ⟨zbv.l4X.ok, trivial⟩ ?_
 intro args H
 by_cases hx : ∃ (a0 : Int), args = [.int .i64 a0] ∧ H = []
 ·obtain ⟨a0, rfl, rfl⟩ := hx
  right; intro K
  exact iff_of_eq (X_zbv.eq a0 K).symm
 ·left; intro K h
  simp only [e_zbv] at h
  split at h
  ·exact hx ⟨_, rfl, rfl⟩
  ·exact h
noncomputable def e_zbu : Entry := ⟨[none], false, fun args H K => match args, H with
 | [.int .i64 a0], [] => zbu a0 (fun y0 => K (EV.str y0) [])
 | _, _ => False⟩
noncomputable def l_zbu : List (Nat × Entry) := [(88, e_zbv)]
noncomputable def E_zbu : Env := ⟨look tys, look l_zbu, look [(4, zbu.l4.entry)], gl, yaM [], false⟩
theorem zbu.l4X.stepEq (R : List EV → yae → Prop) (K : Ex → List EV → yae → Prop) (x0 : Int) (x1 : List UInt8) : yak (yan E_zbu (yaa Tryd.f88 0) { (LV.mk 9 [(0, 9)] 4 0 false) with nx := live (.loop (yaa Tryd.f88 0)) (LV.mk 9 [(0, 9)] 4 0 false) }) (live (.loop (yaa Tryd.f88 0)) (LV.mk 9 [(0, 9)] 4 0 false)) (LV.mk 9 [(0, 9)] 4 0 false) 0 28 R [EV.int IntKind.i64 x0, EV.str x1] [] K = zbu.l4.step (fun x0 x1 => R [EV.int IntKind.i64 x0, EV.str x1] []) (fun y0 y1 => K (.exit 0) [EV.int IntKind.i64 y0, EV.str y1] []) x0 x1 := (yax _ _ _ _ _ _ _ _ _ _ _).symm.trans (by kernel_rfl)
theorem zbu.l4X.eq (K : Ex → List EV → yae → Prop) : ∀ (n : Nat) (x0 : Int) (x1 : List UInt8), yar E_zbu (yaa Tryd.f88 0) (LV.mk 9 [(0, 9)] 4 0 false) 0 28 K n [EV.int IntKind.i64 x0, EV.str x1] [] = zbu.l4 (fun y0 y1 => K (.exit 0) [EV.int IntKind.i64 y0, EV.str y1] []) n x0 x1
 | 0, _, _ => rfl
 | n + 1, x0, x1 => by
  have ih : (fun (x0 : Int) (x1 : List UInt8) => yar E_zbu (yaa Tryd.f88 0) (LV.mk 9 [(0, 9)] 4 0 false) 0 28 K n [EV.int IntKind.i64 x0, EV.str x1] []) = zbu.l4 (fun y0 y1 => K (.exit 0) [EV.int IntKind.i64 y0, EV.str y1] []) n := by funext x0 x1; exact zbu.l4X.eq K n x0 x1
  show yak _ _ _ _ _ (yar E_zbu (yaa Tryd.f88 0) (LV.mk 9 [(0, 9)] 4 0 false) 0 28 K n) [EV.int IntKind.i64 x0, EV.str x1] [] K = zbu.l4.step (zbu.l4 (fun y0 y1 => K (.exit 0) [EV.int IntKind.i64 y0, EV.str y1] []) n) (fun y0 y1 => K (.exit 0) [EV.int IntKind.i64 y0, EV.str y1] []) x0 x1
  rw [← ih]
  exact zbu.l4X.stepEq _ K x0 x1
theorem zbu.l4X.ok : LoopEq E_zbu (yaa Tryd.f88 0) := by
 intro L hL vs H
 have h1 : E_zbu.lp (yai (yaa Tryd.f88 0)) = some zbu.l4.entry := by kernel_rfl
 have h2 : L = zbu.l4.entry := Option.some.inj (hL.symm.trans h1)
 subst h2
 by_cases hx : ∃ (x0 : Int) (x1 : List UInt8), vs = [EV.int IntKind.i64 x0, EV.str x1] ∧ H = []
 ·obtain ⟨x0, x1, rfl, rfl⟩ := hx
  right; intro K
  exact exists_congr fun n => iff_of_eq (zbu.l4X.eq K n x0 x1).symm
 ·left; intro K h
  simp only [zbu.l4.entry] at h
  split at h
  ·exact hx ⟨_, _, rfl, rfl⟩
  ·exact h
theorem X_zbu.eq (a0 : Int) (K : EV → yae → Prop) : ybC E_zbu Tryd.f88 false [.int .i64 a0] [] K = zbu a0 (fun y0 => K (EV.str y0) []) := by
 rw [zbu.is]; exact (yam _ _ _ _ _ _).symm.trans (by kernel_rfl)
theorem X_zbu.ok : SoundE Tryd.prog gl 88 e_zbu := by
 refine ybZ (E := E_zbu) (fn := Tryd.f88) rfl tys_ok rfl (show ybF _ l_zbu from ⟨X_zbv.ok, trivial⟩) mixed (by kernel_rfl) (by kernel_rfl) (by kernel_rfl) 1 (by kernel_rfl) false ⟨zbu.l4X.ok, trivial⟩ ?_
 intro args H
 by_cases hx : ∃ (a0 : Int), args = [.int .i64 a0] ∧ H = []
 ·obtain ⟨a0, rfl, rfl⟩ := hx
  right; intro K
  exact iff_of_eq (X_zbu.eq a0 K).symm
 ·left; intro K h
  simp only [e_zbu] at h
  split at h
  ·exact hx ⟨_, rfl, rfl⟩
  ·exact h
noncomputable def e_zbt : Entry := ⟨[none], false, fun args H K => match args, H with
 | [.agg [.bool a0_0, .str a0_1, .str a0_2, .int .i64 a0_3]], [] => zbt a0_0 a0_1 a0_2 a0_3 (fun y0 => K (EV.str y0) [])
 | _, _ => False⟩
noncomputable def l_zbt : List (Nat × Entry) := [(87, e_zbl), (88, e_zbu)]
noncomputable def E_zbt : Env := ⟨look tys, look l_zbt, look [], gl, yaM [], false⟩
theorem X_zbt.eq (a0_0 : Bool) (a0_1 : List UInt8) (a0_2 : List UInt8) (a0_3 : Int) (K : EV → yae → Prop) : ybC E_zbt Tryd.f45 false [.agg [.bool a0_0, .str a0_1, .str a0_2, .int .i64 a0_3]] [] K = zbt a0_0 a0_1 a0_2 a0_3 (fun y0 => K (EV.str y0) []) := by
 rw [zbt.is]; exact (yam _ _ _ _ _ _).symm.trans (by kernel_rfl)
theorem X_zbt.ok : SoundE Tryd.prog gl 45 e_zbt := by
 refine ybZ (E := E_zbt) (fn := Tryd.f45) rfl tys_ok rfl (show ybF _ l_zbt from ⟨X_zbl.ok, X_zbu.ok, trivial⟩) mixed (by kernel_rfl) (by kernel_rfl) (by kernel_rfl) 0 (by kernel_rfl) false trivial ?_
 intro args H
 by_cases hx : ∃ (a0_0 : Bool) (a0_1 : List UInt8) (a0_2 : List UInt8) (a0_3 : Int), args = [.agg [.bool a0_0, .str a0_1, .str a0_2, .int .i64 a0_3]] ∧ H = []
 ·obtain ⟨a0_0, a0_1, a0_2, a0_3, rfl, rfl⟩ := hx
  right; intro K
  exact iff_of_eq (X_zbt.eq a0_0 a0_1 a0_2 a0_3 K).symm
 ·left; intro K h
  simp only [e_zbt] at h
  split at h
  ·exact hx ⟨_, _, _, _, rfl, rfl⟩
  ·exact h
noncomputable def e_zai : Entry := ⟨[none], false, fun args H K => match args, H with
 | [.agg [.bool a0_0, .str a0_1, .str a0_2, .int .i64 a0_3]], [] => zai a0_0 a0_1 a0_2 a0_3 (fun y0 => K (EV.bool y0) [])
 | _, _ => False⟩
noncomputable def l_zai : List (Nat × Entry) := [(11, e_zak), (12, e_zaj), (14, e_zbr), (44, e_zae), (45, e_zbt)]
noncomputable def E_zai : Env := ⟨look tys, look l_zai, look [], gl, yaM [], false⟩
theorem X_zai.eq (a0_0 : Bool) (a0_1 : List UInt8) (a0_2 : List UInt8) (a0_3 : Int) (K : EV → yae → Prop) : ybC E_zai Tryd.f9 false [.agg [.bool a0_0, .str a0_1, .str a0_2, .int .i64 a0_3]] [] K = zai a0_0 a0_1 a0_2 a0_3 (fun y0 => K (EV.bool y0) []) := by
 rw [zai.is]; exact (yam _ _ _ _ _ _).symm.trans (by kernel_rfl)
theorem X_zai.ok : SoundE Tryd.prog gl 9 e_zai := by
 refine ybZ (E := E_zai) (fn := Tryd.f9) rfl tys_ok rfl (show ybF _ l_zai from ⟨X_zak.ok, X_zaj.ok, X_zbr.ok, X_zae.ok, X_zbt.ok, trivial⟩) mixed (by kernel_rfl) (by kernel_rfl) (by kernel_rfl) 0 (by kernel_rfl) false trivial ?_
 intro args H
 by_cases hx : ∃ (a0_0 : Bool) (a0_1 : List UInt8) (a0_2 : List UInt8) (a0_3 : Int), args = [.agg [.bool a0_0, .str a0_1, .str a0_2, .int .i64 a0_3]] ∧ H = []
 ·obtain ⟨a0_0, a0_1, a0_2, a0_3, rfl, rfl⟩ := hx
  right; intro K
  exact iff_of_eq (X_zai.eq a0_0 a0_1 a0_2 a0_3 K).symm
 ·left; intro K h
  simp only [e_zai] at h
  split at h
  ·exact hx ⟨_, _, _, _, rfl, rfl⟩
  ·exact h
end Go.Ev.S
