/- The functions of the seat: that the evaluator has them as they are. -/
import Derived.Test.YtdnndfaojopnbaaProg
import Derived.Test.YtdnndfaojopnbaaEvC
import Derived.Test.YtdnndfaojopnbaaEvD
import Derived.Test.YtdnndfaojopnbaaDA
import Derived.KernelRfl
import Derived.Test.YtdnndfaojopnbaaLA
import Derived.Shelf.Abstract
import Derived.WalkKit
import Derived.OwnWalkIn
import Derived.TacticsInMore
import Derived.LoopIn
set_option maxRecDepth 100000
set_option linter.unusedVariables false
set_option linter.unusedSimpArgs false
namespace Go.Ev.S
open Go Go.Proofs Go.Ev
def tys : List (Nat × TI) := [
  (1, ⟨.func, 1, 8, .nilFunc⟩),
  (2, ⟨.int .i64, 1, 8, .int .i64 0⟩),
  (3, ⟨.int .i64, 1, 8, .int .i64 0⟩),
  (4, ⟨.bool, 1, 1, .bool false⟩),
  (5, ⟨.int .u8, 1, 1, .int .u8 0⟩),
  (6, ⟨.int .u8, 1, 1, .int .u8 0⟩),
  (7, ⟨.struct [(0, 2), (1, 3), (2, 4), (3, 6)], 4, 24, .agg [.int .i64 0, .int .i64 0, .bool false, .int .u8 0]⟩),
  (8, ⟨.struct [(0, 2), (1, 3), (2, 4), (3, 6)], 4, 24, .agg [.int .i64 0, .int .i64 0, .bool false, .int .u8 0]⟩),
  (9, ⟨.str, 1, 16, .str []⟩),
  (10, ⟨.str, 1, 16, .str []⟩),
  (11, ⟨.str, 1, 16, .str []⟩),
  (12, ⟨.int .u64, 1, 8, .int .u64 0⟩),
  (15, ⟨.ptr, 1, 8, .nilPtr⟩),
  (16, ⟨.ptr, 1, 8, .nilPtr⟩),
  (17, ⟨.ptr, 1, 8, .nilPtr⟩),
  (20, ⟨.iface, 1, 16, .nilIface⟩),
  (21, ⟨.int .i32, 1, 4, .int .i32 0⟩),
  (22, ⟨.int .u8, 1, 1, .int .u8 0⟩),
  (23, ⟨.int .u8, 1, 1, .int .u8 0⟩),
  (24, ⟨.int .u64, 1, 8, .int .u64 0⟩),
  (25, ⟨.struct [(0, 24), (1, 24)], 2, 16, .agg [.int .u64 0, .int .u64 0]⟩),
  (26, ⟨.struct [(0, 24), (1, 24)], 2, 16, .agg [.int .u64 0, .int .u64 0]⟩),
  (27, ⟨.int .i64, 1, 8, .int .i64 0⟩),
  (28, ⟨.func, 1, 8, .nilFunc⟩),
  (29, ⟨.func, 1, 8, .nilFunc⟩),
  (30, ⟨.func, 1, 8, .nilFunc⟩),
  (31, ⟨.func, 1, 8, .nilFunc⟩),
  (32, ⟨.func, 1, 8, .nilFunc⟩),
  (33, ⟨.func, 1, 8, .nilFunc⟩),
  (34, ⟨.func, 1, 8, .nilFunc⟩),
  (35, ⟨.func, 1, 8, .nilFunc⟩),
  (37, ⟨.func, 1, 8, .nilFunc⟩),
  (39, ⟨.func, 1, 8, .nilFunc⟩),
  (41, ⟨.func, 1, 8, .nilFunc⟩),
  (43, ⟨.func, 1, 8, .nilFunc⟩),
  (44, ⟨.slice 22, 1, 24, .nilSlice⟩),
  (45, ⟨.func, 1, 8, .nilFunc⟩),
  (46, ⟨.func, 1, 8, .nilFunc⟩),
  (47, ⟨.func, 1, 8, .nilFunc⟩),
  (48, ⟨.func, 1, 8, .nilFunc⟩),
  (49, ⟨.func, 1, 8, .nilFunc⟩),
  (50, ⟨.func, 1, 8, .nilFunc⟩),
  (51, ⟨.func, 1, 8, .nilFunc⟩),
  (52, ⟨.func, 1, 8, .nilFunc⟩),
  (54, ⟨.func, 1, 8, .nilFunc⟩),
  (55, ⟨.func, 1, 8, .nilFunc⟩),
  (56, ⟨.func, 1, 8, .nilFunc⟩),
  (57, ⟨.func, 1, 8, .nilFunc⟩),
  (58, ⟨.func, 1, 8, .nilFunc⟩),
  (59, ⟨.func, 1, 8, .nilFunc⟩),
  (60, ⟨.slice 26, 1, 24, .nilSlice⟩),
  (61, ⟨.array 6 24, 6, 48, .arr .u64 6 (fun _ => 0)⟩),
  (62, ⟨.array 6 24, 6, 48, .arr .u64 6 (fun _ => 0)⟩),
  (64, ⟨.func, 1, 8, .nilFunc⟩),
  (65, ⟨.func, 1, 8, .nilFunc⟩),
  (66, ⟨.func, 1, 8, .nilFunc⟩),
  (67, ⟨.func, 1, 8, .nilFunc⟩),
  (68, ⟨.array 2 22, 2, 2, .arr .u8 2 (fun _ => 0)⟩),
  (69, ⟨.func, 1, 8, .nilFunc⟩),
  (70, ⟨.func, 1, 8, .nilFunc⟩),
  (71, ⟨.func, 1, 8, .nilFunc⟩),
  (73, ⟨.func, 1, 8, .nilFunc⟩),
  (74, ⟨.int .u64, 1, 8, .int .u64 0⟩),
  (75, ⟨.func, 1, 8, .nilFunc⟩),
  (76, ⟨.array 4 22, 4, 4, .arr .u8 4 (fun _ => 0)⟩),
  (77, ⟨.func, 1, 8, .nilFunc⟩),
  (78, ⟨.func, 1, 8, .nilFunc⟩),
  (79, ⟨.func, 1, 8, .nilFunc⟩),
  (80, ⟨.func, 1, 8, .nilFunc⟩),
  (81, ⟨.func, 1, 8, .nilFunc⟩),
  (82, ⟨.func, 1, 8, .nilFunc⟩),
  (83, ⟨.slice 3, 1, 24, .nilSlice⟩),
  (84, ⟨.func, 1, 8, .nilFunc⟩),
  (85, ⟨.func, 1, 8, .nilFunc⟩),
  (87, ⟨.func, 1, 8, .nilFunc⟩),
  (88, ⟨.struct [(0, 3), (1, 3), (2, 3), (3, 9)], 4, 40, .agg [.int .i64 0, .int .i64 0, .int .i64 0, .str []]⟩),
  (89, ⟨.array 4 88, 16, 160, .agg [.agg [.int .i64 0, .int .i64 0, .int .i64 0, .str []], .agg [.int .i64 0, .int .i64 0, .int .i64 0, .str []], .agg [.int .i64 0, .int .i64 0, .int .i64 0, .str []], .agg [.int .i64 0, .int .i64 0, .int .i64 0, .str []]]⟩),
  (90, ⟨.func, 1, 8, .nilFunc⟩),
  (92, ⟨.func, 1, 8, .nilFunc⟩),
  (93, ⟨.array 4 26, 8, 64, .agg [.agg [.int .u64 0, .int .u64 0], .agg [.int .u64 0, .int .u64 0], .agg [.int .u64 0, .int .u64 0], .agg [.int .u64 0, .int .u64 0]]⟩),
  (94, ⟨.func, 1, 8, .nilFunc⟩),
  (95, ⟨.func, 1, 8, .nilFunc⟩),
  (98, ⟨.array 0 16, 0, 0, .agg []⟩),
  (101, ⟨.func, 1, 8, .nilFunc⟩),
  (102, ⟨.int .u32, 1, 4, .int .u32 0⟩),
  (103, ⟨.int .u8, 1, 1, .int .u8 0⟩),
  (104, ⟨.int .u8, 1, 1, .int .u8 0⟩),
  (105, ⟨.func, 1, 8, .nilFunc⟩),
  (106, ⟨.ptr, 1, 8, .nilPtr⟩),
  (107, ⟨.int .i32, 1, 4, .int .i32 0⟩),
  (108, ⟨.int .i32, 1, 4, .int .i32 0⟩)]
theorem tys_ok : AllL (OkTI Try.prog) tys :=
  ⟨.of (by kernel_rfl) (by kernel_rfl), .of (by kernel_rfl) (by kernel_rfl), .of (by kernel_rfl) (by kernel_rfl), .of (by kernel_rfl) (by kernel_rfl), .of (by kernel_rfl) (by kernel_rfl), .of (by kernel_rfl) (by kernel_rfl), .of (by kernel_rfl) (by kernel_rfl), .of (by kernel_rfl) (by kernel_rfl), .of (by kernel_rfl) (by kernel_rfl), .of (by kernel_rfl) (by kernel_rfl), .of (by kernel_rfl) (by kernel_rfl), .of (by kernel_rfl) (by kernel_rfl), .of (by kernel_rfl) (by kernel_rfl), .of (by kernel_rfl) (by kernel_rfl), .of (by kernel_rfl) (by kernel_rfl), .of (by kernel_rfl) (by kernel_rfl), .of (by kernel_rfl) (by kernel_rfl), .of (by kernel_rfl) (by kernel_rfl), .of (by kernel_rfl) (by kernel_rfl), .of (by kernel_rfl) (by kernel_rfl), .of (by kernel_rfl) (by kernel_rfl), .of (by kernel_rfl) (by kernel_rfl), .of (by kernel_rfl) (by kernel_rfl), .of (by kernel_rfl) (by kernel_rfl), .of (by kernel_rfl) (by kernel_rfl), .of (by kernel_rfl) (by kernel_rfl), .of (by kernel_rfl) (by kernel_rfl), .of (by kernel_rfl) (by kernel_rfl), .of (by kernel_rfl) (by kernel_rfl), .of (by kernel_rfl) (by kernel_rfl), .of (by kernel_rfl) (by kernel_rfl), .of (by kernel_rfl) (by kernel_rfl), .of (by kernel_rfl) (by kernel_rfl), .of (by kernel_rfl) (by kernel_rfl), .of (by kernel_rfl) (by kernel_rfl), .of (by kernel_rfl) (by kernel_rfl), .of (by kernel_rfl) (by kernel_rfl), .of (by kernel_rfl) (by kernel_rfl), .of (by kernel_rfl) (by kernel_rfl), .of (by kernel_rfl) (by kernel_rfl), .of (by kernel_rfl) (by kernel_rfl), .of (by kernel_rfl) (by kernel_rfl), .of (by kernel_rfl) (by kernel_rfl), .of (by kernel_rfl) (by kernel_rfl), .of (by kernel_rfl) (by kernel_rfl), .of (by kernel_rfl) (by kernel_rfl), .of (by kernel_rfl) (by kernel_rfl), .of (by kernel_rfl) (by kernel_rfl), .of (by kernel_rfl) (by kernel_rfl), .of (by kernel_rfl) (by kernel_rfl), .of (by kernel_rfl) (by kernel_rfl), .of (by kernel_rfl) (by kernel_rfl), .of (by kernel_rfl) (by kernel_rfl), .of (by kernel_rfl) (by kernel_rfl), .of (by kernel_rfl) (by kernel_rfl), .of (by kernel_rfl) (by kernel_rfl), .of (by kernel_rfl) (by kernel_rfl), .of (by kernel_rfl) (by kernel_rfl), .of (by kernel_rfl) (by kernel_rfl), .of (by kernel_rfl) (by kernel_rfl), .of (by kernel_rfl) (by kernel_rfl), .of (by kernel_rfl) (by kernel_rfl), .of (by kernel_rfl) (by kernel_rfl), .of (by kernel_rfl) (by kernel_rfl), .of (by kernel_rfl) (by kernel_rfl), .of (by kernel_rfl) (by kernel_rfl), .of (by kernel_rfl) (by kernel_rfl), .of (by kernel_rfl) (by kernel_rfl), .of (by kernel_rfl) (by kernel_rfl), .of (by kernel_rfl) (by kernel_rfl), .of (by kernel_rfl) (by kernel_rfl), .of (by kernel_rfl) (by kernel_rfl), .of (by kernel_rfl) (by kernel_rfl), .of (by kernel_rfl) (by kernel_rfl), .of (by kernel_rfl) (by kernel_rfl), .of (by kernel_rfl) (by kernel_rfl), .of (by kernel_rfl) (by kernel_rfl), .of (by kernel_rfl) (by kernel_rfl), .of (by kernel_rfl) (by kernel_rfl), .of (by kernel_rfl) (by kernel_rfl), .of (by kernel_rfl) (by kernel_rfl), .of (by kernel_rfl) (by kernel_rfl), .of (by kernel_rfl) (by kernel_rfl), .of (by kernel_rfl) (by kernel_rfl), .of (by kernel_rfl) (by kernel_rfl), .of (by kernel_rfl) (by kernel_rfl), .of (by kernel_rfl) (by kernel_rfl), .of (by kernel_rfl) (by kernel_rfl), .of (by kernel_rfl) (by kernel_rfl), .of (by kernel_rfl) (by kernel_rfl), .of (by kernel_rfl) (by kernel_rfl), trivial⟩
theorem mixed : Try.prog.follows .mixedOrders = true := by kernel_rfl
def gl : Nat → Option EV := look []
noncomputable def e_shape_Check : Entry := ⟨[none], false, fun args H K => match args, H with
  | [.int .u8 a0], [] => shape_Check a0 (fun y0 => K (EV.int IntKind.i64 y0) [])
  | _, _ => False⟩
noncomputable def E_shape_Check : Env := ⟨look tys, look [], look [], gl, lookL [], false⟩
theorem X_shape_Check.eq (a0 : Int) (K : EV → Heap → Prop) : evFn E_shape_Check Try.f11 false [.int .u8 a0] [] K = shape_Check a0 (fun y0 => K (EV.int IntKind.i64 y0) []) := by
  rw [shape_Check.is]; exact (evFnQ_eq _ _ _ _ _ _).symm.trans (by kernel_rfl)
theorem X_shape_Check.ok : SoundE Try.prog gl 11 e_shape_Check := by
  refine fnOK (E := E_shape_Check) (fn := Try.f11) rfl tys_ok rfl (show AllL _ [] from trivial) mixed (by kernel_rfl) (by kernel_rfl) (by kernel_rfl) 0 (by kernel_rfl) false trivial ?_
  intro args H
  by_cases hx : ∃ (a0 : Int), args = [.int .u8 a0] ∧ H = []
  · obtain ⟨a0, rfl, rfl⟩ := hx
    right; intro K
    exact iff_of_eq (X_shape_Check.eq a0 K).symm
  · left; intro K h
    simp only [e_shape_Check] at h
    split at h
    · exact hx ⟨_, rfl, rfl⟩
    · exact h
noncomputable def e_box_above : Entry := ⟨[none], false, fun args H K => match args, H with
  | [.int .u8 a0], [] => box_above a0 (fun y0 y1 => K (EV.agg [EV.int IntKind.u64 y0, EV.int IntKind.u64 y1]) [])
  | _, _ => False⟩
noncomputable def E_box_above : Env := ⟨look tys, look [], look [], gl, lookL [], false⟩
theorem X_box_above.eq (a0 : Int) (K : EV → Heap → Prop) : evFn E_box_above Try.f77 false [.int .u8 a0] [] K = box_above a0 (fun y0 y1 => K (EV.agg [EV.int IntKind.u64 y0, EV.int IntKind.u64 y1]) []) := by
  rw [box_above.is]; exact (evFnQ_eq _ _ _ _ _ _).symm.trans (by kernel_rfl)
theorem X_box_above.ok : SoundE Try.prog gl 77 e_box_above := by
  refine fnOK (E := E_box_above) (fn := Try.f77) rfl tys_ok rfl (show AllL _ [] from trivial) mixed (by kernel_rfl) (by kernel_rfl) (by kernel_rfl) 0 (by kernel_rfl) false trivial ?_
  intro args H
  by_cases hx : ∃ (a0 : Int), args = [.int .u8 a0] ∧ H = []
  · obtain ⟨a0, rfl, rfl⟩ := hx
    right; intro K
    exact iff_of_eq (X_box_above.eq a0 K).symm
  · left; intro K h
    simp only [e_box_above] at h
    split at h
    · exact hx ⟨_, rfl, rfl⟩
    · exact h
noncomputable def e_box_Above : Entry := ⟨[none], false, fun args H K => match args, H with
  | [.int .u8 a0], [] => box_Above a0 (fun y0 y1 y2 => K (EV.tuple [EV.agg [EV.int IntKind.u64 y0, EV.int IntKind.u64 y1], EV.int IntKind.i64 y2]) [])
  | _, _ => False⟩
noncomputable def l_box_Above : List (Nat × Entry) := [(11, e_shape_Check), (77, e_box_above)]
noncomputable def E_box_Above : Env := ⟨look tys, look l_box_Above, look [], gl, lookL [], false⟩
theorem X_box_Above.eq (a0 : Int) (K : EV → Heap → Prop) : evFn E_box_Above Try.f47 false [.int .u8 a0] [] K = box_Above a0 (fun y0 y1 y2 => K (EV.tuple [EV.agg [EV.int IntKind.u64 y0, EV.int IntKind.u64 y1], EV.int IntKind.i64 y2]) []) := by
  rw [box_Above.is]; exact (evFnQ_eq _ _ _ _ _ _).symm.trans (by kernel_rfl)
theorem X_box_Above.ok : SoundE Try.prog gl 47 e_box_Above := by
  refine fnOK (E := E_box_Above) (fn := Try.f47) rfl tys_ok rfl (show AllL _ l_box_Above from ⟨X_shape_Check.ok, X_box_above.ok, trivial⟩) mixed (by kernel_rfl) (by kernel_rfl) (by kernel_rfl) 0 (by kernel_rfl) false trivial ?_
  intro args H
  by_cases hx : ∃ (a0 : Int), args = [.int .u8 a0] ∧ H = []
  · obtain ⟨a0, rfl, rfl⟩ := hx
    right; intro K
    exact iff_of_eq (X_box_Above.eq a0 K).symm
  · left; intro K h
    simp only [e_box_Above] at h
    split at h
    · exact hx ⟨_, rfl, rfl⟩
    · exact h
noncomputable def e_box_IsBoxed : Entry := ⟨[none, none], false, fun args H K => match args, H with
  | [.int .u8 a0, .agg [.int .u64 a1_0, .int .u64 a1_1]], [] => box_IsBoxed a0 a1_0 a1_1 (fun y0 => K (EV.bool y0) [])
  | _, _ => False⟩
noncomputable def l_box_IsBoxed : List (Nat × Entry) := [(47, e_box_Above)]
noncomputable def E_box_IsBoxed : Env := ⟨look tys, look l_box_IsBoxed, look [], gl, lookL [], false⟩
theorem X_box_IsBoxed.eq (a0 : Int) (a1_0 : Int) (a1_1 : Int) (K : EV → Heap → Prop) : evFn E_box_IsBoxed Try.f51 false [.int .u8 a0, .agg [.int .u64 a1_0, .int .u64 a1_1]] [] K = box_IsBoxed a0 a1_0 a1_1 (fun y0 => K (EV.bool y0) []) := by
  rw [box_IsBoxed.is]; exact (evFnQ_eq _ _ _ _ _ _).symm.trans (by kernel_rfl)
theorem X_box_IsBoxed.ok : SoundE Try.prog gl 51 e_box_IsBoxed := by
  refine fnOK (E := E_box_IsBoxed) (fn := Try.f51) rfl tys_ok rfl (show AllL _ l_box_IsBoxed from ⟨X_box_Above.ok, trivial⟩) mixed (by kernel_rfl) (by kernel_rfl) (by kernel_rfl) 0 (by kernel_rfl) false trivial ?_
  intro args H
  by_cases hx : ∃ (a0 : Int) (a1_0 : Int) (a1_1 : Int), args = [.int .u8 a0, .agg [.int .u64 a1_0, .int .u64 a1_1]] ∧ H = []
  · obtain ⟨a0, a1_0, a1_1, rfl, rfl⟩ := hx
    right; intro K
    exact iff_of_eq (X_box_IsBoxed.eq a0 a1_0 a1_1 K).symm
  · left; intro K h
    simp only [e_box_IsBoxed] at h
    split at h
    · exact hx ⟨_, _, _, rfl, rfl⟩
    · exact h
end Go.Ev.S

/- The formats, one by one: shape.All's function yields these, and box.Forms' those that fit. -/
set_option maxRecDepth 100000
set_option linter.unusedVariables false
set_option linter.unusedSimpArgs false
namespace Go.Ev.S
open Go Go.Proofs Go.Ev Go.RowKit Go.Shelf
attribute [local go_sem] Oper.semAt_some
def forms4 : List NV := [(.u8, 2), (.u8, 0), (.u8, 1), (.u8, 3)]
def itAll : It := ⟨0, forms4, fun _ _ _ => some true⟩
theorem four_ix (j : Nat) (x : Int) (h : ([2, 0, 1, 3] : List Int)[j]? = some x) (w : World) :
    (Instr.index 76 (.agg #[.int .u8 2, .int .u8 0, .int .u8 1, .int .u8 3]) (.int .i64 (j : Int))).run Try.prog w = .ok (.int .u8 x) w := by
  have h1 : Try.prog.underlying 76 = some (.array 4 22) := by kernel_rfl
  have h2 : Try.prog.underlying 22 = some (.int .u8) := by kernel_rfl
  have h3 : (Try.prog.info? 22).isSome = true := by kernel_rfl
  have h4 : (Try.prog.info? 22).map (·.size) = some 1 := by kernel_rfl
  obtain ⟨i, hi⟩ := Option.isSome_iff_exists.1 h3
  rw [hi] at h4
  have h5 : i.size = 1 := by simpa using h4
  have hj : j < 4 := by
    rcases Nat.lt_or_ge j 4 with hh | hh
    · exact hh
    · rw [List.getElem?_eq_none (by simpa using hh)] at h; cases h
  simp only [Instr.index, run_bind, asIntOf, Go.Ev.run_pure, run_underlying h1]
  rw [if_pos ⟨by omega, by omega⟩]
  simp only [run_bind, run_sizeOf hi, h5, part, run_isAgg h2, TypeDescAgg, Bool.false_eq_true, if_false, Nat.mul_one, Int.toNat_natCast]
  rcases (show j = 0 ∨ j = 1 ∨ j = 2 ∨ j = 3 by omega) with rfl | rfl | rfl | rfl <;> simp at h <;> subst h <;> rfl
set_option maxHeartbeats 4000000 in
theorem itAll_ok : ItOK Try.prog 70 itAll := by
  refine ⟨⟨_, Try.func70, by kernel_rfl, by kernel_rfl⟩, ?_⟩
  intro n l caps vs J Jx W hvs hJ hJx h0 hy
  have hv0 : vs = #[] := Array.eq_empty_of_size_eq_zero hvs
  subst hv0
  refine callsIn_of_wp Try.func70 rfl trivial ?_ rfl
  simp only [Try.ntmps70, Array.append_empty, List.size_toArray, List.length_cons, List.length_nil, Nat.reduceAdd, Nat.reduceSub, Array.replicate_succ, Array.replicate_zero, List.push_toArray, List.append_toArray, List.nil_append, List.cons_append]
  have yv : ∀ i x S W1, itAll.xs[i]? = some x → J i S W1 → YieldAt Fence.wide n Try.prog l #[x.v] W1 fun e W' => (e = .returned (.bool true) ∧ J (i + 1) S W') ∨ (e = .returned (.bool false) ∧ Jx S W') := by
    intro i x S W1 hx hj
    obtain ⟨ρ, H, c, _, _, hc, _, q⟩ := hy i x S W1 hx hj
    cases hc
    obtain ⟨fn, tmps, assign, body, h1, h2⟩ := q rfl
    exact ⟨fn, tmps, assign, body, h1, h2.mono fun e w h => h.2.2⟩
  gi_wp2
  refine wpIn_loop_rounds 5 ?_
  rw [roundsIn_succ]
  obtain ⟨fn0, tmps0, assign0, body0, hyd, hR0⟩ := yv 0 (.u8, 2) _ W rfl h0
  replace hyd : (Instr.yield l #[.int .u8 2]).run Try.prog W = .ok (.round l fn0 tmps0 assign0 body0) W := hyd
  gi_wp2
  rw [show (Instr.index 76 (.agg #[.int .u8 2, .int .u8 0, .int .u8 1, .int .u8 3]) (.int .i64 0)).run Try.prog W = _ from four_ix 0 2 rfl W]
  gi_wp2
  refine hR0.mono ?_
  rintro e W1 (⟨rfl, hj1⟩ | ⟨rfl, hjx⟩)
  rotate_left
  · gi_wp2
    refine bodyPost_ret (results_none rfl _ _ _) rfl ?_
    exact ⟨⟨_, rfl⟩, .inr ⟨_, hjx⟩⟩
  gi_wp2
  rw [roundsIn_succ]
  obtain ⟨fn1, tmps1, assign1, body1, hyd, hR1⟩ := yv 1 (.u8, 0) _ W1 rfl hj1
  replace hyd : (Instr.yield l #[.int .u8 0]).run Try.prog W1 = .ok (.round l fn1 tmps1 assign1 body1) W1 := hyd
  gi_wp2
  rw [show (Instr.index 76 (.agg #[.int .u8 2, .int .u8 0, .int .u8 1, .int .u8 3]) (.int .i64 1)).run Try.prog W1 = _ from four_ix 1 0 rfl W1]
  gi_wp2
  refine hR1.mono ?_
  rintro e W2 (⟨rfl, hj2⟩ | ⟨rfl, hjx⟩)
  rotate_left
  · gi_wp2
    refine bodyPost_ret (results_none rfl _ _ _) rfl ?_
    exact ⟨⟨_, rfl⟩, .inr ⟨_, hjx⟩⟩
  gi_wp2
  rw [roundsIn_succ]
  obtain ⟨fn2, tmps2, assign2, body2, hyd, hR2⟩ := yv 2 (.u8, 1) _ W2 rfl hj2
  replace hyd : (Instr.yield l #[.int .u8 1]).run Try.prog W2 = .ok (.round l fn2 tmps2 assign2 body2) W2 := hyd
  gi_wp2
  rw [show (Instr.index 76 (.agg #[.int .u8 2, .int .u8 0, .int .u8 1, .int .u8 3]) (.int .i64 2)).run Try.prog W2 = _ from four_ix 2 1 rfl W2]
  gi_wp2
  refine hR2.mono ?_
  rintro e W3 (⟨rfl, hj3⟩ | ⟨rfl, hjx⟩)
  rotate_left
  · gi_wp2
    refine bodyPost_ret (results_none rfl _ _ _) rfl ?_
    exact ⟨⟨_, rfl⟩, .inr ⟨_, hjx⟩⟩
  gi_wp2
  rw [roundsIn_succ]
  obtain ⟨fn3, tmps3, assign3, body3, hyd, hR3⟩ := yv 3 (.u8, 3) _ W3 rfl hj3
  replace hyd : (Instr.yield l #[.int .u8 3]).run Try.prog W3 = .ok (.round l fn3 tmps3 assign3 body3) W3 := hyd
  gi_wp2
  rw [show (Instr.index 76 (.agg #[.int .u8 2, .int .u8 0, .int .u8 1, .int .u8 3]) (.int .i64 3)).run Try.prog W3 = _ from four_ix 3 3 rfl W3]
  gi_wp2
  refine hR3.mono ?_
  rintro e W4 (⟨rfl, hj4⟩ | ⟨rfl, hjx⟩)
  rotate_left
  · gi_wp2
    refine bodyPost_ret (results_none rfl _ _ _) rfl ?_
    exact ⟨⟨_, rfl⟩, .inr ⟨_, hjx⟩⟩
  gi_wp2
  rw [roundsIn_succ]
  gi_wp2
  go_end0
  exact ⟨⟨_, rfl⟩, .inl ⟨_, hj4⟩⟩
def itForms : It := ⟨1, forms4, fun caps H x => match caps with
  | [.ptr b []] => match H[b]? with
    | some (some (.agg [.int .u64 hi, .int .u64 lo])) => some (isb x.2 hi lo)
    | _ => none
  | _ => none⟩
theorem cnd_forms {caps : List EV} {H : Heap} {x : NV} {c : Bool} (h : itForms.cnd caps H x = some c) :
    ∃ b hi lo, caps = [.ptr b []] ∧ H[b]? = some (some (.agg [.int .u64 hi, .int .u64 lo])) ∧ c = isb x.2 hi lo := by
  simp only [itForms] at h
  split at h
  · split at h
    · rename_i b _ hi lo hb
      exact ⟨b, hi, lo, rfl, hb, by simpa using h.symm⟩
    · cases h
  · cases h
theorem all31 (F : Fence) (n : Nat) (hF : F.fn 31) (hro : F.round = none) (w : World) : CallsIn F n Try.prog 31 #[] w fun e w' => e = .returned (.func (.func 70) #[] #[]) ∧ w' = w := by
  refine callsIn_of_wp Try.func31 rfl hF ?_ hro
  simp only [Try.ntmps31, List.size_toArray, List.length_cons, List.length_nil, Nat.reduceAdd, Nat.reduceSub, Array.replicate_succ, Array.replicate_zero, List.push_toArray, List.append_toArray, List.nil_append, List.cons_append]
  gi_wp2
  go_ret
  exact ⟨rfl, rfl⟩
theorem same_grow {B : Nat} {w w' : World} (h : Ext ⟨[], []⟩ w ⟨[], []⟩ w') : Grow B w w' :=
  ⟨h.os, h.tape, h.output, h.size, fun k hk => .inl (h.out k hk (by simp [Go.Ev.Ren.own]))⟩
theorem call51 (f : Nat) (hf : f ≤ 3) (hi lo : Int) (w : World) : Calls Try.prog 51 #[.int .u8 f, .agg #[.int .u64 hi, .int .u64 lo]] w fun e w' => e = .returned (.bool (isb f hi lo)) ∧ Ext ⟨[], []⟩ w ⟨[], []⟩ w' := by
  have := X_box_IsBoxed.ok.sound.plain (F := []) (w := w) (args := [.int .u8 f, .agg [.int .u64 hi, .int .u64 lo]]) (xs := [.int .u8 f, .agg #[.int .u64 hi, .int .u64 lo]]) (K := fun v => v = .bool (isb f hi lo))
    (isBoxed_gen f hf hi lo _ ((gd_iff _ _).2 ⟨rfl, rfl⟩)) ⟨_, _, rfl, rfl, _, _, rfl, ⟨_, rfl, ⟨_, _, rfl, rfl, _, _, rfl, rfl, rfl⟩⟩, rfl⟩ (by simp) (fun g v h => by cases h)
  refine this.mono ?_
  rintro e w' ⟨v, x, rfl, rfl, hr, hX⟩
  simp only [Rel] at hr
  subst hr
  exact ⟨rfl, hX⟩
theorem roundIn_FW {P : Program} {l' n n' l : Nat} {f : FuncId} {tmps : Array Value} {assign body : Code} {w : World} {R : Ending → World → Prop} (h : RoundIn Fence.wide n P l f tmps assign body w R) : RoundIn (FW l') n' P l f tmps assign body w R :=
  ⟨trivial, fun c cs _ => h.2 c cs (room_wide _)⟩
set_option maxHeartbeats 4000000 in
theorem itForms_ok : ItOK Try.prog 84 itForms := by
  refine ⟨⟨_, Try.func84, by kernel_rfl, by kernel_rfl⟩, ?_⟩
  intro n l caps vs J Jx W hvs hJ hJx h0 hy
  obtain ⟨v, rfl⟩ : ∃ v, vs = #[v] := by
    obtain ⟨l⟩ := vs
    match l, hvs with
    | [v], _ => exact ⟨v, rfl⟩
  refine callsIn_of_wp_marks Try.func84 rfl trivial ?_ rfl
  simp only [Try.ntmps84, List.size_toArray, List.length_cons, List.length_nil, Nat.reduceAdd, Nat.reduceSub, Array.replicate_succ, Array.replicate_zero, List.push_toArray, List.append_toArray, List.nil_append, List.cons_append]
  gi_wp2
  refine ⟨trivial, (all31 Fence.wide _ trivial rfl _).mono ?_⟩
  rintro e w' ⟨rfl, rfl⟩
  gi_wp2
  obtain ⟨W0, hW0⟩ : ∃ W0, W.alloc (.cells #[Value.func (Fn.yield l) #[] #[]] 29) = W0 := ⟨_, rfl⟩
  have hs0 : W0.heap.size = W.heap.size + 1 := by rw [← hW0]; simp
  have hg0 : Grow W.heap.size W W0 := by rw [← hW0]; exact Grow.alloc _ _ _
  have hc0 : W0.heap[W.heap.size]? = some (.cells #[Value.func (Fn.yield l) #[] #[]] 29 (0, 0)) := by rw [← hW0]; exact World.alloc_heap_new W _
  have h1 : J 0 (fun k => k = W.heap.size ∨ False) W0 := hJ _ _ _ _ _ h0 hg0 (fun k hk => by
    rcases hk with rfl | hk
    · exact .inr ⟨Nat.le_refl _, by omega⟩
    · exact hk.elim)
  rw [hW0]
  refine wpIn_range_list itAll_ok (caps := []) (vs := #[]) rfl rfl (enters_of Try.func70 (by kernel_rfl) rfl)
    (fun i S A => J i (fun k => k = W.heap.size ∨ S k) A ∧ A.heap[W.heap.size]? = some (.cells #[Value.func (Fn.yield l) #[] #[]] 29 (0, 0)) ∧ W.heap.size < A.heap.size ∧ ∀ k, S k → k < A.heap.size)
    (fun c S A => c = .ret ∧ Jx (fun k => k = W.heap.size ∨ S k) A) ?_ ?_ ⟨h1, hc0, by omega, fun k hk => hk.elim⟩ ?_ ?_ ?_
  · rintro i S S' A B ⟨j1, j2, j3, j4⟩ gr mo
    refine ⟨hJ _ _ _ _ _ j1 (gr.anti (by omega)) (fun k hk => ?_), gr.cells j2, Nat.lt_of_lt_of_le j3 gr.size, fun k hk => (mo k hk).elim (fun h => Nat.lt_of_lt_of_le (j4 k h) gr.size) (·.2)⟩
    rcases hk with rfl | hk
    · exact .inl (.inl rfl)
    · rcases mo k hk with h | h
      · exact .inl (.inr h)
      · exact .inr h
  · rintro c S S' A B ⟨rfl, j1⟩ gr mo
    refine ⟨rfl, hJx _ _ _ _ j1 (gr.anti (by omega)) (fun k hk => ?_)⟩
    rcases hk with rfl | hk
    · exact .inl (.inl rfl)
    · rcases mo k hk with h | h
      · exact .inl (.inr h)
      · exact .inr h
  · rintro m l2 i x S W1 ⟨j1, j2, j3, j4⟩ hx
    obtain ⟨f, hf, rfl⟩ : ∃ f : Nat, f ≤ 3 ∧ x = (.u8, (f : Int)) := by
      have hm := List.mem_of_getElem? hx
      simp only [itAll, forms4, List.mem_cons, List.not_mem_nil, or_false] at hm
      rcases hm with rfl | rfl | rfl | rfl
      · exact ⟨2, by omega, rfl⟩
      · exact ⟨0, by omega, rfl⟩
      · exact ⟨1, by omega, rfl⟩
      · exact ⟨3, by omega, rfl⟩
    obtain ⟨ρ, H, c, q1, q2, q3, q4, q5⟩ := hy i _ _ W1 hx j1
    refine ⟨ρ, H, true, q1, rfl, rfl, (fun h => by cases h), fun _ => ?_⟩
    clear q1 q2 q3 q4 q5
    gi_wp2
    refine ⟨⟨Nat.le_refl _, fun _ _ _ h _ => h⟩, fun W2 gr => ?_⟩
    have j1' := hJ _ _ _ _ _ j1 (gr.anti (B' := W.heap.size) (by omega)) (fun k hk => .inl hk)
    have j2' := gr.cells j2
    have j4' : ∀ k, S k → k < W2.heap.size := fun k hk => Nat.lt_of_lt_of_le (j4 k hk) gr.size
    have j3' := Nat.lt_of_lt_of_le j3 gr.size
    obtain ⟨ρ2, H2, c2, s1, s2, s3, s4, s5⟩ := hy i _ _ W2 hx j1'
    obtain ⟨b, hi, lo, rfl, hb, rfl⟩ := cnd_forms s3
    obtain ⟨v', ys, hv, s2, hys⟩ := s2
    simp only [List.cons.injEq] at hv
    obtain ⟨rfl, rfl⟩ := hv
    have s2' := s2
    simp only [Rel] at s2'
    obtain ⟨a, rfl, _⟩ := s2'
    obtain ⟨mb, o, y, rfl, hr, hcells⟩ := s1.get hb rfl s2
    simp only [Rel, RelF] at hr
    obtain ⟨cs, rfl, x0, ys0, hcs, rfl, x1, ys1, rfl, rfl, rfl⟩ := hr
    have hcs' : cs.toList = [.int .u64 hi, .int .u64 lo] := hcs
    have cell0 : W2.cell? ⟨mb, o, none⟩ = some (.int .u64 hi) := by
      have := hcells 0 (by rw [cells_agg, hcs']; simp)
      rw [cells_agg, hcs'] at this
      simpa using this
    have cell1 : W2.cell? ⟨mb, o + 1, none⟩ = some (.int .u64 lo) := by
      have := hcells 1 (by rw [cells_agg, hcs']; simp)
      rw [cells_agg, hcs'] at this
      simpa using this
    simp only [NV.v]
    gi_wp2
    refine ⟨trivial, (fun hh => by cases hh), callsIn_FW ((call51 f hf hi lo W2).mono ?_)⟩
    rintro e W3 ⟨rfl, hX⟩
    have gr3 : Grow W.heap.size W2 W3 := same_grow hX
    have j1'' := hJ _ _ _ _ _ j1' gr3 (fun k hk => .inl hk)
    have j2'' := gr3.cells j2'
    have cellY : W3.cell? ⟨W.heap.size, 0, none⟩ = some (.func (.yield l) #[] #[]) := by simp [World.cell?, j2'']
    obtain ⟨ρ3, H3, c3, u1, u2, u3, u4, u5⟩ := hy i _ _ W3 hx j1''
    have hc3 : c3 = isb f hi lo := by
      obtain ⟨b3, hi3, lo3, hcap, hb3, rfl⟩ := cnd_forms u3
      simp only [List.cons.injEq, EV.ptr.injEq, and_true] at hcap
      subst hcap
      obtain ⟨v3, ys3, hv3, u2', _⟩ := u2
      simp only [List.cons.injEq] at hv3
      obtain ⟨rfl, _⟩ := hv3
      obtain ⟨mb3, o3, y3, e3, hr3, hcells3⟩ := u1.get hb3 rfl u2'
      cases e3
      simp only [Rel, RelF] at hr3
      obtain ⟨cs3, rfl, x03, ys03, hcs3, rfl, x13, ys13, rfl, rfl, rfl⟩ := hr3
      have hcs3' : cs3.toList = [.int .u64 hi3, .int .u64 lo3] := hcs3
      have k0 := hcells3 0 (by rw [cells_agg, hcs3']; simp)
      have k1 := hcells3 1 (by rw [cells_agg, hcs3']; simp)
      rw [cells_agg, hcs3'] at k0 k1
      have mlt : mb < W2.heap.size := by
        rcases Nat.lt_or_ge mb W2.heap.size with h | h
        · exact h
        · simp [World.cell?, Array.getElem?_eq_none h] at cell0
      have e0 := cell_of_heap (hX.out mb mlt (by simp [Go.Ev.Ren.own])) o
      have e1 := cell_of_heap (hX.out mb mlt (by simp [Go.Ev.Ren.own])) (o + 1)
      simp only [Nat.add_zero, e0, e1, cell0, cell1] at k0 k1
      simp at k0 k1
      rw [k0, k1]
    subst hc3
    have kf3 : KF (W.heap.size + 1) W2 W3 := ⟨hX.size, fun k o _ h _ => (hX.out k (Array.getElem?_eq_some_iff.1 h).1 (by simp [Go.Ev.Ren.own])).trans h⟩
    cases hb3 : isb f hi lo with
    | false =>
      gi_wp2
      repeat (refine ⟨(fun f h => by cases h), ?_⟩; gi_wp2)
      exact ⟨fun k hk => hX.out k (j4' k hk) (by simp [Go.Ev.Ren.own]), u4 hb3, Nat.lt_of_lt_of_le j3' hX.size, fun k hk => Nat.lt_of_lt_of_le (j4' k hk) hX.size⟩
    | true =>
      obtain ⟨fn, tmps, assign, body, hyd, hR⟩ := u5 hb3
      replace hyd : (Instr.yield l #[.int .u8 f]).run Try.prog W3 = .ok (.round l fn tmps assign body) W3 := hyd
      gi_wp2
      refine ⟨(fun hh => by cases hh), roundIn_FW (hR.mono ?_)⟩
      rintro e W4 ⟨kf, hs, (⟨rfl, hj⟩ | ⟨rfl, hjx⟩)⟩
      · have kf4 : KF (W.heap.size + 1) W2 W4 := ⟨Nat.le_trans hX.size kf.size, fun k o hk h hc => kf.same k o (by omega) (kf3.same k o hk h hc) hc⟩
        gi_wp2
        exact ⟨fun k hk => (hs k (.inr hk)).trans (hX.out k (j4' k hk) (by simp [Go.Ev.Ren.own])), hj, Nat.lt_of_lt_of_le j3' (Nat.le_trans hX.size kf.size), fun k hk => Nat.lt_of_lt_of_le (j4' k hk) (Nat.le_trans hX.size kf.size)⟩
      · have kf4 : KF (W.heap.size + 1) W2 W4 := ⟨Nat.le_trans hX.size kf.size, fun k o hk h hc => kf.same k o (by omega) (kf3.same k o hk h hc) hc⟩
        gi_wp2
        exact ⟨fun k hk => (hs k (.inr hk)).trans (hX.out k (j4' k hk) (by simp [Go.Ev.Ren.own])), hjx⟩
  · rintro S W1 ⟨j1, j2, j3, j4⟩ hk
    show LeavesInM Fence.wide (n + 1) Try.prog Try.f84 _ _ _ .returning W1
    refine leaves_marks (lo := W.heap.size) (ρ := ⟨[], []⟩) _ W1 ⟨⟨W0.heap.size, rfl, by omega, (Array.getElem?_eq_some_iff.1 hk).1, by simp [Go.Ev.Ren.own], hk, by simp⟩, trivial⟩ fun w'' gr => ?_
    refine ⟨_, results_none rfl _ _ _, ⟨_, rfl⟩, .inl ⟨_, hJ _ _ _ _ _ j1 gr fun k hk => .inl hk⟩⟩
  · rintro c S W1 ⟨rfl, j1⟩ hk
    refine wpIn_ret ?_
    show LeavesInM Fence.wide (n + 1) Try.prog Try.f84 _ _ _ .returning W1
    refine leaves_marks (lo := W.heap.size) (ρ := ⟨[], []⟩) _ W1 ⟨⟨W0.heap.size, rfl, by omega, (Array.getElem?_eq_some_iff.1 hk).1, by simp [Go.Ev.Ren.own], hk, by simp⟩, trivial⟩ fun w'' gr => ?_
    refine ⟨_, results_none rfl _ _ _, ⟨_, rfl⟩, .inr ⟨_, hJx _ _ _ _ j1 gr fun k hk => .inl hk⟩⟩
def its : List (Nat × It) := [(70, itAll), (84, itForms)]
theorem its_ok : AllL (ItOK Try.prog) its := ⟨itAll_ok, itForms_ok, trivial⟩
end Go.Ev.S

/- The functions of the seat: that the evaluator has them as they are. -/
set_option maxRecDepth 100000
set_option linter.unusedVariables false
set_option linter.unusedSimpArgs false
namespace Go.Ev.S
open Go Go.Proofs Go.Ev
noncomputable def e_shape_CheckMode : Entry := ⟨[none], false, fun args H K => match args, H with
  | [.int .u8 a0], [] => shape_CheckMode a0 (fun y0 => K (EV.int IntKind.i64 y0) [])
  | _, _ => False⟩
noncomputable def e_shape_numbers : Entry := ⟨[none], false, fun args H K => match args, H with
  | [.int .u8 a0], [] => shape_numbers a0 (fun y0 y1 y2 y3 => K (EV.tuple [EV.int IntKind.i64 y0, EV.int IntKind.i64 y1, EV.int IntKind.i64 y2, EV.str y3]) [])
  | _, _ => False⟩
noncomputable def E_shape_numbers : Env := ⟨look tys, look [], look [], gl, lookL [], false⟩
theorem X_shape_numbers.eq (a0 : Int) (K : EV → Heap → Prop) : evFn E_shape_numbers Try.f68 false [.int .u8 a0] [] K = shape_numbers a0 (fun y0 y1 y2 y3 => K (EV.tuple [EV.int IntKind.i64 y0, EV.int IntKind.i64 y1, EV.int IntKind.i64 y2, EV.str y3]) []) := by
  rw [shape_numbers.is]; exact (evFnQ_eq _ _ _ _ _ _).symm.trans (by kernel_rfl)
theorem X_shape_numbers.ok : SoundE Try.prog gl 68 e_shape_numbers := by
  refine fnOK (E := E_shape_numbers) (fn := Try.f68) rfl tys_ok rfl (show AllL _ [] from trivial) mixed (by kernel_rfl) (by kernel_rfl) (by kernel_rfl) 0 (by kernel_rfl) false trivial ?_
  intro args H
  by_cases hx : ∃ (a0 : Int), args = [.int .u8 a0] ∧ H = []
  · obtain ⟨a0, rfl, rfl⟩ := hx
    right; intro K
    exact iff_of_eq (X_shape_numbers.eq a0 K).symm
  · left; intro K h
    simp only [e_shape_numbers] at h
    split at h
    · exact hx ⟨_, rfl, rfl⟩
    · exact h
noncomputable def e_shape_Width : Entry := ⟨[none], false, fun args H K => match args, H with
  | [.int .u8 a0], [] => shape_Width a0 (fun y0 => K (EV.int IntKind.i64 y0) [])
  | _, _ => False⟩
noncomputable def l_shape_Width : List (Nat × Entry) := [(68, e_shape_numbers)]
noncomputable def E_shape_Width : Env := ⟨look tys, look l_shape_Width, look [], gl, lookL [], false⟩
theorem X_shape_Width.eq (a0 : Int) (K : EV → Heap → Prop) : evFn E_shape_Width Try.f15 false [.int .u8 a0] [] K = shape_Width a0 (fun y0 => K (EV.int IntKind.i64 y0) []) := by
  rw [shape_Width.is]; exact (evFnQ_eq _ _ _ _ _ _).symm.trans (by kernel_rfl)
theorem X_shape_Width.ok : SoundE Try.prog gl 15 e_shape_Width := by
  refine fnOK (E := E_shape_Width) (fn := Try.f15) rfl tys_ok rfl (show AllL _ l_shape_Width from ⟨X_shape_numbers.ok, trivial⟩) mixed (by kernel_rfl) (by kernel_rfl) (by kernel_rfl) 0 (by kernel_rfl) false trivial ?_
  intro args H
  by_cases hx : ∃ (a0 : Int), args = [.int .u8 a0] ∧ H = []
  · obtain ⟨a0, rfl, rfl⟩ := hx
    right; intro K
    exact iff_of_eq (X_shape_Width.eq a0 K).symm
  · left; intro K h
    simp only [e_shape_Width] at h
    split at h
    · exact hx ⟨_, rfl, rfl⟩
    · exact h
noncomputable def e_shape_Emax : Entry := ⟨[none], false, fun args H K => match args, H with
  | [.int .u8 a0], [] => shape_Emax a0 (fun y0 => K (EV.int IntKind.i64 y0) [])
  | _, _ => False⟩
noncomputable def l_shape_Emax : List (Nat × Entry) := [(68, e_shape_numbers)]
noncomputable def E_shape_Emax : Env := ⟨look tys, look l_shape_Emax, look [], gl, lookL [], false⟩
theorem X_shape_Emax.eq (a0 : Int) (K : EV → Heap → Prop) : evFn E_shape_Emax Try.f19 false [.int .u8 a0] [] K = shape_Emax a0 (fun y0 => K (EV.int IntKind.i64 y0) []) := by
  rw [shape_Emax.is]; exact (evFnQ_eq _ _ _ _ _ _).symm.trans (by kernel_rfl)
theorem X_shape_Emax.ok : SoundE Try.prog gl 19 e_shape_Emax := by
  refine fnOK (E := E_shape_Emax) (fn := Try.f19) rfl tys_ok rfl (show AllL _ l_shape_Emax from ⟨X_shape_numbers.ok, trivial⟩) mixed (by kernel_rfl) (by kernel_rfl) (by kernel_rfl) 0 (by kernel_rfl) false trivial ?_
  intro args H
  by_cases hx : ∃ (a0 : Int), args = [.int .u8 a0] ∧ H = []
  · obtain ⟨a0, rfl, rfl⟩ := hx
    right; intro K
    exact iff_of_eq (X_shape_Emax.eq a0 K).symm
  · left; intro K h
    simp only [e_shape_Emax] at h
    split at h
    · exact hx ⟨_, rfl, rfl⟩
    · exact h
noncomputable def e_shape_Precision : Entry := ⟨[none], false, fun args H K => match args, H with
  | [.int .u8 a0], [] => shape_Precision a0 (fun y0 => K (EV.int IntKind.i64 y0) [])
  | _, _ => False⟩
noncomputable def l_shape_Precision : List (Nat × Entry) := [(68, e_shape_numbers)]
noncomputable def E_shape_Precision : Env := ⟨look tys, look l_shape_Precision, look [], gl, lookL [], false⟩
theorem X_shape_Precision.eq (a0 : Int) (K : EV → Heap → Prop) : evFn E_shape_Precision Try.f17 false [.int .u8 a0] [] K = shape_Precision a0 (fun y0 => K (EV.int IntKind.i64 y0) []) := by
  rw [shape_Precision.is]; exact (evFnQ_eq _ _ _ _ _ _).symm.trans (by kernel_rfl)
theorem X_shape_Precision.ok : SoundE Try.prog gl 17 e_shape_Precision := by
  refine fnOK (E := E_shape_Precision) (fn := Try.f17) rfl tys_ok rfl (show AllL _ l_shape_Precision from ⟨X_shape_numbers.ok, trivial⟩) mixed (by kernel_rfl) (by kernel_rfl) (by kernel_rfl) 0 (by kernel_rfl) false trivial ?_
  intro args H
  by_cases hx : ∃ (a0 : Int), args = [.int .u8 a0] ∧ H = []
  · obtain ⟨a0, rfl, rfl⟩ := hx
    right; intro K
    exact iff_of_eq (X_shape_Precision.eq a0 K).symm
  · left; intro K h
    simp only [e_shape_Precision] at h
    split at h
    · exact hx ⟨_, rfl, rfl⟩
    · exact h
noncomputable def e_shape_at : Entry := ⟨[none, none], false, fun args H K => match args, H with
  | [.int .u64 a0, .int .i64 a1], [] => shape_at a0 a1 (fun y0 y1 => K (EV.agg [EV.int IntKind.u64 y0, EV.int IntKind.u64 y1]) [])
  | _, _ => False⟩
noncomputable def E_shape_at : Env := ⟨look tys, look [], look [], gl, lookL [], false⟩
theorem X_shape_at.eq (a0 : Int) (a1 : Int) (K : EV → Heap → Prop) : evFn E_shape_at Try.f71 false [.int .u64 a0, .int .i64 a1] [] K = shape_at a0 a1 (fun y0 y1 => K (EV.agg [EV.int IntKind.u64 y0, EV.int IntKind.u64 y1]) []) := by
  rw [shape_at.is]; exact (evFnQ_eq _ _ _ _ _ _).symm.trans (by kernel_rfl)
theorem X_shape_at.ok : SoundE Try.prog gl 71 e_shape_at := by
  refine fnOK (E := E_shape_at) (fn := Try.f71) rfl tys_ok rfl (show AllL _ [] from trivial) mixed (by kernel_rfl) (by kernel_rfl) (by kernel_rfl) 0 (by kernel_rfl) false trivial ?_
  intro args H
  by_cases hx : ∃ (a0 : Int) (a1 : Int), args = [.int .u64 a0, .int .i64 a1] ∧ H = []
  · obtain ⟨a0, a1, rfl, rfl⟩ := hx
    right; intro K
    exact iff_of_eq (X_shape_at.eq a0 a1 K).symm
  · left; intro K h
    simp only [e_shape_at] at h
    split at h
    · exact hx ⟨_, _, rfl, rfl⟩
    · exact h
noncomputable def e_shape_NaN : Entry := ⟨[none], false, fun args H K => match args, H with
  | [.int .u8 a0], [] => shape_NaN a0 (fun y0 y1 => K (EV.agg [EV.int IntKind.u64 y0, EV.int IntKind.u64 y1]) [])
  | _, _ => False⟩
noncomputable def l_shape_NaN : List (Nat × Entry) := [(11, e_shape_Check), (17, e_shape_Precision), (19, e_shape_Emax), (71, e_shape_at)]
noncomputable def E_shape_NaN : Env := ⟨look tys, look l_shape_NaN, look [], gl, lookL [], false⟩
theorem X_shape_NaN.eq (a0 : Int) (K : EV → Heap → Prop) : evFn E_shape_NaN Try.f32 false [.int .u8 a0] [] K = shape_NaN a0 (fun y0 y1 => K (EV.agg [EV.int IntKind.u64 y0, EV.int IntKind.u64 y1]) []) := by
  rw [shape_NaN.is]; exact (evFnQ_eq _ _ _ _ _ _).symm.trans (by kernel_rfl)
theorem X_shape_NaN.ok : SoundE Try.prog gl 32 e_shape_NaN := by
  refine fnOK (E := E_shape_NaN) (fn := Try.f32) rfl tys_ok rfl (show AllL _ l_shape_NaN from ⟨X_shape_Check.ok, X_shape_Precision.ok, X_shape_Emax.ok, X_shape_at.ok, trivial⟩) mixed (by kernel_rfl) (by kernel_rfl) (by kernel_rfl) 0 (by kernel_rfl) false trivial ?_
  intro args H
  by_cases hx : ∃ (a0 : Int), args = [.int .u8 a0] ∧ H = []
  · obtain ⟨a0, rfl, rfl⟩ := hx
    right; intro K
    exact iff_of_eq (X_shape_NaN.eq a0 K).symm
  · left; intro K h
    simp only [e_shape_NaN] at h
    split at h
    · exact hx ⟨_, rfl, rfl⟩
    · exact h
noncomputable def e_law07_alive : Entry := ⟨[], false, fun args H K => match args, H with
  | [], [] => law07_alive  (fun y0 => K (EV.bool y0) [])
  | _, _ => False⟩
noncomputable def e_r22_Width : Entry := ⟨[none], false, fun args H K => match args, H with
  | [.int .u8 a0], [] => r22_Width a0 (fun y0 => K (EV.int IntKind.i64 y0) [])
  | _, _ => False⟩
noncomputable def E_r22_Width : Env := ⟨look tys, look [], look [], gl, lookL [], false⟩
theorem X_r22_Width.eq (a0 : Int) (K : EV → Heap → Prop) : evFn E_r22_Width Try.f46 false [.int .u8 a0] [] K = r22_Width a0 (fun y0 => K (EV.int IntKind.i64 y0) []) := by
  rw [r22_Width.is]; exact (evFnQ_eq _ _ _ _ _ _).symm.trans (by kernel_rfl)
theorem X_r22_Width.ok : SoundE Try.prog gl 46 e_r22_Width := by
  refine fnOK (E := E_r22_Width) (fn := Try.f46) rfl tys_ok rfl (show AllL _ [] from trivial) mixed (by kernel_rfl) (by kernel_rfl) (by kernel_rfl) 0 (by kernel_rfl) false trivial ?_
  intro args H
  by_cases hx : ∃ (a0 : Int), args = [.int .u8 a0] ∧ H = []
  · obtain ⟨a0, rfl, rfl⟩ := hx
    right; intro K
    exact iff_of_eq (X_r22_Width.eq a0 K).symm
  · left; intro K h
    simp only [e_r22_Width] at h
    split at h
    · exact hx ⟨_, rfl, rfl⟩
    · exact h
noncomputable def e_box_Low : Entry := ⟨[none, none], false, fun args H K => match args, H with
  | [.int .u8 a0, .agg [.int .u64 a1_0, .int .u64 a1_1]], [] => box_Low a0 a1_0 a1_1 (fun y0 y1 y2 => K (EV.tuple [EV.agg [EV.int IntKind.u64 y0, EV.int IntKind.u64 y1], EV.int IntKind.i64 y2]) [])
  | _, _ => False⟩
noncomputable def l_box_Low : List (Nat × Entry) := [(47, e_box_Above)]
noncomputable def E_box_Low : Env := ⟨look tys, look l_box_Low, look [], gl, lookL [], false⟩
theorem X_box_Low.eq (a0 : Int) (a1_0 : Int) (a1_1 : Int) (K : EV → Heap → Prop) : evFn E_box_Low Try.f49 false [.int .u8 a0, .agg [.int .u64 a1_0, .int .u64 a1_1]] [] K = box_Low a0 a1_0 a1_1 (fun y0 y1 y2 => K (EV.tuple [EV.agg [EV.int IntKind.u64 y0, EV.int IntKind.u64 y1], EV.int IntKind.i64 y2]) []) := by
  rw [box_Low.is]; exact (evFnQ_eq _ _ _ _ _ _).symm.trans (by kernel_rfl)
theorem X_box_Low.ok : SoundE Try.prog gl 49 e_box_Low := by
  refine fnOK (E := E_box_Low) (fn := Try.f49) rfl tys_ok rfl (show AllL _ l_box_Low from ⟨X_box_Above.ok, trivial⟩) mixed (by kernel_rfl) (by kernel_rfl) (by kernel_rfl) 0 (by kernel_rfl) false trivial ?_
  intro args H
  by_cases hx : ∃ (a0 : Int) (a1_0 : Int) (a1_1 : Int), args = [.int .u8 a0, .agg [.int .u64 a1_0, .int .u64 a1_1]] ∧ H = []
  · obtain ⟨a0, a1_0, a1_1, rfl, rfl⟩ := hx
    right; intro K
    exact iff_of_eq (X_box_Low.eq a0 a1_0 a1_1 K).symm
  · left; intro K h
    simp only [e_box_Low] at h
    split at h
    · exact hx ⟨_, _, _, rfl, rfl⟩
    · exact h
noncomputable def e_box_Unbox : Entry := ⟨[none, none], false, fun args H K => match args, H with
  | [.int .u8 a0, .agg [.int .u64 a1_0, .int .u64 a1_1]], [] => box_Unbox a0 a1_0 a1_1 (fun y0 y1 y2 => K (EV.tuple [EV.agg [EV.int IntKind.u64 y0, EV.int IntKind.u64 y1], EV.int IntKind.i64 y2]) [])
  | _, _ => False⟩
noncomputable def l_box_Unbox : List (Nat × Entry) := [(32, e_shape_NaN), (49, e_box_Low), (51, e_box_IsBoxed)]
noncomputable def E_box_Unbox : Env := ⟨look tys, look l_box_Unbox, look [], gl, lookL [], false⟩
theorem X_box_Unbox.eq (a0 : Int) (a1_0 : Int) (a1_1 : Int) (K : EV → Heap → Prop) : evFn E_box_Unbox Try.f48 false [.int .u8 a0, .agg [.int .u64 a1_0, .int .u64 a1_1]] [] K = box_Unbox a0 a1_0 a1_1 (fun y0 y1 y2 => K (EV.tuple [EV.agg [EV.int IntKind.u64 y0, EV.int IntKind.u64 y1], EV.int IntKind.i64 y2]) []) := by
  rw [box_Unbox.is]; exact (evFnQ_eq _ _ _ _ _ _).symm.trans (by kernel_rfl)
theorem X_box_Unbox.ok : SoundE Try.prog gl 48 e_box_Unbox := by
  refine fnOK (E := E_box_Unbox) (fn := Try.f48) rfl tys_ok rfl (show AllL _ l_box_Unbox from ⟨X_shape_NaN.ok, X_box_Low.ok, X_box_IsBoxed.ok, trivial⟩) mixed (by kernel_rfl) (by kernel_rfl) (by kernel_rfl) 0 (by kernel_rfl) false trivial ?_
  intro args H
  by_cases hx : ∃ (a0 : Int) (a1_0 : Int) (a1_1 : Int), args = [.int .u8 a0, .agg [.int .u64 a1_0, .int .u64 a1_1]] ∧ H = []
  · obtain ⟨a0, a1_0, a1_1, rfl, rfl⟩ := hx
    right; intro K
    exact iff_of_eq (X_box_Unbox.eq a0 a1_0 a1_1 K).symm
  · left; intro K h
    simp only [e_box_Unbox] at h
    split at h
    · exact hx ⟨_, _, _, rfl, rfl⟩
    · exact h
noncomputable def e_shape_Fits : Entry := ⟨[none, none], false, fun args H K => match args, H with
  | [.int .u8 a0, .agg [.int .u64 a1_0, .int .u64 a1_1]], [] => shape_Fits a0 a1_0 a1_1 (fun y0 => K (EV.bool y0) [])
  | _, _ => False⟩
noncomputable def l_shape_Fits : List (Nat × Entry) := [(15, e_shape_Width)]
noncomputable def E_shape_Fits : Env := ⟨look tys, look l_shape_Fits, look [], gl, lookL [], false⟩
theorem X_shape_Fits.eq (a0 : Int) (a1_0 : Int) (a1_1 : Int) (K : EV → Heap → Prop) : evFn E_shape_Fits Try.f23 false [.int .u8 a0, .agg [.int .u64 a1_0, .int .u64 a1_1]] [] K = shape_Fits a0 a1_0 a1_1 (fun y0 => K (EV.bool y0) []) := by
  rw [shape_Fits.is]; exact (evFnQ_eq _ _ _ _ _ _).symm.trans (by kernel_rfl)
theorem X_shape_Fits.ok : SoundE Try.prog gl 23 e_shape_Fits := by
  refine fnOK (E := E_shape_Fits) (fn := Try.f23) rfl tys_ok rfl (show AllL _ l_shape_Fits from ⟨X_shape_Width.ok, trivial⟩) mixed (by kernel_rfl) (by kernel_rfl) (by kernel_rfl) 0 (by kernel_rfl) false trivial ?_
  intro args H
  by_cases hx : ∃ (a0 : Int) (a1_0 : Int) (a1_1 : Int), args = [.int .u8 a0, .agg [.int .u64 a1_0, .int .u64 a1_1]] ∧ H = []
  · obtain ⟨a0, a1_0, a1_1, rfl, rfl⟩ := hx
    right; intro K
    exact iff_of_eq (X_shape_Fits.eq a0 a1_0 a1_1 K).symm
  · left; intro K h
    simp only [e_shape_Fits] at h
    split at h
    · exact hx ⟨_, _, _, rfl, rfl⟩
    · exact h
noncomputable def e_box_Box : Entry := ⟨[none, none], false, fun args H K => match args, H with
  | [.int .u8 a0, .agg [.int .u64 a1_0, .int .u64 a1_1]], [] => box_Box a0 a1_0 a1_1 (fun y0 y1 y2 => K (EV.tuple [EV.agg [EV.int IntKind.u64 y0, EV.int IntKind.u64 y1], EV.int IntKind.i64 y2]) [])
  | _, _ => False⟩
noncomputable def l_box_Box : List (Nat × Entry) := [(23, e_shape_Fits), (77, e_box_above)]
noncomputable def E_box_Box : Env := ⟨look tys, look l_box_Box, look [], gl, lookL [], false⟩
theorem X_box_Box.eq (a0 : Int) (a1_0 : Int) (a1_1 : Int) (K : EV → Heap → Prop) : evFn E_box_Box Try.f50 false [.int .u8 a0, .agg [.int .u64 a1_0, .int .u64 a1_1]] [] K = box_Box a0 a1_0 a1_1 (fun y0 y1 y2 => K (EV.tuple [EV.agg [EV.int IntKind.u64 y0, EV.int IntKind.u64 y1], EV.int IntKind.i64 y2]) []) := by
  rw [box_Box.is]; exact (evFnQ_eq _ _ _ _ _ _).symm.trans (by kernel_rfl)
theorem X_box_Box.ok : SoundE Try.prog gl 50 e_box_Box := by
  refine fnOK (E := E_box_Box) (fn := Try.f50) rfl tys_ok rfl (show AllL _ l_box_Box from ⟨X_shape_Fits.ok, X_box_above.ok, trivial⟩) mixed (by kernel_rfl) (by kernel_rfl) (by kernel_rfl) 0 (by kernel_rfl) false trivial ?_
  intro args H
  by_cases hx : ∃ (a0 : Int) (a1_0 : Int) (a1_1 : Int), args = [.int .u8 a0, .agg [.int .u64 a1_0, .int .u64 a1_1]] ∧ H = []
  · obtain ⟨a0, a1_0, a1_1, rfl, rfl⟩ := hx
    right; intro K
    exact iff_of_eq (X_box_Box.eq a0 a1_0 a1_1 K).symm
  · left; intro K h
    simp only [e_box_Box] at h
    split at h
    · exact hx ⟨_, _, _, rfl, rfl⟩
    · exact h
noncomputable def e_law22_lives : Entry := ⟨[], false, fun args H K => match args, H with
  | [], [] => law22_lives  (fun y0 => K (EV.bool y0) [])
  | _, _ => False⟩
noncomputable def l_law22_lives : List (Nat × Entry) := [(48, e_box_Unbox), (50, e_box_Box)]
noncomputable def E_law22_lives : Env := ⟨look tys, look l_law22_lives, look [], gl, lookL [], false⟩
theorem X_law22_lives.eq (K : EV → Heap → Prop) : evFn E_law22_lives Try.f53 false [] [] K = law22_lives  (fun y0 => K (EV.bool y0) []) := by
  rw [law22_lives.is]; exact (evFnQ_eq _ _ _ _ _ _).symm.trans (by kernel_rfl)
theorem X_law22_lives.ok : SoundE Try.prog gl 53 e_law22_lives := by
  refine fnOK (E := E_law22_lives) (fn := Try.f53) rfl tys_ok rfl (show AllL _ l_law22_lives from ⟨X_box_Unbox.ok, X_box_Box.ok, trivial⟩) mixed (by kernel_rfl) (by kernel_rfl) (by kernel_rfl) 0 (by kernel_rfl) false trivial ?_
  intro args H
  by_cases hx : args = [] ∧ H = []
  · obtain ⟨rfl, rfl⟩ := hx
    right; intro K
    exact iff_of_eq (X_law22_lives.eq  K).symm
  · left; intro K h
    simp only [e_law22_lives] at h
    split at h
    · exact hx ⟨rfl, rfl⟩
    · exact h
noncomputable def e_r22_Bit : Entry := ⟨[none, none], false, fun args H K => match args, H with
  | [.agg [.int .u64 a0_0, .int .u64 a0_1], .int .i64 a1], [] => r22_Bit a0_0 a0_1 a1 (fun y0 => K (EV.bool y0) [])
  | _, _ => False⟩
noncomputable def E_r22_Bit : Env := ⟨look tys, look [], look [], gl, lookL [], false⟩
theorem X_r22_Bit.eq (a0_0 : Int) (a0_1 : Int) (a1 : Int) (K : EV → Heap → Prop) : evFn E_r22_Bit Try.f78 false [.agg [.int .u64 a0_0, .int .u64 a0_1], .int .i64 a1] [] K = r22_Bit a0_0 a0_1 a1 (fun y0 => K (EV.bool y0) []) := by
  rw [r22_Bit.is]; exact (evFnQ_eq _ _ _ _ _ _).symm.trans (by kernel_rfl)
theorem X_r22_Bit.ok : SoundE Try.prog gl 78 e_r22_Bit := by
  refine fnOK (E := E_r22_Bit) (fn := Try.f78) rfl tys_ok rfl (show AllL _ [] from trivial) mixed (by kernel_rfl) (by kernel_rfl) (by kernel_rfl) 0 (by kernel_rfl) false trivial ?_
  intro args H
  by_cases hx : ∃ (a0_0 : Int) (a0_1 : Int) (a1 : Int), args = [.agg [.int .u64 a0_0, .int .u64 a0_1], .int .i64 a1] ∧ H = []
  · obtain ⟨a0_0, a0_1, a1, rfl, rfl⟩ := hx
    right; intro K
    exact iff_of_eq (X_r22_Bit.eq a0_0 a0_1 a1 K).symm
  · left; intro K h
    simp only [e_r22_Bit] at h
    split at h
    · exact hx ⟨_, _, _, rfl, rfl⟩
    · exact h
noncomputable def e_r22_IsBoxed : Entry := ⟨[none, none], false, fun args H K => match args, H with
  | [.int .u8 a0, .agg [.int .u64 a1_0, .int .u64 a1_1]], [] => r22_IsBoxed a0 a1_0 a1_1 (fun y0 => K (EV.bool y0) [])
  | _, _ => False⟩
noncomputable def l_r22_IsBoxed : List (Nat × Entry) := [(46, e_r22_Width), (78, e_r22_Bit)]
noncomputable def E_r22_IsBoxed : Env := ⟨look tys, look l_r22_IsBoxed, look [(2, r22_IsBoxed.l2.entry)], gl, lookL [], false⟩
theorem r22_IsBoxed.l2X.stepEq (R : List EV → Heap → Prop) (K : Ex → List EV → Heap → Prop) (x0 : Int) (x1 : Int) (x2 : Int) (x3 : Int) : loopStep (evCode E_r22_IsBoxed (loopAt Try.f52 0) { (LV.mk 1 [(0, 1)] 16 0 false) with nx := live (.loop (loopAt Try.f52 0)) (LV.mk 1 [(0, 1)] 16 0 false) }) (live (.loop (loopAt Try.f52 0)) (LV.mk 1 [(0, 1)] 16 0 false)) (LV.mk 1 [(0, 1)] 16 0 false) 0 19 R [EV.int IntKind.u8 x0, EV.ptr 0 [], EV.int IntKind.i64 x1] [some (EV.agg [EV.int IntKind.u64 x2, EV.int IntKind.u64 x3])] K = r22_IsBoxed.l2.step (fun x0 x1 x2 x3 => R [EV.int IntKind.u8 x0, EV.ptr 0 [], EV.int IntKind.i64 x1] [some (EV.agg [EV.int IntKind.u64 x2, EV.int IntKind.u64 x3])]) (fun y0 => K .ret [EV.bool y0] []) (fun y0 => K (.exit 0) [EV.int IntKind.u8 y0] []) x0 x1 x2 x3 := (stepQ_eq _ _ _ _ _ _ _ _ _ _ _).symm.trans (by kernel_rfl)
theorem r22_IsBoxed.l2X.eq (K : Ex → List EV → Heap → Prop) : ∀ (n : Nat) (x0 : Int) (x1 : Int) (x2 : Int) (x3 : Int), loopE E_r22_IsBoxed (loopAt Try.f52 0) (LV.mk 1 [(0, 1)] 16 0 false) 0 19 K n [EV.int IntKind.u8 x0, EV.ptr 0 [], EV.int IntKind.i64 x1] [some (EV.agg [EV.int IntKind.u64 x2, EV.int IntKind.u64 x3])] = r22_IsBoxed.l2 (fun y0 => K .ret [EV.bool y0] []) (fun y0 => K (.exit 0) [EV.int IntKind.u8 y0] []) n x0 x1 x2 x3
  | 0, _, _, _, _ => rfl
  | n + 1, x0, x1, x2, x3 => by
    have ih : (fun (x0 : Int) (x1 : Int) (x2 : Int) (x3 : Int) => loopE E_r22_IsBoxed (loopAt Try.f52 0) (LV.mk 1 [(0, 1)] 16 0 false) 0 19 K n [EV.int IntKind.u8 x0, EV.ptr 0 [], EV.int IntKind.i64 x1] [some (EV.agg [EV.int IntKind.u64 x2, EV.int IntKind.u64 x3])]) = r22_IsBoxed.l2 (fun y0 => K .ret [EV.bool y0] []) (fun y0 => K (.exit 0) [EV.int IntKind.u8 y0] []) n := by funext x0 x1 x2 x3; exact r22_IsBoxed.l2X.eq K n x0 x1 x2 x3
    show loopStep _ _ _ _ _ (loopE E_r22_IsBoxed (loopAt Try.f52 0) (LV.mk 1 [(0, 1)] 16 0 false) 0 19 K n) [EV.int IntKind.u8 x0, EV.ptr 0 [], EV.int IntKind.i64 x1] [some (EV.agg [EV.int IntKind.u64 x2, EV.int IntKind.u64 x3])] K = r22_IsBoxed.l2.step (r22_IsBoxed.l2 (fun y0 => K .ret [EV.bool y0] []) (fun y0 => K (.exit 0) [EV.int IntKind.u8 y0] []) n) (fun y0 => K .ret [EV.bool y0] []) (fun y0 => K (.exit 0) [EV.int IntKind.u8 y0] []) x0 x1 x2 x3
    rw [← ih]
    exact r22_IsBoxed.l2X.stepEq _ K x0 x1 x2 x3
theorem r22_IsBoxed.l2X.ok : LoopEq E_r22_IsBoxed (loopAt Try.f52 0) := by
  intro L hL vs H
  have h1 : E_r22_IsBoxed.lp (firstRegion (loopAt Try.f52 0)) = some r22_IsBoxed.l2.entry := by kernel_rfl
  have h2 : L = r22_IsBoxed.l2.entry := Option.some.inj (hL.symm.trans h1)
  subst h2
  by_cases hx : ∃ (x0 : Int) (x1 : Int) (x2 : Int) (x3 : Int), vs = [EV.int IntKind.u8 x0, EV.ptr 0 [], EV.int IntKind.i64 x1] ∧ H = [some (EV.agg [EV.int IntKind.u64 x2, EV.int IntKind.u64 x3])]
  · obtain ⟨x0, x1, x2, x3, rfl, rfl⟩ := hx
    right; intro K
    exact exists_congr fun n => iff_of_eq (r22_IsBoxed.l2X.eq K n x0 x1 x2 x3).symm
  · left; intro K h
    simp only [r22_IsBoxed.l2.entry] at h
    split at h
    · exact hx ⟨_, _, _, _, rfl, rfl⟩
    · exact h
theorem X_r22_IsBoxed.eq (a0 : Int) (a1_0 : Int) (a1_1 : Int) (K : EV → Heap → Prop) : evFn E_r22_IsBoxed Try.f52 false [.int .u8 a0, .agg [.int .u64 a1_0, .int .u64 a1_1]] [] K = r22_IsBoxed a0 a1_0 a1_1 (fun y0 => K (EV.bool y0) []) := by
  rw [r22_IsBoxed.is]; exact (evFnQ_eq _ _ _ _ _ _).symm.trans (by kernel_rfl)
theorem X_r22_IsBoxed.ok : SoundE Try.prog gl 52 e_r22_IsBoxed := by
  refine fnOK (E := E_r22_IsBoxed) (fn := Try.f52) rfl tys_ok rfl (show AllL _ l_r22_IsBoxed from ⟨X_r22_Width.ok, X_r22_Bit.ok, trivial⟩) mixed (by kernel_rfl) (by kernel_rfl) (by kernel_rfl) 1 (by kernel_rfl) false ⟨r22_IsBoxed.l2X.ok, trivial⟩ ?_
  intro args H
  by_cases hx : ∃ (a0 : Int) (a1_0 : Int) (a1_1 : Int), args = [.int .u8 a0, .agg [.int .u64 a1_0, .int .u64 a1_1]] ∧ H = []
  · obtain ⟨a0, a1_0, a1_1, rfl, rfl⟩ := hx
    right; intro K
    exact iff_of_eq (X_r22_IsBoxed.eq a0 a1_0 a1_1 K).symm
  · left; intro K h
    simp only [e_r22_IsBoxed] at h
    split at h
    · exact hx ⟨_, _, _, rfl, rfl⟩
    · exact h
noncomputable def e_r22_with : Entry := ⟨[none, none], false, fun args H K => match args, H with
  | [.agg [.int .u64 a0_0, .int .u64 a0_1], .int .i64 a1], [] => r22_with a0_0 a0_1 a1 (fun y0 y1 => K (EV.agg [EV.int IntKind.u64 y0, EV.int IntKind.u64 y1]) [])
  | _, _ => False⟩
noncomputable def E_r22_with : Env := ⟨look tys, look [], look [], gl, lookL [], false⟩
theorem X_r22_with.eq (a0_0 : Int) (a0_1 : Int) (a1 : Int) (K : EV → Heap → Prop) : evFn E_r22_with Try.f79 false [.agg [.int .u64 a0_0, .int .u64 a0_1], .int .i64 a1] [] K = r22_with a0_0 a0_1 a1 (fun y0 y1 => K (EV.agg [EV.int IntKind.u64 y0, EV.int IntKind.u64 y1]) []) := by
  rw [r22_with.is]; exact (evFnQ_eq _ _ _ _ _ _).symm.trans (by kernel_rfl)
theorem X_r22_with.ok : SoundE Try.prog gl 79 e_r22_with := by
  refine fnOK (E := E_r22_with) (fn := Try.f79) rfl tys_ok rfl (show AllL _ [] from trivial) mixed (by kernel_rfl) (by kernel_rfl) (by kernel_rfl) 0 (by kernel_rfl) false trivial ?_
  intro args H
  by_cases hx : ∃ (a0_0 : Int) (a0_1 : Int) (a1 : Int), args = [.agg [.int .u64 a0_0, .int .u64 a0_1], .int .i64 a1] ∧ H = []
  · obtain ⟨a0_0, a0_1, a1, rfl, rfl⟩ := hx
    right; intro K
    exact iff_of_eq (X_r22_with.eq a0_0 a0_1 a1 K).symm
  · left; intro K h
    simp only [e_r22_with] at h
    split at h
    · exact hx ⟨_, _, _, rfl, rfl⟩
    · exact h
noncomputable def e_r22_Low : Entry := ⟨[none, none], false, fun args H K => match args, H with
  | [.int .u8 a0, .agg [.int .u64 a1_0, .int .u64 a1_1]], [] => r22_Low a0 a1_0 a1_1 (fun y0 y1 => K (EV.agg [EV.int IntKind.u64 y0, EV.int IntKind.u64 y1]) [])
  | _, _ => False⟩
noncomputable def l_r22_Low : List (Nat × Entry) := [(46, e_r22_Width), (78, e_r22_Bit), (79, e_r22_with)]
noncomputable def E_r22_Low : Env := ⟨look tys, look l_r22_Low, look [(3, r22_Low.l3.entry)], gl, lookL [], false⟩
theorem r22_Low.l3X.stepEq (R : List EV → Heap → Prop) (K : Ex → List EV → Heap → Prop) (x0 : Int) (x1 : Int) (x2 : Int) (x3 : Int) (x4 : Int) (x5 : Int) (x6 : Int) (x7 : Int) : loopStep (evCode E_r22_Low (loopAt Try.f56 0) { (LV.mk 48 [(0, 48)] 16 0 false) with nx := live (.loop (loopAt Try.f56 0)) (LV.mk 48 [(0, 48)] 16 0 false) }) (live (.loop (loopAt Try.f56 0)) (LV.mk 48 [(0, 48)] 16 0 false)) (LV.mk 48 [(0, 48)] 16 0 false) 0 20 R [EV.int IntKind.u8 x0, EV.ptr 0 [], EV.ptr 1 [], EV.ptr 2 [], EV.int IntKind.i64 x1] [some (EV.agg [EV.int IntKind.u64 x2, EV.int IntKind.u64 x3]), some (EV.agg [EV.int IntKind.u64 x4, EV.int IntKind.u64 x5]), some (EV.agg [EV.int IntKind.u64 x6, EV.int IntKind.u64 x7])] K = r22_Low.l3.step (fun x0 x1 x2 x3 x4 x5 x6 x7 => R [EV.int IntKind.u8 x0, EV.ptr 0 [], EV.ptr 1 [], EV.ptr 2 [], EV.int IntKind.i64 x1] [some (EV.agg [EV.int IntKind.u64 x2, EV.int IntKind.u64 x3]), some (EV.agg [EV.int IntKind.u64 x4, EV.int IntKind.u64 x5]), some (EV.agg [EV.int IntKind.u64 x6, EV.int IntKind.u64 x7])]) (fun y0 y1 y2 y3 => K (.exit 0) [EV.ptr 0 [], EV.ptr 1 []] [some (EV.agg [EV.int IntKind.u64 y0, EV.int IntKind.u64 y1]), some (EV.agg [EV.int IntKind.u64 y2, EV.int IntKind.u64 y3])]) x0 x1 x2 x3 x4 x5 x6 x7 := (stepQ_eq _ _ _ _ _ _ _ _ _ _ _).symm.trans (by kernel_rfl)
theorem r22_Low.l3X.eq (K : Ex → List EV → Heap → Prop) : ∀ (n : Nat) (x0 : Int) (x1 : Int) (x2 : Int) (x3 : Int) (x4 : Int) (x5 : Int) (x6 : Int) (x7 : Int), loopE E_r22_Low (loopAt Try.f56 0) (LV.mk 48 [(0, 48)] 16 0 false) 0 20 K n [EV.int IntKind.u8 x0, EV.ptr 0 [], EV.ptr 1 [], EV.ptr 2 [], EV.int IntKind.i64 x1] [some (EV.agg [EV.int IntKind.u64 x2, EV.int IntKind.u64 x3]), some (EV.agg [EV.int IntKind.u64 x4, EV.int IntKind.u64 x5]), some (EV.agg [EV.int IntKind.u64 x6, EV.int IntKind.u64 x7])] = r22_Low.l3 (fun y0 y1 y2 y3 => K (.exit 0) [EV.ptr 0 [], EV.ptr 1 []] [some (EV.agg [EV.int IntKind.u64 y0, EV.int IntKind.u64 y1]), some (EV.agg [EV.int IntKind.u64 y2, EV.int IntKind.u64 y3])]) n x0 x1 x2 x3 x4 x5 x6 x7
  | 0, _, _, _, _, _, _, _, _ => rfl
  | n + 1, x0, x1, x2, x3, x4, x5, x6, x7 => by
    have ih : (fun (x0 : Int) (x1 : Int) (x2 : Int) (x3 : Int) (x4 : Int) (x5 : Int) (x6 : Int) (x7 : Int) => loopE E_r22_Low (loopAt Try.f56 0) (LV.mk 48 [(0, 48)] 16 0 false) 0 20 K n [EV.int IntKind.u8 x0, EV.ptr 0 [], EV.ptr 1 [], EV.ptr 2 [], EV.int IntKind.i64 x1] [some (EV.agg [EV.int IntKind.u64 x2, EV.int IntKind.u64 x3]), some (EV.agg [EV.int IntKind.u64 x4, EV.int IntKind.u64 x5]), some (EV.agg [EV.int IntKind.u64 x6, EV.int IntKind.u64 x7])]) = r22_Low.l3 (fun y0 y1 y2 y3 => K (.exit 0) [EV.ptr 0 [], EV.ptr 1 []] [some (EV.agg [EV.int IntKind.u64 y0, EV.int IntKind.u64 y1]), some (EV.agg [EV.int IntKind.u64 y2, EV.int IntKind.u64 y3])]) n := by funext x0 x1 x2 x3 x4 x5 x6 x7; exact r22_Low.l3X.eq K n x0 x1 x2 x3 x4 x5 x6 x7
    show loopStep _ _ _ _ _ (loopE E_r22_Low (loopAt Try.f56 0) (LV.mk 48 [(0, 48)] 16 0 false) 0 20 K n) [EV.int IntKind.u8 x0, EV.ptr 0 [], EV.ptr 1 [], EV.ptr 2 [], EV.int IntKind.i64 x1] [some (EV.agg [EV.int IntKind.u64 x2, EV.int IntKind.u64 x3]), some (EV.agg [EV.int IntKind.u64 x4, EV.int IntKind.u64 x5]), some (EV.agg [EV.int IntKind.u64 x6, EV.int IntKind.u64 x7])] K = r22_Low.l3.step (r22_Low.l3 (fun y0 y1 y2 y3 => K (.exit 0) [EV.ptr 0 [], EV.ptr 1 []] [some (EV.agg [EV.int IntKind.u64 y0, EV.int IntKind.u64 y1]), some (EV.agg [EV.int IntKind.u64 y2, EV.int IntKind.u64 y3])]) n) (fun y0 y1 y2 y3 => K (.exit 0) [EV.ptr 0 [], EV.ptr 1 []] [some (EV.agg [EV.int IntKind.u64 y0, EV.int IntKind.u64 y1]), some (EV.agg [EV.int IntKind.u64 y2, EV.int IntKind.u64 y3])]) x0 x1 x2 x3 x4 x5 x6 x7
    rw [← ih]
    exact r22_Low.l3X.stepEq _ K x0 x1 x2 x3 x4 x5 x6 x7
theorem r22_Low.l3X.ok : LoopEq E_r22_Low (loopAt Try.f56 0) := by
  intro L hL vs H
  have h1 : E_r22_Low.lp (firstRegion (loopAt Try.f56 0)) = some r22_Low.l3.entry := by kernel_rfl
  have h2 : L = r22_Low.l3.entry := Option.some.inj (hL.symm.trans h1)
  subst h2
  by_cases hx : ∃ (x0 : Int) (x1 : Int) (x2 : Int) (x3 : Int) (x4 : Int) (x5 : Int) (x6 : Int) (x7 : Int), vs = [EV.int IntKind.u8 x0, EV.ptr 0 [], EV.ptr 1 [], EV.ptr 2 [], EV.int IntKind.i64 x1] ∧ H = [some (EV.agg [EV.int IntKind.u64 x2, EV.int IntKind.u64 x3]), some (EV.agg [EV.int IntKind.u64 x4, EV.int IntKind.u64 x5]), some (EV.agg [EV.int IntKind.u64 x6, EV.int IntKind.u64 x7])]
  · obtain ⟨x0, x1, x2, x3, x4, x5, x6, x7, rfl, rfl⟩ := hx
    right; intro K
    exact exists_congr fun n => iff_of_eq (r22_Low.l3X.eq K n x0 x1 x2 x3 x4 x5 x6 x7).symm
  · left; intro K h
    simp only [r22_Low.l3.entry] at h
    split at h
    · exact hx ⟨_, _, _, _, _, _, _, _, rfl, rfl⟩
    · exact h
theorem X_r22_Low.eq (a0 : Int) (a1_0 : Int) (a1_1 : Int) (K : EV → Heap → Prop) : evFn E_r22_Low Try.f56 false [.int .u8 a0, .agg [.int .u64 a1_0, .int .u64 a1_1]] [] K = r22_Low a0 a1_0 a1_1 (fun y0 y1 => K (EV.agg [EV.int IntKind.u64 y0, EV.int IntKind.u64 y1]) []) := by
  rw [r22_Low.is]; exact (evFnQ_eq _ _ _ _ _ _).symm.trans (by kernel_rfl)
theorem X_r22_Low.ok : SoundE Try.prog gl 56 e_r22_Low := by
  refine fnOK (E := E_r22_Low) (fn := Try.f56) rfl tys_ok rfl (show AllL _ l_r22_Low from ⟨X_r22_Width.ok, X_r22_Bit.ok, X_r22_with.ok, trivial⟩) mixed (by kernel_rfl) (by kernel_rfl) (by kernel_rfl) 1 (by kernel_rfl) false ⟨r22_Low.l3X.ok, trivial⟩ ?_
  intro args H
  by_cases hx : ∃ (a0 : Int) (a1_0 : Int) (a1_1 : Int), args = [.int .u8 a0, .agg [.int .u64 a1_0, .int .u64 a1_1]] ∧ H = []
  · obtain ⟨a0, a1_0, a1_1, rfl, rfl⟩ := hx
    right; intro K
    exact iff_of_eq (X_r22_Low.eq a0 a1_0 a1_1 K).symm
  · left; intro K h
    simp only [e_r22_Low] at h
    split at h
    · exact hx ⟨_, _, _, rfl, rfl⟩
    · exact h
noncomputable def e_r22_NaN : Entry := ⟨[none], false, fun args H K => match args, H with
  | [.int .u8 a0], [] => r22_NaN a0 (fun y0 y1 => K (EV.agg [EV.int IntKind.u64 y0, EV.int IntKind.u64 y1]) [])
  | _, _ => False⟩
noncomputable def l_r22_NaN : List (Nat × Entry) := [(46, e_r22_Width), (79, e_r22_with)]
noncomputable def E_r22_NaN : Env := ⟨look tys, look l_r22_NaN, look [(11, r22_NaN.l11.entry)], gl, lookL [], false⟩
theorem r22_NaN.l11X.stepEq (R : List EV → Heap → Prop) (K : Ex → List EV → Heap → Prop) (x0 : Int) (x1 : Int) (x2 : Int) (x3 : Int) (x4 : Int) (x5 : Int) : loopStep (evCode E_r22_NaN (loopAt Try.f80 0) { (LV.mk 20 [(1, 20)] 4 0 false) with nx := live (.loop (loopAt Try.f80 0)) (LV.mk 20 [(1, 20)] 4 0 false) }) (live (.loop (loopAt Try.f80 0)) (LV.mk 20 [(1, 20)] 4 0 false)) (LV.mk 20 [(1, 20)] 4 0 false) 0 26 R [EV.int IntKind.u8 x0, EV.ptr 0 [], EV.ptr 1 [], EV.int IntKind.i64 x1] [some (EV.agg [EV.int IntKind.u64 x2, EV.int IntKind.u64 x3]), some (EV.agg [EV.int IntKind.u64 x4, EV.int IntKind.u64 x5])] K = r22_NaN.l11.step (fun x0 x1 x2 x3 x4 x5 => R [EV.int IntKind.u8 x0, EV.ptr 0 [], EV.ptr 1 [], EV.int IntKind.i64 x1] [some (EV.agg [EV.int IntKind.u64 x2, EV.int IntKind.u64 x3]), some (EV.agg [EV.int IntKind.u64 x4, EV.int IntKind.u64 x5])]) (fun y0 y1 y2 y3 => K (.exit 1) [EV.ptr 0 [], EV.ptr 1 []] [some (EV.agg [EV.int IntKind.u64 y0, EV.int IntKind.u64 y1]), some (EV.agg [EV.int IntKind.u64 y2, EV.int IntKind.u64 y3])]) x0 x1 x2 x3 x4 x5 := (stepQ_eq _ _ _ _ _ _ _ _ _ _ _).symm.trans (by kernel_rfl)
theorem r22_NaN.l11X.eq (K : Ex → List EV → Heap → Prop) : ∀ (n : Nat) (x0 : Int) (x1 : Int) (x2 : Int) (x3 : Int) (x4 : Int) (x5 : Int), loopE E_r22_NaN (loopAt Try.f80 0) (LV.mk 20 [(1, 20)] 4 0 false) 0 26 K n [EV.int IntKind.u8 x0, EV.ptr 0 [], EV.ptr 1 [], EV.int IntKind.i64 x1] [some (EV.agg [EV.int IntKind.u64 x2, EV.int IntKind.u64 x3]), some (EV.agg [EV.int IntKind.u64 x4, EV.int IntKind.u64 x5])] = r22_NaN.l11 (fun y0 y1 y2 y3 => K (.exit 1) [EV.ptr 0 [], EV.ptr 1 []] [some (EV.agg [EV.int IntKind.u64 y0, EV.int IntKind.u64 y1]), some (EV.agg [EV.int IntKind.u64 y2, EV.int IntKind.u64 y3])]) n x0 x1 x2 x3 x4 x5
  | 0, _, _, _, _, _, _ => rfl
  | n + 1, x0, x1, x2, x3, x4, x5 => by
    have ih : (fun (x0 : Int) (x1 : Int) (x2 : Int) (x3 : Int) (x4 : Int) (x5 : Int) => loopE E_r22_NaN (loopAt Try.f80 0) (LV.mk 20 [(1, 20)] 4 0 false) 0 26 K n [EV.int IntKind.u8 x0, EV.ptr 0 [], EV.ptr 1 [], EV.int IntKind.i64 x1] [some (EV.agg [EV.int IntKind.u64 x2, EV.int IntKind.u64 x3]), some (EV.agg [EV.int IntKind.u64 x4, EV.int IntKind.u64 x5])]) = r22_NaN.l11 (fun y0 y1 y2 y3 => K (.exit 1) [EV.ptr 0 [], EV.ptr 1 []] [some (EV.agg [EV.int IntKind.u64 y0, EV.int IntKind.u64 y1]), some (EV.agg [EV.int IntKind.u64 y2, EV.int IntKind.u64 y3])]) n := by funext x0 x1 x2 x3 x4 x5; exact r22_NaN.l11X.eq K n x0 x1 x2 x3 x4 x5
    show loopStep _ _ _ _ _ (loopE E_r22_NaN (loopAt Try.f80 0) (LV.mk 20 [(1, 20)] 4 0 false) 0 26 K n) [EV.int IntKind.u8 x0, EV.ptr 0 [], EV.ptr 1 [], EV.int IntKind.i64 x1] [some (EV.agg [EV.int IntKind.u64 x2, EV.int IntKind.u64 x3]), some (EV.agg [EV.int IntKind.u64 x4, EV.int IntKind.u64 x5])] K = r22_NaN.l11.step (r22_NaN.l11 (fun y0 y1 y2 y3 => K (.exit 1) [EV.ptr 0 [], EV.ptr 1 []] [some (EV.agg [EV.int IntKind.u64 y0, EV.int IntKind.u64 y1]), some (EV.agg [EV.int IntKind.u64 y2, EV.int IntKind.u64 y3])]) n) (fun y0 y1 y2 y3 => K (.exit 1) [EV.ptr 0 [], EV.ptr 1 []] [some (EV.agg [EV.int IntKind.u64 y0, EV.int IntKind.u64 y1]), some (EV.agg [EV.int IntKind.u64 y2, EV.int IntKind.u64 y3])]) x0 x1 x2 x3 x4 x5
    rw [← ih]
    exact r22_NaN.l11X.stepEq _ K x0 x1 x2 x3 x4 x5
theorem r22_NaN.l11X.ok : LoopEq E_r22_NaN (loopAt Try.f80 0) := by
  intro L hL vs H
  have h1 : E_r22_NaN.lp (firstRegion (loopAt Try.f80 0)) = some r22_NaN.l11.entry := by kernel_rfl
  have h2 : L = r22_NaN.l11.entry := Option.some.inj (hL.symm.trans h1)
  subst h2
  by_cases hx : ∃ (x0 : Int) (x1 : Int) (x2 : Int) (x3 : Int) (x4 : Int) (x5 : Int), vs = [EV.int IntKind.u8 x0, EV.ptr 0 [], EV.ptr 1 [], EV.int IntKind.i64 x1] ∧ H = [some (EV.agg [EV.int IntKind.u64 x2, EV.int IntKind.u64 x3]), some (EV.agg [EV.int IntKind.u64 x4, EV.int IntKind.u64 x5])]
  · obtain ⟨x0, x1, x2, x3, x4, x5, rfl, rfl⟩ := hx
    right; intro K
    exact exists_congr fun n => iff_of_eq (r22_NaN.l11X.eq K n x0 x1 x2 x3 x4 x5).symm
  · left; intro K h
    simp only [r22_NaN.l11.entry] at h
    split at h
    · exact hx ⟨_, _, _, _, _, _, rfl, rfl⟩
    · exact h
theorem X_r22_NaN.eq (a0 : Int) (K : EV → Heap → Prop) : evFn E_r22_NaN Try.f80 false [.int .u8 a0] [] K = r22_NaN a0 (fun y0 y1 => K (EV.agg [EV.int IntKind.u64 y0, EV.int IntKind.u64 y1]) []) := by
  rw [r22_NaN.is]; exact (evFnQ_eq _ _ _ _ _ _).symm.trans (by kernel_rfl)
theorem X_r22_NaN.ok : SoundE Try.prog gl 80 e_r22_NaN := by
  refine fnOK (E := E_r22_NaN) (fn := Try.f80) rfl tys_ok rfl (show AllL _ l_r22_NaN from ⟨X_r22_Width.ok, X_r22_with.ok, trivial⟩) mixed (by kernel_rfl) (by kernel_rfl) (by kernel_rfl) 1 (by kernel_rfl) false ⟨r22_NaN.l11X.ok, trivial⟩ ?_
  intro args H
  by_cases hx : ∃ (a0 : Int), args = [.int .u8 a0] ∧ H = []
  · obtain ⟨a0, rfl, rfl⟩ := hx
    right; intro K
    exact iff_of_eq (X_r22_NaN.eq a0 K).symm
  · left; intro K h
    simp only [e_r22_NaN] at h
    split at h
    · exact hx ⟨_, rfl, rfl⟩
    · exact h
noncomputable def e_r22_Unbox : Entry := ⟨[none, none], false, fun args H K => match args, H with
  | [.int .u8 a0, .agg [.int .u64 a1_0, .int .u64 a1_1]], [] => r22_Unbox a0 a1_0 a1_1 (fun y0 y1 => K (EV.agg [EV.int IntKind.u64 y0, EV.int IntKind.u64 y1]) [])
  | _, _ => False⟩
noncomputable def l_r22_Unbox : List (Nat × Entry) := [(52, e_r22_IsBoxed), (56, e_r22_Low), (80, e_r22_NaN)]
noncomputable def E_r22_Unbox : Env := ⟨look tys, look l_r22_Unbox, look [], gl, lookL [], false⟩
theorem X_r22_Unbox.eq (a0 : Int) (a1_0 : Int) (a1_1 : Int) (K : EV → Heap → Prop) : evFn E_r22_Unbox Try.f55 false [.int .u8 a0, .agg [.int .u64 a1_0, .int .u64 a1_1]] [] K = r22_Unbox a0 a1_0 a1_1 (fun y0 y1 => K (EV.agg [EV.int IntKind.u64 y0, EV.int IntKind.u64 y1]) []) := by
  rw [r22_Unbox.is]; exact (evFnQ_eq _ _ _ _ _ _).symm.trans (by kernel_rfl)
theorem X_r22_Unbox.ok : SoundE Try.prog gl 55 e_r22_Unbox := by
  refine fnOK (E := E_r22_Unbox) (fn := Try.f55) rfl tys_ok rfl (show AllL _ l_r22_Unbox from ⟨X_r22_IsBoxed.ok, X_r22_Low.ok, X_r22_NaN.ok, trivial⟩) mixed (by kernel_rfl) (by kernel_rfl) (by kernel_rfl) 0 (by kernel_rfl) false trivial ?_
  intro args H
  by_cases hx : ∃ (a0 : Int) (a1_0 : Int) (a1_1 : Int), args = [.int .u8 a0, .agg [.int .u64 a1_0, .int .u64 a1_1]] ∧ H = []
  · obtain ⟨a0, a1_0, a1_1, rfl, rfl⟩ := hx
    right; intro K
    exact iff_of_eq (X_r22_Unbox.eq a0 a1_0 a1_1 K).symm
  · left; intro K h
    simp only [e_r22_Unbox] at h
    split at h
    · exact hx ⟨_, _, _, rfl, rfl⟩
    · exact h
noncomputable def e_r22_Box : Entry := ⟨[none, none], false, fun args H K => match args, H with
  | [.int .u8 a0, .agg [.int .u64 a1_0, .int .u64 a1_1]], [] => r22_Box a0 a1_0 a1_1 (fun y0 y1 => K (EV.agg [EV.int IntKind.u64 y0, EV.int IntKind.u64 y1]) [])
  | _, _ => False⟩
noncomputable def l_r22_Box : List (Nat × Entry) := [(46, e_r22_Width), (79, e_r22_with)]
noncomputable def E_r22_Box : Env := ⟨look tys, look l_r22_Box, look [(2, r22_Box.l2.entry)], gl, lookL [], false⟩
theorem r22_Box.l2X.stepEq (R : List EV → Heap → Prop) (K : Ex → List EV → Heap → Prop) (x0 : Int) (x1 : Int) (x2 : Int) (x3 : Int) (x4 : Int) : loopStep (evCode E_r22_Box (loopAt Try.f58 0) { (LV.mk 24 [(0, 24)] 16 0 false) with nx := live (.loop (loopAt Try.f58 0)) (LV.mk 24 [(0, 24)] 16 0 false) }) (live (.loop (loopAt Try.f58 0)) (LV.mk 24 [(0, 24)] 16 0 false)) (LV.mk 24 [(0, 24)] 16 0 false) 0 16 R [EV.ptr 0 [], EV.ptr 1 [], EV.int IntKind.i64 x0] [some (EV.agg [EV.int IntKind.u64 x1, EV.int IntKind.u64 x2]), some (EV.agg [EV.int IntKind.u64 x3, EV.int IntKind.u64 x4])] K = r22_Box.l2.step (fun x0 x1 x2 x3 x4 => R [EV.ptr 0 [], EV.ptr 1 [], EV.int IntKind.i64 x0] [some (EV.agg [EV.int IntKind.u64 x1, EV.int IntKind.u64 x2]), some (EV.agg [EV.int IntKind.u64 x3, EV.int IntKind.u64 x4])]) (fun y0 y1 y2 y3 => K (.exit 0) [EV.ptr 0 [], EV.ptr 1 []] [some (EV.agg [EV.int IntKind.u64 y0, EV.int IntKind.u64 y1]), some (EV.agg [EV.int IntKind.u64 y2, EV.int IntKind.u64 y3])]) x0 x1 x2 x3 x4 := (stepQ_eq _ _ _ _ _ _ _ _ _ _ _).symm.trans (by kernel_rfl)
theorem r22_Box.l2X.eq (K : Ex → List EV → Heap → Prop) : ∀ (n : Nat) (x0 : Int) (x1 : Int) (x2 : Int) (x3 : Int) (x4 : Int), loopE E_r22_Box (loopAt Try.f58 0) (LV.mk 24 [(0, 24)] 16 0 false) 0 16 K n [EV.ptr 0 [], EV.ptr 1 [], EV.int IntKind.i64 x0] [some (EV.agg [EV.int IntKind.u64 x1, EV.int IntKind.u64 x2]), some (EV.agg [EV.int IntKind.u64 x3, EV.int IntKind.u64 x4])] = r22_Box.l2 (fun y0 y1 y2 y3 => K (.exit 0) [EV.ptr 0 [], EV.ptr 1 []] [some (EV.agg [EV.int IntKind.u64 y0, EV.int IntKind.u64 y1]), some (EV.agg [EV.int IntKind.u64 y2, EV.int IntKind.u64 y3])]) n x0 x1 x2 x3 x4
  | 0, _, _, _, _, _ => rfl
  | n + 1, x0, x1, x2, x3, x4 => by
    have ih : (fun (x0 : Int) (x1 : Int) (x2 : Int) (x3 : Int) (x4 : Int) => loopE E_r22_Box (loopAt Try.f58 0) (LV.mk 24 [(0, 24)] 16 0 false) 0 16 K n [EV.ptr 0 [], EV.ptr 1 [], EV.int IntKind.i64 x0] [some (EV.agg [EV.int IntKind.u64 x1, EV.int IntKind.u64 x2]), some (EV.agg [EV.int IntKind.u64 x3, EV.int IntKind.u64 x4])]) = r22_Box.l2 (fun y0 y1 y2 y3 => K (.exit 0) [EV.ptr 0 [], EV.ptr 1 []] [some (EV.agg [EV.int IntKind.u64 y0, EV.int IntKind.u64 y1]), some (EV.agg [EV.int IntKind.u64 y2, EV.int IntKind.u64 y3])]) n := by funext x0 x1 x2 x3 x4; exact r22_Box.l2X.eq K n x0 x1 x2 x3 x4
    show loopStep _ _ _ _ _ (loopE E_r22_Box (loopAt Try.f58 0) (LV.mk 24 [(0, 24)] 16 0 false) 0 16 K n) [EV.ptr 0 [], EV.ptr 1 [], EV.int IntKind.i64 x0] [some (EV.agg [EV.int IntKind.u64 x1, EV.int IntKind.u64 x2]), some (EV.agg [EV.int IntKind.u64 x3, EV.int IntKind.u64 x4])] K = r22_Box.l2.step (r22_Box.l2 (fun y0 y1 y2 y3 => K (.exit 0) [EV.ptr 0 [], EV.ptr 1 []] [some (EV.agg [EV.int IntKind.u64 y0, EV.int IntKind.u64 y1]), some (EV.agg [EV.int IntKind.u64 y2, EV.int IntKind.u64 y3])]) n) (fun y0 y1 y2 y3 => K (.exit 0) [EV.ptr 0 [], EV.ptr 1 []] [some (EV.agg [EV.int IntKind.u64 y0, EV.int IntKind.u64 y1]), some (EV.agg [EV.int IntKind.u64 y2, EV.int IntKind.u64 y3])]) x0 x1 x2 x3 x4
    rw [← ih]
    exact r22_Box.l2X.stepEq _ K x0 x1 x2 x3 x4
theorem r22_Box.l2X.ok : LoopEq E_r22_Box (loopAt Try.f58 0) := by
  intro L hL vs H
  have h1 : E_r22_Box.lp (firstRegion (loopAt Try.f58 0)) = some r22_Box.l2.entry := by kernel_rfl
  have h2 : L = r22_Box.l2.entry := Option.some.inj (hL.symm.trans h1)
  subst h2
  by_cases hx : ∃ (x0 : Int) (x1 : Int) (x2 : Int) (x3 : Int) (x4 : Int), vs = [EV.ptr 0 [], EV.ptr 1 [], EV.int IntKind.i64 x0] ∧ H = [some (EV.agg [EV.int IntKind.u64 x1, EV.int IntKind.u64 x2]), some (EV.agg [EV.int IntKind.u64 x3, EV.int IntKind.u64 x4])]
  · obtain ⟨x0, x1, x2, x3, x4, rfl, rfl⟩ := hx
    right; intro K
    exact exists_congr fun n => iff_of_eq (r22_Box.l2X.eq K n x0 x1 x2 x3 x4).symm
  · left; intro K h
    simp only [r22_Box.l2.entry] at h
    split at h
    · exact hx ⟨_, _, _, _, _, rfl, rfl⟩
    · exact h
theorem X_r22_Box.eq (a0 : Int) (a1_0 : Int) (a1_1 : Int) (K : EV → Heap → Prop) : evFn E_r22_Box Try.f58 false [.int .u8 a0, .agg [.int .u64 a1_0, .int .u64 a1_1]] [] K = r22_Box a0 a1_0 a1_1 (fun y0 y1 => K (EV.agg [EV.int IntKind.u64 y0, EV.int IntKind.u64 y1]) []) := by
  rw [r22_Box.is]; exact (evFnQ_eq _ _ _ _ _ _).symm.trans (by kernel_rfl)
theorem X_r22_Box.ok : SoundE Try.prog gl 58 e_r22_Box := by
  refine fnOK (E := E_r22_Box) (fn := Try.f58) rfl tys_ok rfl (show AllL _ l_r22_Box from ⟨X_r22_Width.ok, X_r22_with.ok, trivial⟩) mixed (by kernel_rfl) (by kernel_rfl) (by kernel_rfl) 1 (by kernel_rfl) false ⟨r22_Box.l2X.ok, trivial⟩ ?_
  intro args H
  by_cases hx : ∃ (a0 : Int) (a1_0 : Int) (a1_1 : Int), args = [.int .u8 a0, .agg [.int .u64 a1_0, .int .u64 a1_1]] ∧ H = []
  · obtain ⟨a0, a1_0, a1_1, rfl, rfl⟩ := hx
    right; intro K
    exact iff_of_eq (X_r22_Box.eq a0 a1_0 a1_1 K).symm
  · left; intro K h
    simp only [e_r22_Box] at h
    split at h
    · exact hx ⟨_, _, _, rfl, rfl⟩
    · exact h
noncomputable def e_box_Within : Entry := ⟨[none, none, none], false, fun args H K => match args, H with
  | [.int .u8 a0, .agg [.int .u64 a1_0, .int .u64 a1_1], .int .u8 a2], [] => box_Within a0 a1_0 a1_1 a2 (fun y0 y1 y2 => K (EV.tuple [EV.agg [EV.int IntKind.u64 y0, EV.int IntKind.u64 y1], EV.int IntKind.i64 y2]) [])
  | _, _ => False⟩
noncomputable def l_box_Within : List (Nat × Entry) := [(48, e_box_Unbox), (50, e_box_Box)]
noncomputable def E_box_Within : Env := ⟨look tys, look l_box_Within, look [], gl, lookL [], false⟩
theorem X_box_Within.eq (a0 : Int) (a1_0 : Int) (a1_1 : Int) (a2 : Int) (K : EV → Heap → Prop) : evFn E_box_Within Try.f61 false [.int .u8 a0, .agg [.int .u64 a1_0, .int .u64 a1_1], .int .u8 a2] [] K = box_Within a0 a1_0 a1_1 a2 (fun y0 y1 y2 => K (EV.tuple [EV.agg [EV.int IntKind.u64 y0, EV.int IntKind.u64 y1], EV.int IntKind.i64 y2]) []) := by
  rw [box_Within.is]; exact (evFnQ_eq _ _ _ _ _ _).symm.trans (by kernel_rfl)
theorem X_box_Within.ok : SoundE Try.prog gl 61 e_box_Within := by
  refine fnOK (E := E_box_Within) (fn := Try.f61) rfl tys_ok rfl (show AllL _ l_box_Within from ⟨X_box_Unbox.ok, X_box_Box.ok, trivial⟩) mixed (by kernel_rfl) (by kernel_rfl) (by kernel_rfl) 0 (by kernel_rfl) false trivial ?_
  intro args H
  by_cases hx : ∃ (a0 : Int) (a1_0 : Int) (a1_1 : Int) (a2 : Int), args = [.int .u8 a0, .agg [.int .u64 a1_0, .int .u64 a1_1], .int .u8 a2] ∧ H = []
  · obtain ⟨a0, a1_0, a1_1, a2, rfl, rfl⟩ := hx
    right; intro K
    exact iff_of_eq (X_box_Within.eq a0 a1_0 a1_1 a2 K).symm
  · left; intro K h
    simp only [e_box_Within] at h
    split at h
    · exact hx ⟨_, _, _, _, rfl, rfl⟩
    · exact h
noncomputable def e_r22_Forms : Entry := ⟨[none], false, fun args H K => match args, H with
  | [.agg [.int .u64 a0_0, .int .u64 a0_1]], [] => r22_Forms a0_0 a0_1 (fun y0 y1 => K (EV.rsI IntKind.u8 y0 y1) [])
  | _, _ => False⟩
noncomputable def l_r22_Forms : List (Nat × Entry) := [(52, e_r22_IsBoxed)]
noncomputable def E_r22_Forms : Env := ⟨look tys, look l_r22_Forms, look [], gl, lookL [(4, 5)], false⟩
theorem r22_Forms_u4.ok : LoopEq E_r22_Forms (loopAt Try.f66 0) := LoopEq.none (by kernel_rfl)
theorem X_r22_Forms.eq (a0_0 : Int) (a0_1 : Int) (K : EV → Heap → Prop) : evFn E_r22_Forms Try.f66 false [.agg [.int .u64 a0_0, .int .u64 a0_1]] [] K = r22_Forms a0_0 a0_1 (fun y0 y1 => K (EV.rsI IntKind.u8 y0 y1) []) := by
  rw [r22_Forms.is]; exact (evFnQ_eq _ _ _ _ _ _).symm.trans (by kernel_rfl)
theorem X_r22_Forms.ok : SoundE Try.prog gl 66 e_r22_Forms := by
  refine fnOK (E := E_r22_Forms) (fn := Try.f66) rfl tys_ok rfl (show AllL _ l_r22_Forms from ⟨X_r22_IsBoxed.ok, trivial⟩) mixed (by kernel_rfl) (by kernel_rfl) (by kernel_rfl) 1 (by kernel_rfl) false ⟨r22_Forms_u4.ok, trivial⟩ ?_
  intro args H
  by_cases hx : ∃ (a0_0 : Int) (a0_1 : Int), args = [.agg [.int .u64 a0_0, .int .u64 a0_1]] ∧ H = []
  · obtain ⟨a0_0, a0_1, rfl, rfl⟩ := hx
    right; intro K
    exact iff_of_eq (X_r22_Forms.eq a0_0 a0_1 K).symm
  · left; intro K h
    simp only [e_r22_Forms] at h
    split at h
    · exact hx ⟨_, _, rfl, rfl⟩
    · exact h
noncomputable def e_box_Forms : Entry := ⟨[none], true, fun args H K => match args, H with
  | [.agg [.int .u64 a0_0, .int .u64 a0_1]], [] => box_Forms a0_0 a0_1 (fun y0 y1 => K (EV.func 84 [EV.ptr 0 []]) [some (EV.agg [EV.int IntKind.u64 y0, EV.int IntKind.u64 y1])])
  | _, _ => False⟩
noncomputable def E_box_Forms : Env := ⟨look tys, look [], look [], gl, lookL [], false⟩
theorem X_box_Forms.eq (a0_0 : Int) (a0_1 : Int) (K : EV → Heap → Prop) : evFn E_box_Forms Try.f67 true [.agg [.int .u64 a0_0, .int .u64 a0_1]] [] K = box_Forms a0_0 a0_1 (fun y0 y1 => K (EV.func 84 [EV.ptr 0 []]) [some (EV.agg [EV.int IntKind.u64 y0, EV.int IntKind.u64 y1])]) := by
  rw [box_Forms.is]; exact (evFnQ_eq _ _ _ _ _ _).symm.trans (by kernel_rfl)
theorem X_box_Forms.ok : SoundE Try.prog gl 67 e_box_Forms := by
  refine fnOK (E := E_box_Forms) (fn := Try.f67) rfl tys_ok rfl (show AllL _ [] from trivial) mixed (by kernel_rfl) (by kernel_rfl) (by kernel_rfl) 0 (by kernel_rfl) true trivial ?_
  intro args H
  by_cases hx : ∃ (a0_0 : Int) (a0_1 : Int), args = [.agg [.int .u64 a0_0, .int .u64 a0_1]] ∧ H = []
  · obtain ⟨a0_0, a0_1, rfl, rfl⟩ := hx
    right; intro K
    exact iff_of_eq (X_box_Forms.eq a0_0 a0_1 K).symm
  · left; intro K h
    simp only [e_box_Forms] at h
    split at h
    · exact hx ⟨_, _, rfl, rfl⟩
    · exact h
noncomputable def e_law22_BoxForms : Entry := ⟨[none, none, none], false, fun args H K => match args, H with
  | [.agg [.int .u64 a0_0, .int .u64 a0_1], .arr .u8 2 a1, .int .i64 a2], [] => law22_BoxForms a0_0 a0_1 a1 a2 (fun y0 => K (EV.bool y0) [])
  | _, _ => False⟩
noncomputable def l_law22_BoxForms : List (Nat × Entry) := [(46, e_r22_Width), (53, e_law22_lives), (55, e_r22_Unbox), (58, e_r22_Box), (61, e_box_Within), (66, e_r22_Forms), (67, e_box_Forms)]
noncomputable def E_law22_BoxForms : Env := ⟨look tys, look l_law22_BoxForms, look [], gl, lookL [], false⟩
theorem X_law22_BoxForms.eq (a0_0 : Int) (a0_1 : Int) (a1 : Nat → Int) (a2 : Int) (K : EV → Heap → Prop) : evFnR E_law22_BoxForms (look its) Try.f10 false [.agg [.int .u64 a0_0, .int .u64 a0_1], .arr .u8 2 a1, .int .i64 a2] [] K = law22_BoxForms a0_0 a0_1 a1 a2 (fun y0 => K (EV.bool y0) []) := by
  rw [law22_BoxForms.is]; exact (evFnRQ_eq _ _ _ _ _ _ _).symm.trans (by kernel_rfl)
theorem X_law22_BoxForms.ok : SoundE Try.prog gl 10 e_law22_BoxForms := by
  refine fnOKR (E := E_law22_BoxForms) (fn := Try.f10) rfl tys_ok rfl (show AllL _ l_law22_BoxForms from ⟨X_r22_Width.ok, X_law22_lives.ok, X_r22_Unbox.ok, X_r22_Box.ok, X_box_Within.ok, X_r22_Forms.ok, X_box_Forms.ok, trivial⟩) its_ok mixed (by kernel_rfl) (by kernel_rfl) (by kernel_rfl) false ?_
  intro args H
  by_cases hx : ∃ (a0_0 : Int) (a0_1 : Int) (a1 : Nat → Int) (a2 : Int), args = [.agg [.int .u64 a0_0, .int .u64 a0_1], .arr .u8 2 a1, .int .i64 a2] ∧ H = []
  · obtain ⟨a0_0, a0_1, a1, a2, rfl, rfl⟩ := hx
    right; intro K
    exact iff_of_eq (X_law22_BoxForms.eq a0_0 a0_1 a1 a2 K).symm
  · left; intro K h
    simp only [e_law22_BoxForms] at h
    split at h
    · exact hx ⟨_, _, _, _, rfl, rfl⟩
    · exact h
end Go.Ev.S
