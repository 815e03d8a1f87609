/- The functions, as the evaluator has them. -/
import Derived.Test.YtdnndfaojopnbaaProg
import Derived.Test.YtdnndfaojopnbaaEvTame
import Derived.KernelRfl
set_option maxRecDepth 100000
set_option linter.unusedVariables false
set_option linter.unusedSimpArgs false
namespace Go.Ev.S
open Go Go.Proofs Go.Ev
def tys : List (Nat × TI) := [
  (1, ⟨.func, 1, 8, .nilFunc⟩),
  (2, ⟨.int .i64, 1, 8, .int .i64 0⟩),
  (3, ⟨.int .i64, 1, 8, .int .i64 0⟩),
  (4, ⟨.bool, 1, 1, .bool false⟩),
  (5, ⟨.int .u8, 1, 1, .int .u8 0⟩),
  (6, ⟨.int .u8, 1, 1, .int .u8 0⟩),
  (7, ⟨.struct [(0, 2), (1, 3), (2, 4), (3, 6)], 4, 24, .agg [.int .i64 0, .int .i64 0, .bool false, .int .u8 0]⟩),
  (8, ⟨.struct [(0, 2), (1, 3), (2, 4), (3, 6)], 4, 24, .agg [.int .i64 0, .int .i64 0, .bool false, .int .u8 0]⟩),
  (9, ⟨.str, 1, 16, .str []⟩),
  (10, ⟨.str, 1, 16, .str []⟩),
  (11, ⟨.str, 1, 16, .str []⟩),
  (12, ⟨.int .u64, 1, 8, .int .u64 0⟩),
  (15, ⟨.ptr, 1, 8, .nilPtr⟩),
  (16, ⟨.ptr, 1, 8, .nilPtr⟩),
  (17, ⟨.ptr, 1, 8, .nilPtr⟩),
  (21, ⟨.int .i32, 1, 4, .int .i32 0⟩),
  (22, ⟨.int .u8, 1, 1, .int .u8 0⟩),
  (23, ⟨.int .u8, 1, 1, .int .u8 0⟩),
  (24, ⟨.int .u64, 1, 8, .int .u64 0⟩),
  (25, ⟨.struct [(0, 24), (1, 24)], 2, 16, .agg [.int .u64 0, .int .u64 0]⟩),
  (26, ⟨.struct [(0, 24), (1, 24)], 2, 16, .agg [.int .u64 0, .int .u64 0]⟩),
  (27, ⟨.int .i64, 1, 8, .int .i64 0⟩),
  (28, ⟨.func, 1, 8, .nilFunc⟩),
  (29, ⟨.func, 1, 8, .nilFunc⟩),
  (30, ⟨.func, 1, 8, .nilFunc⟩),
  (31, ⟨.func, 1, 8, .nilFunc⟩),
  (32, ⟨.func, 1, 8, .nilFunc⟩),
  (33, ⟨.func, 1, 8, .nilFunc⟩),
  (34, ⟨.func, 1, 8, .nilFunc⟩),
  (35, ⟨.func, 1, 8, .nilFunc⟩),
  (37, ⟨.func, 1, 8, .nilFunc⟩),
  (39, ⟨.func, 1, 8, .nilFunc⟩),
  (41, ⟨.func, 1, 8, .nilFunc⟩),
  (43, ⟨.func, 1, 8, .nilFunc⟩),
  (44, ⟨.slice 22, 1, 24, .nilSlice⟩),
  (45, ⟨.func, 1, 8, .nilFunc⟩),
  (46, ⟨.func, 1, 8, .nilFunc⟩),
  (47, ⟨.func, 1, 8, .nilFunc⟩),
  (48, ⟨.func, 1, 8, .nilFunc⟩),
  (49, ⟨.func, 1, 8, .nilFunc⟩),
  (50, ⟨.func, 1, 8, .nilFunc⟩),
  (51, ⟨.func, 1, 8, .nilFunc⟩),
  (52, ⟨.func, 1, 8, .nilFunc⟩),
  (54, ⟨.func, 1, 8, .nilFunc⟩),
  (55, ⟨.func, 1, 8, .nilFunc⟩),
  (56, ⟨.func, 1, 8, .nilFunc⟩),
  (57, ⟨.func, 1, 8, .nilFunc⟩),
  (58, ⟨.func, 1, 8, .nilFunc⟩),
  (59, ⟨.func, 1, 8, .nilFunc⟩),
  (60, ⟨.slice 26, 1, 24, .nilSlice⟩),
  (61, ⟨.array 6 24, 6, 48, .arr .u64 6 (fun _ => 0)⟩),
  (62, ⟨.array 6 24, 6, 48, .arr .u64 6 (fun _ => 0)⟩),
  (64, ⟨.func, 1, 8, .nilFunc⟩),
  (65, ⟨.func, 1, 8, .nilFunc⟩),
  (66, ⟨.func, 1, 8, .nilFunc⟩),
  (67, ⟨.func, 1, 8, .nilFunc⟩),
  (68, ⟨.array 2 22, 2, 2, .arr .u8 2 (fun _ => 0)⟩),
  (69, ⟨.func, 1, 8, .nilFunc⟩),
  (70, ⟨.func, 1, 8, .nilFunc⟩),
  (71, ⟨.func, 1, 8, .nilFunc⟩),
  (73, ⟨.func, 1, 8, .nilFunc⟩),
  (74, ⟨.int .u64, 1, 8, .int .u64 0⟩),
  (75, ⟨.func, 1, 8, .nilFunc⟩),
  (76, ⟨.array 4 22, 4, 4, .arr .u8 4 (fun _ => 0)⟩),
  (77, ⟨.func, 1, 8, .nilFunc⟩),
  (78, ⟨.func, 1, 8, .nilFunc⟩),
  (79, ⟨.func, 1, 8, .nilFunc⟩),
  (80, ⟨.func, 1, 8, .nilFunc⟩),
  (81, ⟨.func, 1, 8, .nilFunc⟩),
  (82, ⟨.func, 1, 8, .nilFunc⟩),
  (83, ⟨.slice 3, 1, 24, .nilSlice⟩),
  (84, ⟨.func, 1, 8, .nilFunc⟩),
  (85, ⟨.func, 1, 8, .nilFunc⟩),
  (87, ⟨.func, 1, 8, .nilFunc⟩),
  (88, ⟨.struct [(0, 3), (1, 3), (2, 3), (3, 9)], 4, 40, .agg [.int .i64 0, .int .i64 0, .int .i64 0, .str []]⟩),
  (89, ⟨.array 4 88, 16, 160, .agg [.agg [.int .i64 0, .int .i64 0, .int .i64 0, .str []], .agg [.int .i64 0, .int .i64 0, .int .i64 0, .str []], .agg [.int .i64 0, .int .i64 0, .int .i64 0, .str []], .agg [.int .i64 0, .int .i64 0, .int .i64 0, .str []]]⟩),
  (90, ⟨.func, 1, 8, .nilFunc⟩),
  (92, ⟨.func, 1, 8, .nilFunc⟩),
  (93, ⟨.array 4 26, 8, 64, .agg [.agg [.int .u64 0, .int .u64 0], .agg [.int .u64 0, .int .u64 0], .agg [.int .u64 0, .int .u64 0], .agg [.int .u64 0, .int .u64 0]]⟩),
  (94, ⟨.func, 1, 8, .nilFunc⟩),
  (95, ⟨.func, 1, 8, .nilFunc⟩),
  (98, ⟨.array 0 16, 0, 0, .agg []⟩),
  (101, ⟨.func, 1, 8, .nilFunc⟩),
  (102, ⟨.int .u32, 1, 4, .int .u32 0⟩),
  (103, ⟨.int .u8, 1, 1, .int .u8 0⟩),
  (104, ⟨.int .u8, 1, 1, .int .u8 0⟩),
  (105, ⟨.func, 1, 8, .nilFunc⟩),
  (106, ⟨.ptr, 1, 8, .nilPtr⟩),
  (107, ⟨.int .i32, 1, 4, .int .i32 0⟩),
  (108, ⟨.int .i32, 1, 4, .int .i32 0⟩)]
theorem tys_ok : AllL (OkTI Try.prog) tys :=
  ⟨.of (by kernel_rfl) (by kernel_rfl), .of (by kernel_rfl) (by kernel_rfl), .of (by kernel_rfl) (by kernel_rfl), .of (by kernel_rfl) (by kernel_rfl), .of (by kernel_rfl) (by kernel_rfl), .of (by kernel_rfl) (by kernel_rfl), .of (by kernel_rfl) (by kernel_rfl), .of (by kernel_rfl) (by kernel_rfl), .of (by kernel_rfl) (by kernel_rfl), .of (by kernel_rfl) (by kernel_rfl), .of (by kernel_rfl) (by kernel_rfl), .of (by kernel_rfl) (by kernel_rfl), .of (by kernel_rfl) (by kernel_rfl), .of (by kernel_rfl) (by kernel_rfl), .of (by kernel_rfl) (by kernel_rfl), .of (by kernel_rfl) (by kernel_rfl), .of (by kernel_rfl) (by kernel_rfl), .of (by kernel_rfl) (by kernel_rfl), .of (by kernel_rfl) (by kernel_rfl), .of (by kernel_rfl) (by kernel_rfl), .of (by kernel_rfl) (by kernel_rfl), .of (by kernel_rfl) (by kernel_rfl), .of (by kernel_rfl) (by kernel_rfl), .of (by kernel_rfl) (by kernel_rfl), .of (by kernel_rfl) (by kernel_rfl), .of (by kernel_rfl) (by kernel_rfl), .of (by kernel_rfl) (by kernel_rfl), .of (by kernel_rfl) (by kernel_rfl), .of (by kernel_rfl) (by kernel_rfl), .of (by kernel_rfl) (by kernel_rfl), .of (by kernel_rfl) (by kernel_rfl), .of (by kernel_rfl) (by kernel_rfl), .of (by kernel_rfl) (by kernel_rfl), .of (by kernel_rfl) (by kernel_rfl), .of (by kernel_rfl) (by kernel_rfl), .of (by kernel_rfl) (by kernel_rfl), .of (by kernel_rfl) (by kernel_rfl), .of (by kernel_rfl) (by kernel_rfl), .of (by kernel_rfl) (by kernel_rfl), .of (by kernel_rfl) (by kernel_rfl), .of (by kernel_rfl) (by kernel_rfl), .of (by kernel_rfl) (by kernel_rfl), .of (by kernel_rfl) (by kernel_rfl), .of (by kernel_rfl) (by kernel_rfl), .of (by kernel_rfl) (by kernel_rfl), .of (by kernel_rfl) (by kernel_rfl), .of (by kernel_rfl) (by kernel_rfl), .of (by kernel_rfl) (by kernel_rfl), .of (by kernel_rfl) (by kernel_rfl), .of (by kernel_rfl) (by kernel_rfl), .of (by kernel_rfl) (by kernel_rfl), .of (by kernel_rfl) (by kernel_rfl), .of (by kernel_rfl) (by kernel_rfl), .of (by kernel_rfl) (by kernel_rfl), .of (by kernel_rfl) (by kernel_rfl), .of (by kernel_rfl) (by kernel_rfl), .of (by kernel_rfl) (by kernel_rfl), .of (by kernel_rfl) (by kernel_rfl), .of (by kernel_rfl) (by kernel_rfl), .of (by kernel_rfl) (by kernel_rfl), .of (by kernel_rfl) (by kernel_rfl), .of (by kernel_rfl) (by kernel_rfl), .of (by kernel_rfl) (by kernel_rfl), .of (by kernel_rfl) (by kernel_rfl), .of (by kernel_rfl) (by kernel_rfl), .of (by kernel_rfl) (by kernel_rfl), .of (by kernel_rfl) (by kernel_rfl), .of (by kernel_rfl) (by kernel_rfl), .of (by kernel_rfl) (by kernel_rfl), .of (by kernel_rfl) (by kernel_rfl), .of (by kernel_rfl) (by kernel_rfl), .of (by kernel_rfl) (by kernel_rfl), .of (by kernel_rfl) (by kernel_rfl), .of (by kernel_rfl) (by kernel_rfl), .of (by kernel_rfl) (by kernel_rfl), .of (by kernel_rfl) (by kernel_rfl), .of (by kernel_rfl) (by kernel_rfl), .of (by kernel_rfl) (by kernel_rfl), .of (by kernel_rfl) (by kernel_rfl), .of (by kernel_rfl) (by kernel_rfl), .of (by kernel_rfl) (by kernel_rfl), .of (by kernel_rfl) (by kernel_rfl), .of (by kernel_rfl) (by kernel_rfl), .of (by kernel_rfl) (by kernel_rfl), .of (by kernel_rfl) (by kernel_rfl), .of (by kernel_rfl) (by kernel_rfl), .of (by kernel_rfl) (by kernel_rfl), .of (by kernel_rfl) (by kernel_rfl), .of (by kernel_rfl) (by kernel_rfl), .of (by kernel_rfl) (by kernel_rfl), trivial⟩
theorem mixed : Try.prog.follows .mixedOrders = true := by kernel_rfl
def f11.d (a0 : Int) (K : Int → Prop) : Prop :=
  br (ltI 3 a0) (K 2) (K 0)
noncomputable def f11 : Int → (Int → Prop) → Prop := Classical.choose (⟨f11.d, rfl⟩ : ∃ f, f = f11.d)
theorem f11.is : f11 = f11.d := Classical.choose_spec (⟨f11.d, rfl⟩ : ∃ f, f = f11.d)
noncomputable def e11 : Entry := ⟨[none], fun args K => match args with
  | [.int .u8 a0] => f11 a0 (fun r0 => K (.int .i64 r0))
  | _ => False⟩
noncomputable def E11 : Env := ⟨look tys, look [], look []⟩
theorem f11.eq (a0 : Int) (K : EV → Prop) : evFn E11 Try.f11 [.int .u8 a0] K = f11 a0 (fun r0 => K (.int .i64 r0)) := by
  have h : evFn E11 Try.f11 [.int .u8 a0] K = f11.d a0 (fun r0 => K (.int .i64 r0)) := by kernel_rfl
  rw [f11.is]; exact h
theorem f11.ok : SoundE Try.prog 11 e11 := by
  refine fnOK (E := E11) (fn := Try.f11) rfl tys_ok rfl (show AllL _ [] from trivial) mixed (by kernel_rfl) (by kernel_rfl) (by kernel_rfl) 0 (by kernel_rfl) trivial ?_
  intro args
  by_cases hx : ∃ (a0 : Int), args = [.int .u8 a0]
  · obtain ⟨a0, rfl⟩ := hx
    right; intro K
    exact iff_of_eq (f11.eq a0 K).symm
  · left; intro K h
    simp only [e11] at h
    split at h
    · exact hx ⟨_, rfl⟩
    · exact h
def f12.d (a0 : Int) (K : Bool → Prop) : Prop :=
  K (leI a0 3)
noncomputable def f12 : Int → (Bool → Prop) → Prop := Classical.choose (⟨f12.d, rfl⟩ : ∃ f, f = f12.d)
theorem f12.is : f12 = f12.d := Classical.choose_spec (⟨f12.d, rfl⟩ : ∃ f, f = f12.d)
noncomputable def e12 : Entry := ⟨[none], fun args K => match args with
  | [.int .u8 a0] => f12 a0 (fun r0 => K (.bool r0))
  | _ => False⟩
noncomputable def E12 : Env := ⟨look tys, look [], look []⟩
theorem f12.eq (a0 : Int) (K : EV → Prop) : evFn E12 Try.f12 [.int .u8 a0] K = f12 a0 (fun r0 => K (.bool r0)) := by
  have h : evFn E12 Try.f12 [.int .u8 a0] K = f12.d a0 (fun r0 => K (.bool r0)) := by kernel_rfl
  rw [f12.is]; exact h
theorem f12.ok : SoundE Try.prog 12 e12 := by
  refine fnOK (E := E12) (fn := Try.f12) rfl tys_ok rfl (show AllL _ [] from trivial) mixed (by kernel_rfl) (by kernel_rfl) (by kernel_rfl) 0 (by kernel_rfl) trivial ?_
  intro args
  by_cases hx : ∃ (a0 : Int), args = [.int .u8 a0]
  · obtain ⟨a0, rfl⟩ := hx
    right; intro K
    exact iff_of_eq (f12.eq a0 K).symm
  · left; intro K h
    simp only [e12] at h
    split at h
    · exact hx ⟨_, rfl⟩
    · exact h
def f13.d (a0 : Int) (K : Int → Prop) : Prop :=
  br (ltI 4 a0) (K 2) (K 0)
noncomputable def f13 : Int → (Int → Prop) → Prop := Classical.choose (⟨f13.d, rfl⟩ : ∃ f, f = f13.d)
theorem f13.is : f13 = f13.d := Classical.choose_spec (⟨f13.d, rfl⟩ : ∃ f, f = f13.d)
noncomputable def e13 : Entry := ⟨[none], fun args K => match args with
  | [.int .u8 a0] => f13 a0 (fun r0 => K (.int .i64 r0))
  | _ => False⟩
noncomputable def E13 : Env := ⟨look tys, look [], look []⟩
theorem f13.eq (a0 : Int) (K : EV → Prop) : evFn E13 Try.f13 [.int .u8 a0] K = f13 a0 (fun r0 => K (.int .i64 r0)) := by
  have h : evFn E13 Try.f13 [.int .u8 a0] K = f13.d a0 (fun r0 => K (.int .i64 r0)) := by kernel_rfl
  rw [f13.is]; exact h
theorem f13.ok : SoundE Try.prog 13 e13 := by
  refine fnOK (E := E13) (fn := Try.f13) rfl tys_ok rfl (show AllL _ [] from trivial) mixed (by kernel_rfl) (by kernel_rfl) (by kernel_rfl) 0 (by kernel_rfl) trivial ?_
  intro args
  by_cases hx : ∃ (a0 : Int), args = [.int .u8 a0]
  · obtain ⟨a0, rfl⟩ := hx
    right; intro K
    exact iff_of_eq (f13.eq a0 K).symm
  · left; intro K h
    simp only [e13] at h
    split at h
    · exact hx ⟨_, rfl⟩
    · exact h
def f14.d (a0 : Int) (K : Bool → Prop) : Prop :=
  K (leI a0 4)
noncomputable def f14 : Int → (Bool → Prop) → Prop := Classical.choose (⟨f14.d, rfl⟩ : ∃ f, f = f14.d)
theorem f14.is : f14 = f14.d := Classical.choose_spec (⟨f14.d, rfl⟩ : ∃ f, f = f14.d)
noncomputable def e14 : Entry := ⟨[none], fun args K => match args with
  | [.int .u8 a0] => f14 a0 (fun r0 => K (.bool r0))
  | _ => False⟩
noncomputable def E14 : Env := ⟨look tys, look [], look []⟩
theorem f14.eq (a0 : Int) (K : EV → Prop) : evFn E14 Try.f14 [.int .u8 a0] K = f14 a0 (fun r0 => K (.bool r0)) := by
  have h : evFn E14 Try.f14 [.int .u8 a0] K = f14.d a0 (fun r0 => K (.bool r0)) := by kernel_rfl
  rw [f14.is]; exact h
theorem f14.ok : SoundE Try.prog 14 e14 := by
  refine fnOK (E := E14) (fn := Try.f14) rfl tys_ok rfl (show AllL _ [] from trivial) mixed (by kernel_rfl) (by kernel_rfl) (by kernel_rfl) 0 (by kernel_rfl) trivial ?_
  intro args
  by_cases hx : ∃ (a0 : Int), args = [.int .u8 a0]
  · obtain ⟨a0, rfl⟩ := hx
    right; intro K
    exact iff_of_eq (f14.eq a0 K).symm
  · left; intro K h
    simp only [e14] at h
    split at h
    · exact hx ⟨_, rfl⟩
    · exact h
def f68.d (a0 : Int) (K : Int → Int → Int → List UInt8 → Prop) : Prop :=
  br (leI 4 (cvI IntKind.i64 a0)) (K 0 0 0 []) (br (eqI a0 0) (br (eqI a0 0) (br (eqI a0 0) (br (eqI a0 0) (K 32 24 127 [115]) (br (eqI a0 1) (K 32 24 127 [100]) (br (eqI a0 2) (K 32 24 127 [104]) (br (eqI a0 3) (K 32 24 127 [113]) False)))) (br (eqI a0 1) (br (eqI a0 0) (K 32 24 1023 [115]) (br (eqI a0 1) (K 32 24 1023 [100]) (br (eqI a0 2) (K 32 24 1023 [104]) (br (eqI a0 3) (K 32 24 1023 [113]) False)))) (br (eqI a0 2) (br (eqI a0 0) (K 32 24 15 [115]) (br (eqI a0 1) (K 32 24 15 [100]) (br (eqI a0 2) (K 32 24 15 [104]) (br (eqI a0 3) (K 32 24 15 [113]) False)))) (br (eqI a0 3) (br (eqI a0 0) (K 32 24 16383 [115]) (br (eqI a0 1) (K 32 24 16383 [100]) (br (eqI a0 2) (K 32 24 16383 [104]) (br (eqI a0 3) (K 32 24 16383 [113]) False)))) False)))) (br (eqI a0 1) (br (eqI a0 0) (br (eqI a0 0) (K 32 53 127 [115]) (br (eqI a0 1) (K 32 53 127 [100]) (br (eqI a0 2) (K 32 53 127 [104]) (br (eqI a0 3) (K 32 53 127 [113]) False)))) (br (eqI a0 1) (br (eqI a0 0) (K 32 53 1023 [115]) (br (eqI a0 1) (K 32 53 1023 [100]) (br (eqI a0 2) (K 32 53 1023 [104]) (br (eqI a0 3) (K 32 53 1023 [113]) False)))) (br (eqI a0 2) (br (eqI a0 0) (K 32 53 15 [115]) (br (eqI a0 1) (K 32 53 15 [100]) (br (eqI a0 2) (K 32 53 15 [104]) (br (eqI a0 3) (K 32 53 15 [113]) False)))) (br (eqI a0 3) (br (eqI a0 0) (K 32 53 16383 [115]) (br (eqI a0 1) (K 32 53 16383 [100]) (br (eqI a0 2) (K 32 53 16383 [104]) (br (eqI a0 3) (K 32 53 16383 [113]) False)))) False)))) (br (eqI a0 2) (br (eqI a0 0) (br (eqI a0 0) (K 32 11 127 [115]) (br (eqI a0 1) (K 32 11 127 [100]) (br (eqI a0 2) (K 32 11 127 [104]) (br (eqI a0 3) (K 32 11 127 [113]) False)))) (br (eqI a0 1) (br (eqI a0 0) (K 32 11 1023 [115]) (br (eqI a0 1) (K 32 11 1023 [100]) (br (eqI a0 2) (K 32 11 1023 [104]) (br (eqI a0 3) (K 32 11 1023 [113]) False)))) (br (eqI a0 2) (br (eqI a0 0) (K 32 11 15 [115]) (br (eqI a0 1) (K 32 11 15 [100]) (br (eqI a0 2) (K 32 11 15 [104]) (br (eqI a0 3) (K 32 11 15 [113]) False)))) (br (eqI a0 3) (br (eqI a0 0) (K 32 11 16383 [115]) (br (eqI a0 1) (K 32 11 16383 [100]) (br (eqI a0 2) (K 32 11 16383 [104]) (br (eqI a0 3) (K 32 11 16383 [113]) False)))) False)))) (br (eqI a0 3) (br (eqI a0 0) (br (eqI a0 0) (K 32 113 127 [115]) (br (eqI a0 1) (K 32 113 127 [100]) (br (eqI a0 2) (K 32 113 127 [104]) (br (eqI a0 3) (K 32 113 127 [113]) False)))) (br (eqI a0 1) (br (eqI a0 0) (K 32 113 1023 [115]) (br (eqI a0 1) (K 32 113 1023 [100]) (br (eqI a0 2) (K 32 113 1023 [104]) (br (eqI a0 3) (K 32 113 1023 [113]) False)))) (br (eqI a0 2) (br (eqI a0 0) (K 32 113 15 [115]) (br (eqI a0 1) (K 32 113 15 [100]) (br (eqI a0 2) (K 32 113 15 [104]) (br (eqI a0 3) (K 32 113 15 [113]) False)))) (br (eqI a0 3) (br (eqI a0 0) (K 32 113 16383 [115]) (br (eqI a0 1) (K 32 113 16383 [100]) (br (eqI a0 2) (K 32 113 16383 [104]) (br (eqI a0 3) (K 32 113 16383 [113]) False)))) False)))) False)))) (br (eqI a0 1) (br (eqI a0 0) (br (eqI a0 0) (br (eqI a0 0) (K 64 24 127 [115]) (br (eqI a0 1) (K 64 24 127 [100]) (br (eqI a0 2) (K 64 24 127 [104]) (br (eqI a0 3) (K 64 24 127 [113]) False)))) (br (eqI a0 1) (br (eqI a0 0) (K 64 24 1023 [115]) (br (eqI a0 1) (K 64 24 1023 [100]) (br (eqI a0 2) (K 64 24 1023 [104]) (br (eqI a0 3) (K 64 24 1023 [113]) False)))) (br (eqI a0 2) (br (eqI a0 0) (K 64 24 15 [115]) (br (eqI a0 1) (K 64 24 15 [100]) (br (eqI a0 2) (K 64 24 15 [104]) (br (eqI a0 3) (K 64 24 15 [113]) False)))) (br (eqI a0 3) (br (eqI a0 0) (K 64 24 16383 [115]) (br (eqI a0 1) (K 64 24 16383 [100]) (br (eqI a0 2) (K 64 24 16383 [104]) (br (eqI a0 3) (K 64 24 16383 [113]) False)))) False)))) (br (eqI a0 1) (br (eqI a0 0) (br (eqI a0 0) (K 64 53 127 [115]) (br (eqI a0 1) (K 64 53 127 [100]) (br (eqI a0 2) (K 64 53 127 [104]) (br (eqI a0 3) (K 64 53 127 [113]) False)))) (br (eqI a0 1) (br (eqI a0 0) (K 64 53 1023 [115]) (br (eqI a0 1) (K 64 53 1023 [100]) (br (eqI a0 2) (K 64 53 1023 [104]) (br (eqI a0 3) (K 64 53 1023 [113]) False)))) (br (eqI a0 2) (br (eqI a0 0) (K 64 53 15 [115]) (br (eqI a0 1) (K 64 53 15 [100]) (br (eqI a0 2) (K 64 53 15 [104]) (br (eqI a0 3) (K 64 53 15 [113]) False)))) (br (eqI a0 3) (br (eqI a0 0) (K 64 53 16383 [115]) (br (eqI a0 1) (K 64 53 16383 [100]) (br (eqI a0 2) (K 64 53 16383 [104]) (br (eqI a0 3) (K 64 53 16383 [113]) False)))) False)))) (br (eqI a0 2) (br (eqI a0 0) (br (eqI a0 0) (K 64 11 127 [115]) (br (eqI a0 1) (K 64 11 127 [100]) (br (eqI a0 2) (K 64 11 127 [104]) (br (eqI a0 3) (K 64 11 127 [113]) False)))) (br (eqI a0 1) (br (eqI a0 0) (K 64 11 1023 [115]) (br (eqI a0 1) (K 64 11 1023 [100]) (br (eqI a0 2) (K 64 11 1023 [104]) (br (eqI a0 3) (K 64 11 1023 [113]) False)))) (br (eqI a0 2) (br (eqI a0 0) (K 64 11 15 [115]) (br (eqI a0 1) (K 64 11 15 [100]) (br (eqI a0 2) (K 64 11 15 [104]) (br (eqI a0 3) (K 64 11 15 [113]) False)))) (br (eqI a0 3) (br (eqI a0 0) (K 64 11 16383 [115]) (br (eqI a0 1) (K 64 11 16383 [100]) (br (eqI a0 2) (K 64 11 16383 [104]) (br (eqI a0 3) (K 64 11 16383 [113]) False)))) False)))) (br (eqI a0 3) (br (eqI a0 0) (br (eqI a0 0) (K 64 113 127 [115]) (br (eqI a0 1) (K 64 113 127 [100]) (br (eqI a0 2) (K 64 113 127 [104]) (br (eqI a0 3) (K 64 113 127 [113]) False)))) (br (eqI a0 1) (br (eqI a0 0) (K 64 113 1023 [115]) (br (eqI a0 1) (K 64 113 1023 [100]) (br (eqI a0 2) (K 64 113 1023 [104]) (br (eqI a0 3) (K 64 113 1023 [113]) False)))) (br (eqI a0 2) (br (eqI a0 0) (K 64 113 15 [115]) (br (eqI a0 1) (K 64 113 15 [100]) (br (eqI a0 2) (K 64 113 15 [104]) (br (eqI a0 3) (K 64 113 15 [113]) False)))) (br (eqI a0 3) (br (eqI a0 0) (K 64 113 16383 [115]) (br (eqI a0 1) (K 64 113 16383 [100]) (br (eqI a0 2) (K 64 113 16383 [104]) (br (eqI a0 3) (K 64 113 16383 [113]) False)))) False)))) False)))) (br (eqI a0 2) (br (eqI a0 0) (br (eqI a0 0) (br (eqI a0 0) (K 16 24 127 [115]) (br (eqI a0 1) (K 16 24 127 [100]) (br (eqI a0 2) (K 16 24 127 [104]) (br (eqI a0 3) (K 16 24 127 [113]) False)))) (br (eqI a0 1) (br (eqI a0 0) (K 16 24 1023 [115]) (br (eqI a0 1) (K 16 24 1023 [100]) (br (eqI a0 2) (K 16 24 1023 [104]) (br (eqI a0 3) (K 16 24 1023 [113]) False)))) (br (eqI a0 2) (br (eqI a0 0) (K 16 24 15 [115]) (br (eqI a0 1) (K 16 24 15 [100]) (br (eqI a0 2) (K 16 24 15 [104]) (br (eqI a0 3) (K 16 24 15 [113]) False)))) (br (eqI a0 3) (br (eqI a0 0) (K 16 24 16383 [115]) (br (eqI a0 1) (K 16 24 16383 [100]) (br (eqI a0 2) (K 16 24 16383 [104]) (br (eqI a0 3) (K 16 24 16383 [113]) False)))) False)))) (br (eqI a0 1) (br (eqI a0 0) (br (eqI a0 0) (K 16 53 127 [115]) (br (eqI a0 1) (K 16 53 127 [100]) (br (eqI a0 2) (K 16 53 127 [104]) (br (eqI a0 3) (K 16 53 127 [113]) False)))) (br (eqI a0 1) (br (eqI a0 0) (K 16 53 1023 [115]) (br (eqI a0 1) (K 16 53 1023 [100]) (br (eqI a0 2) (K 16 53 1023 [104]) (br (eqI a0 3) (K 16 53 1023 [113]) False)))) (br (eqI a0 2) (br (eqI a0 0) (K 16 53 15 [115]) (br (eqI a0 1) (K 16 53 15 [100]) (br (eqI a0 2) (K 16 53 15 [104]) (br (eqI a0 3) (K 16 53 15 [113]) False)))) (br (eqI a0 3) (br (eqI a0 0) (K 16 53 16383 [115]) (br (eqI a0 1) (K 16 53 16383 [100]) (br (eqI a0 2) (K 16 53 16383 [104]) (br (eqI a0 3) (K 16 53 16383 [113]) False)))) False)))) (br (eqI a0 2) (br (eqI a0 0) (br (eqI a0 0) (K 16 11 127 [115]) (br (eqI a0 1) (K 16 11 127 [100]) (br (eqI a0 2) (K 16 11 127 [104]) (br (eqI a0 3) (K 16 11 127 [113]) False)))) (br (eqI a0 1) (br (eqI a0 0) (K 16 11 1023 [115]) (br (eqI a0 1) (K 16 11 1023 [100]) (br (eqI a0 2) (K 16 11 1023 [104]) (br (eqI a0 3) (K 16 11 1023 [113]) False)))) (br (eqI a0 2) (br (eqI a0 0) (K 16 11 15 [115]) (br (eqI a0 1) (K 16 11 15 [100]) (br (eqI a0 2) (K 16 11 15 [104]) (br (eqI a0 3) (K 16 11 15 [113]) False)))) (br (eqI a0 3) (br (eqI a0 0) (K 16 11 16383 [115]) (br (eqI a0 1) (K 16 11 16383 [100]) (br (eqI a0 2) (K 16 11 16383 [104]) (br (eqI a0 3) (K 16 11 16383 [113]) False)))) False)))) (br (eqI a0 3) (br (eqI a0 0) (br (eqI a0 0) (K 16 113 127 [115]) (br (eqI a0 1) (K 16 113 127 [100]) (br (eqI a0 2) (K 16 113 127 [104]) (br (eqI a0 3) (K 16 113 127 [113]) False)))) (br (eqI a0 1) (br (eqI a0 0) (K 16 113 1023 [115]) (br (eqI a0 1) (K 16 113 1023 [100]) (br (eqI a0 2) (K 16 113 1023 [104]) (br (eqI a0 3) (K 16 113 1023 [113]) False)))) (br (eqI a0 2) (br (eqI a0 0) (K 16 113 15 [115]) (br (eqI a0 1) (K 16 113 15 [100]) (br (eqI a0 2) (K 16 113 15 [104]) (br (eqI a0 3) (K 16 113 15 [113]) False)))) (br (eqI a0 3) (br (eqI a0 0) (K 16 113 16383 [115]) (br (eqI a0 1) (K 16 113 16383 [100]) (br (eqI a0 2) (K 16 113 16383 [104]) (br (eqI a0 3) (K 16 113 16383 [113]) False)))) False)))) False)))) (br (eqI a0 3) (br (eqI a0 0) (br (eqI a0 0) (br (eqI a0 0) (K 128 24 127 [115]) (br (eqI a0 1) (K 128 24 127 [100]) (br (eqI a0 2) (K 128 24 127 [104]) (br (eqI a0 3) (K 128 24 127 [113]) False)))) (br (eqI a0 1) (br (eqI a0 0) (K 128 24 1023 [115]) (br (eqI a0 1) (K 128 24 1023 [100]) (br (eqI a0 2) (K 128 24 1023 [104]) (br (eqI a0 3) (K 128 24 1023 [113]) False)))) (br (eqI a0 2) (br (eqI a0 0) (K 128 24 15 [115]) (br (eqI a0 1) (K 128 24 15 [100]) (br (eqI a0 2) (K 128 24 15 [104]) (br (eqI a0 3) (K 128 24 15 [113]) False)))) (br (eqI a0 3) (br (eqI a0 0) (K 128 24 16383 [115]) (br (eqI a0 1) (K 128 24 16383 [100]) (br (eqI a0 2) (K 128 24 16383 [104]) (br (eqI a0 3) (K 128 24 16383 [113]) False)))) False)))) (br (eqI a0 1) (br (eqI a0 0) (br (eqI a0 0) (K 128 53 127 [115]) (br (eqI a0 1) (K 128 53 127 [100]) (br (eqI a0 2) (K 128 53 127 [104]) (br (eqI a0 3) (K 128 53 127 [113]) False)))) (br (eqI a0 1) (br (eqI a0 0) (K 128 53 1023 [115]) (br (eqI a0 1) (K 128 53 1023 [100]) (br (eqI a0 2) (K 128 53 1023 [104]) (br (eqI a0 3) (K 128 53 1023 [113]) False)))) (br (eqI a0 2) (br (eqI a0 0) (K 128 53 15 [115]) (br (eqI a0 1) (K 128 53 15 [100]) (br (eqI a0 2) (K 128 53 15 [104]) (br (eqI a0 3) (K 128 53 15 [113]) False)))) (br (eqI a0 3) (br (eqI a0 0) (K 128 53 16383 [115]) (br (eqI a0 1) (K 128 53 16383 [100]) (br (eqI a0 2) (K 128 53 16383 [104]) (br (eqI a0 3) (K 128 53 16383 [113]) False)))) False)))) (br (eqI a0 2) (br (eqI a0 0) (br (eqI a0 0) (K 128 11 127 [115]) (br (eqI a0 1) (K 128 11 127 [100]) (br (eqI a0 2) (K 128 11 127 [104]) (br (eqI a0 3) (K 128 11 127 [113]) False)))) (br (eqI a0 1) (br (eqI a0 0) (K 128 11 1023 [115]) (br (eqI a0 1) (K 128 11 1023 [100]) (br (eqI a0 2) (K 128 11 1023 [104]) (br (eqI a0 3) (K 128 11 1023 [113]) False)))) (br (eqI a0 2) (br (eqI a0 0) (K 128 11 15 [115]) (br (eqI a0 1) (K 128 11 15 [100]) (br (eqI a0 2) (K 128 11 15 [104]) (br (eqI a0 3) (K 128 11 15 [113]) False)))) (br (eqI a0 3) (br (eqI a0 0) (K 128 11 16383 [115]) (br (eqI a0 1) (K 128 11 16383 [100]) (br (eqI a0 2) (K 128 11 16383 [104]) (br (eqI a0 3) (K 128 11 16383 [113]) False)))) False)))) (br (eqI a0 3) (br (eqI a0 0) (br (eqI a0 0) (K 128 113 127 [115]) (br (eqI a0 1) (K 128 113 127 [100]) (br (eqI a0 2) (K 128 113 127 [104]) (br (eqI a0 3) (K 128 113 127 [113]) False)))) (br (eqI a0 1) (br (eqI a0 0) (K 128 113 1023 [115]) (br (eqI a0 1) (K 128 113 1023 [100]) (br (eqI a0 2) (K 128 113 1023 [104]) (br (eqI a0 3) (K 128 113 1023 [113]) False)))) (br (eqI a0 2) (br (eqI a0 0) (K 128 113 15 [115]) (br (eqI a0 1) (K 128 113 15 [100]) (br (eqI a0 2) (K 128 113 15 [104]) (br (eqI a0 3) (K 128 113 15 [113]) False)))) (br (eqI a0 3) (br (eqI a0 0) (K 128 113 16383 [115]) (br (eqI a0 1) (K 128 113 16383 [100]) (br (eqI a0 2) (K 128 113 16383 [104]) (br (eqI a0 3) (K 128 113 16383 [113]) False)))) False)))) False)))) False))))
noncomputable def f68 : Int → (Int → Int → Int → List UInt8 → Prop) → Prop := Classical.choose (⟨f68.d, rfl⟩ : ∃ f, f = f68.d)
theorem f68.is : f68 = f68.d := Classical.choose_spec (⟨f68.d, rfl⟩ : ∃ f, f = f68.d)
noncomputable def e68 : Entry := ⟨[none], fun args K => match args with
  | [.int .u8 a0] => f68 a0 (fun r0 r1 r2 r3 => K (.tuple [.int .i64 r0, .int .i64 r1, .int .i64 r2, .str r3]))
  | _ => False⟩
noncomputable def E68 : Env := ⟨look tys, look [], look []⟩
theorem f68.eq (a0 : Int) (K : EV → Prop) : evFn E68 Try.f68 [.int .u8 a0] K = f68 a0 (fun r0 r1 r2 r3 => K (.tuple [.int .i64 r0, .int .i64 r1, .int .i64 r2, .str r3])) := by
  have h : evFn E68 Try.f68 [.int .u8 a0] K = f68.d a0 (fun r0 r1 r2 r3 => K (.tuple [.int .i64 r0, .int .i64 r1, .int .i64 r2, .str r3])) := by kernel_rfl
  rw [f68.is]; exact h
theorem f68.ok : SoundE Try.prog 68 e68 := by
  refine fnOK (E := E68) (fn := Try.f68) rfl tys_ok rfl (show AllL _ [] from trivial) mixed (by kernel_rfl) (by kernel_rfl) (by kernel_rfl) 0 (by kernel_rfl) trivial ?_
  intro args
  by_cases hx : ∃ (a0 : Int), args = [.int .u8 a0]
  · obtain ⟨a0, rfl⟩ := hx
    right; intro K
    exact iff_of_eq (f68.eq a0 K).symm
  · left; intro K h
    simp only [e68] at h
    split at h
    · exact hx ⟨_, rfl⟩
    · exact h
def f15.d (a0 : Int) (K : Int → Prop) : Prop :=
  f68 a0 fun r0 r1 r2 r3 => K r0
noncomputable def f15 : Int → (Int → Prop) → Prop := Classical.choose (⟨f15.d, rfl⟩ : ∃ f, f = f15.d)
theorem f15.is : f15 = f15.d := Classical.choose_spec (⟨f15.d, rfl⟩ : ∃ f, f = f15.d)
noncomputable def e15 : Entry := ⟨[none], fun args K => match args with
  | [.int .u8 a0] => f15 a0 (fun r0 => K (.int .i64 r0))
  | _ => False⟩
noncomputable def E15 : Env := ⟨look tys, look [(68, e68)], look []⟩
theorem f15.eq (a0 : Int) (K : EV → Prop) : evFn E15 Try.f15 [.int .u8 a0] K = f15 a0 (fun r0 => K (.int .i64 r0)) := by
  have h : evFn E15 Try.f15 [.int .u8 a0] K = f15.d a0 (fun r0 => K (.int .i64 r0)) := by kernel_rfl
  rw [f15.is]; exact h
theorem f15.ok : SoundE Try.prog 15 e15 := by
  refine fnOK (E := E15) (fn := Try.f15) rfl tys_ok rfl (show AllL _ [(68, e68)] from ⟨f68.ok, trivial⟩) mixed (by kernel_rfl) (by kernel_rfl) (by kernel_rfl) 0 (by kernel_rfl) trivial ?_
  intro args
  by_cases hx : ∃ (a0 : Int), args = [.int .u8 a0]
  · obtain ⟨a0, rfl⟩ := hx
    right; intro K
    exact iff_of_eq (f15.eq a0 K).symm
  · left; intro K h
    simp only [e15] at h
    split at h
    · exact hx ⟨_, rfl⟩
    · exact h
def f16.d (a0 : Int) (K : Int → Prop) : Prop :=
  br (eqI a0 2) (K 16) (br (eqI a0 0) (K 32) (br (eqI a0 1) (K 64) (br (eqI a0 3) (K 128) (K 0))))
noncomputable def f16 : Int → (Int → Prop) → Prop := Classical.choose (⟨f16.d, rfl⟩ : ∃ f, f = f16.d)
theorem f16.is : f16 = f16.d := Classical.choose_spec (⟨f16.d, rfl⟩ : ∃ f, f = f16.d)
noncomputable def e16 : Entry := ⟨[none], fun args K => match args with
  | [.int .u8 a0] => f16 a0 (fun r0 => K (.int .i64 r0))
  | _ => False⟩
noncomputable def E16 : Env := ⟨look tys, look [], look []⟩
theorem f16.eq (a0 : Int) (K : EV → Prop) : evFn E16 Try.f16 [.int .u8 a0] K = f16 a0 (fun r0 => K (.int .i64 r0)) := by
  have h : evFn E16 Try.f16 [.int .u8 a0] K = f16.d a0 (fun r0 => K (.int .i64 r0)) := by kernel_rfl
  rw [f16.is]; exact h
theorem f16.ok : SoundE Try.prog 16 e16 := by
  refine fnOK (E := E16) (fn := Try.f16) rfl tys_ok rfl (show AllL _ [] from trivial) mixed (by kernel_rfl) (by kernel_rfl) (by kernel_rfl) 0 (by kernel_rfl) trivial ?_
  intro args
  by_cases hx : ∃ (a0 : Int), args = [.int .u8 a0]
  · obtain ⟨a0, rfl⟩ := hx
    right; intro K
    exact iff_of_eq (f16.eq a0 K).symm
  · left; intro K h
    simp only [e16] at h
    split at h
    · exact hx ⟨_, rfl⟩
    · exact h
def f17.d (a0 : Int) (K : Int → Prop) : Prop :=
  f68 a0 fun r0 r1 r2 r3 => K r1
noncomputable def f17 : Int → (Int → Prop) → Prop := Classical.choose (⟨f17.d, rfl⟩ : ∃ f, f = f17.d)
theorem f17.is : f17 = f17.d := Classical.choose_spec (⟨f17.d, rfl⟩ : ∃ f, f = f17.d)
noncomputable def e17 : Entry := ⟨[none], fun args K => match args with
  | [.int .u8 a0] => f17 a0 (fun r0 => K (.int .i64 r0))
  | _ => False⟩
noncomputable def E17 : Env := ⟨look tys, look [(68, e68)], look []⟩
theorem f17.eq (a0 : Int) (K : EV → Prop) : evFn E17 Try.f17 [.int .u8 a0] K = f17 a0 (fun r0 => K (.int .i64 r0)) := by
  have h : evFn E17 Try.f17 [.int .u8 a0] K = f17.d a0 (fun r0 => K (.int .i64 r0)) := by kernel_rfl
  rw [f17.is]; exact h
theorem f17.ok : SoundE Try.prog 17 e17 := by
  refine fnOK (E := E17) (fn := Try.f17) rfl tys_ok rfl (show AllL _ [(68, e68)] from ⟨f68.ok, trivial⟩) mixed (by kernel_rfl) (by kernel_rfl) (by kernel_rfl) 0 (by kernel_rfl) trivial ?_
  intro args
  by_cases hx : ∃ (a0 : Int), args = [.int .u8 a0]
  · obtain ⟨a0, rfl⟩ := hx
    right; intro K
    exact iff_of_eq (f17.eq a0 K).symm
  · left; intro K h
    simp only [e17] at h
    split at h
    · exact hx ⟨_, rfl⟩
    · exact h
def f18.d (a0 : Int) (K : Int → Prop) : Prop :=
  br (eqI a0 2) (K 11) (br (eqI a0 0) (K 24) (br (eqI a0 1) (K 53) (br (eqI a0 3) (K 113) (K 0))))
noncomputable def f18 : Int → (Int → Prop) → Prop := Classical.choose (⟨f18.d, rfl⟩ : ∃ f, f = f18.d)
theorem f18.is : f18 = f18.d := Classical.choose_spec (⟨f18.d, rfl⟩ : ∃ f, f = f18.d)
noncomputable def e18 : Entry := ⟨[none], fun args K => match args with
  | [.int .u8 a0] => f18 a0 (fun r0 => K (.int .i64 r0))
  | _ => False⟩
noncomputable def E18 : Env := ⟨look tys, look [], look []⟩
theorem f18.eq (a0 : Int) (K : EV → Prop) : evFn E18 Try.f18 [.int .u8 a0] K = f18 a0 (fun r0 => K (.int .i64 r0)) := by
  have h : evFn E18 Try.f18 [.int .u8 a0] K = f18.d a0 (fun r0 => K (.int .i64 r0)) := by kernel_rfl
  rw [f18.is]; exact h
theorem f18.ok : SoundE Try.prog 18 e18 := by
  refine fnOK (E := E18) (fn := Try.f18) rfl tys_ok rfl (show AllL _ [] from trivial) mixed (by kernel_rfl) (by kernel_rfl) (by kernel_rfl) 0 (by kernel_rfl) trivial ?_
  intro args
  by_cases hx : ∃ (a0 : Int), args = [.int .u8 a0]
  · obtain ⟨a0, rfl⟩ := hx
    right; intro K
    exact iff_of_eq (f18.eq a0 K).symm
  · left; intro K h
    simp only [e18] at h
    split at h
    · exact hx ⟨_, rfl⟩
    · exact h
def f19.d (a0 : Int) (K : Int → Prop) : Prop :=
  f68 a0 fun r0 r1 r2 r3 => K r2
noncomputable def f19 : Int → (Int → Prop) → Prop := Classical.choose (⟨f19.d, rfl⟩ : ∃ f, f = f19.d)
theorem f19.is : f19 = f19.d := Classical.choose_spec (⟨f19.d, rfl⟩ : ∃ f, f = f19.d)
noncomputable def e19 : Entry := ⟨[none], fun args K => match args with
  | [.int .u8 a0] => f19 a0 (fun r0 => K (.int .i64 r0))
  | _ => False⟩
noncomputable def E19 : Env := ⟨look tys, look [(68, e68)], look []⟩
theorem f19.eq (a0 : Int) (K : EV → Prop) : evFn E19 Try.f19 [.int .u8 a0] K = f19 a0 (fun r0 => K (.int .i64 r0)) := by
  have h : evFn E19 Try.f19 [.int .u8 a0] K = f19.d a0 (fun r0 => K (.int .i64 r0)) := by kernel_rfl
  rw [f19.is]; exact h
theorem f19.ok : SoundE Try.prog 19 e19 := by
  refine fnOK (E := E19) (fn := Try.f19) rfl tys_ok rfl (show AllL _ [(68, e68)] from ⟨f68.ok, trivial⟩) mixed (by kernel_rfl) (by kernel_rfl) (by kernel_rfl) 0 (by kernel_rfl) trivial ?_
  intro args
  by_cases hx : ∃ (a0 : Int), args = [.int .u8 a0]
  · obtain ⟨a0, rfl⟩ := hx
    right; intro K
    exact iff_of_eq (f19.eq a0 K).symm
  · left; intro K h
    simp only [e19] at h
    split at h
    · exact hx ⟨_, rfl⟩
    · exact h
def f20.d (a0 : Int) (K : Int → Prop) : Prop :=
  br (eqI a0 2) (K 15) (br (eqI a0 0) (K 127) (br (eqI a0 1) (K 1023) (br (eqI a0 3) (K 16383) (K 0))))
noncomputable def f20 : Int → (Int → Prop) → Prop := Classical.choose (⟨f20.d, rfl⟩ : ∃ f, f = f20.d)
theorem f20.is : f20 = f20.d := Classical.choose_spec (⟨f20.d, rfl⟩ : ∃ f, f = f20.d)
noncomputable def e20 : Entry := ⟨[none], fun args K => match args with
  | [.int .u8 a0] => f20 a0 (fun r0 => K (.int .i64 r0))
  | _ => False⟩
noncomputable def E20 : Env := ⟨look tys, look [], look []⟩
theorem f20.eq (a0 : Int) (K : EV → Prop) : evFn E20 Try.f20 [.int .u8 a0] K = f20 a0 (fun r0 => K (.int .i64 r0)) := by
  have h : evFn E20 Try.f20 [.int .u8 a0] K = f20.d a0 (fun r0 => K (.int .i64 r0)) := by kernel_rfl
  rw [f20.is]; exact h
theorem f20.ok : SoundE Try.prog 20 e20 := by
  refine fnOK (E := E20) (fn := Try.f20) rfl tys_ok rfl (show AllL _ [] from trivial) mixed (by kernel_rfl) (by kernel_rfl) (by kernel_rfl) 0 (by kernel_rfl) trivial ?_
  intro args
  by_cases hx : ∃ (a0 : Int), args = [.int .u8 a0]
  · obtain ⟨a0, rfl⟩ := hx
    right; intro K
    exact iff_of_eq (f20.eq a0 K).symm
  · left; intro K h
    simp only [e20] at h
    split at h
    · exact hx ⟨_, rfl⟩
    · exact h
def f21.d (a0 : Int) (K : Int → Prop) : Prop :=
  f11 a0 fun r0 => br (!eqI r0 0) (K 0) (f19 a0 fun r0 => K (subI IntKind.i64 1 r0))
noncomputable def f21 : Int → (Int → Prop) → Prop := Classical.choose (⟨f21.d, rfl⟩ : ∃ f, f = f21.d)
theorem f21.is : f21 = f21.d := Classical.choose_spec (⟨f21.d, rfl⟩ : ∃ f, f = f21.d)
noncomputable def e21 : Entry := ⟨[none], fun args K => match args with
  | [.int .u8 a0] => f21 a0 (fun r0 => K (.int .i64 r0))
  | _ => False⟩
noncomputable def E21 : Env := ⟨look tys, look [(11, e11), (19, e19)], look []⟩
theorem f21.eq (a0 : Int) (K : EV → Prop) : evFn E21 Try.f21 [.int .u8 a0] K = f21 a0 (fun r0 => K (.int .i64 r0)) := by
  have h : evFn E21 Try.f21 [.int .u8 a0] K = f21.d a0 (fun r0 => K (.int .i64 r0)) := by kernel_rfl
  rw [f21.is]; exact h
theorem f21.ok : SoundE Try.prog 21 e21 := by
  refine fnOK (E := E21) (fn := Try.f21) rfl tys_ok rfl (show AllL _ [(11, e11), (19, e19)] from ⟨f11.ok, f19.ok, trivial⟩) mixed (by kernel_rfl) (by kernel_rfl) (by kernel_rfl) 0 (by kernel_rfl) trivial ?_
  intro args
  by_cases hx : ∃ (a0 : Int), args = [.int .u8 a0]
  · obtain ⟨a0, rfl⟩ := hx
    right; intro K
    exact iff_of_eq (f21.eq a0 K).symm
  · left; intro K h
    simp only [e21] at h
    split at h
    · exact hx ⟨_, rfl⟩
    · exact h
def f22.d (a0 : Int) (K : Int → Prop) : Prop :=
  f12 a0 fun r0 => br (!r0) (K 0) (f20 a0 fun r0 => K (subI IntKind.i64 1 r0))
noncomputable def f22 : Int → (Int → Prop) → Prop := Classical.choose (⟨f22.d, rfl⟩ : ∃ f, f = f22.d)
theorem f22.is : f22 = f22.d := Classical.choose_spec (⟨f22.d, rfl⟩ : ∃ f, f = f22.d)
noncomputable def e22 : Entry := ⟨[none], fun args K => match args with
  | [.int .u8 a0] => f22 a0 (fun r0 => K (.int .i64 r0))
  | _ => False⟩
noncomputable def E22 : Env := ⟨look tys, look [(12, e12), (20, e20)], look []⟩
theorem f22.eq (a0 : Int) (K : EV → Prop) : evFn E22 Try.f22 [.int .u8 a0] K = f22 a0 (fun r0 => K (.int .i64 r0)) := by
  have h : evFn E22 Try.f22 [.int .u8 a0] K = f22.d a0 (fun r0 => K (.int .i64 r0)) := by kernel_rfl
  rw [f22.is]; exact h
theorem f22.ok : SoundE Try.prog 22 e22 := by
  refine fnOK (E := E22) (fn := Try.f22) rfl tys_ok rfl (show AllL _ [(12, e12), (20, e20)] from ⟨f12.ok, f20.ok, trivial⟩) mixed (by kernel_rfl) (by kernel_rfl) (by kernel_rfl) 0 (by kernel_rfl) trivial ?_
  intro args
  by_cases hx : ∃ (a0 : Int), args = [.int .u8 a0]
  · obtain ⟨a0, rfl⟩ := hx
    right; intro K
    exact iff_of_eq (f22.eq a0 K).symm
  · left; intro K h
    simp only [e22] at h
    split at h
    · exact hx ⟨_, rfl⟩
    · exact h
def f23.d (a0 : Int) (a1_0 : Int) (a1_1 : Int) (K : Bool → Prop) : Prop :=
  br (eqI a0 3) (K true) (br (eqI a0 1) (K (eqI a1_0 0)) (br (eqI a0 0) (br (eqI a0 0) (br (eqI a1_0 0) (f15 a0 fun r0 => gd (!ltI (cvI IntKind.u64 r0) 0) (K (eqI (shrI IntKind.u64 a1_1 (cvI IntKind.u64 r0)) 0))) (K false)) (K false)) (br (eqI a0 2) (br (eqI a1_0 0) (f15 a0 fun r0 => gd (!ltI (cvI IntKind.u64 r0) 0) (K (eqI (shrI IntKind.u64 a1_1 (cvI IntKind.u64 r0)) 0))) (K false)) (K false))))
noncomputable def f23 : Int → Int → Int → (Bool → Prop) → Prop := Classical.choose (⟨f23.d, rfl⟩ : ∃ f, f = f23.d)
theorem f23.is : f23 = f23.d := Classical.choose_spec (⟨f23.d, rfl⟩ : ∃ f, f = f23.d)
noncomputable def e23 : Entry := ⟨[none, none], fun args K => match args with
  | [.int .u8 a0, .agg [.int .u64 a1_0, .int .u64 a1_1]] => f23 a0 a1_0 a1_1 (fun r0 => K (.bool r0))
  | _ => False⟩
noncomputable def E23 : Env := ⟨look tys, look [(15, e15)], look []⟩
theorem f23.eq (a0 : Int) (a1_0 : Int) (a1_1 : Int) (K : EV → Prop) : evFn E23 Try.f23 [.int .u8 a0, .agg [.int .u64 a1_0, .int .u64 a1_1]] K = f23 a0 a1_0 a1_1 (fun r0 => K (.bool r0)) := by
  have h : evFn E23 Try.f23 [.int .u8 a0, .agg [.int .u64 a1_0, .int .u64 a1_1]] K = f23.d a0 a1_0 a1_1 (fun r0 => K (.bool r0)) := by kernel_rfl
  rw [f23.is]; exact h
theorem f23.ok : SoundE Try.prog 23 e23 := by
  refine fnOK (E := E23) (fn := Try.f23) rfl tys_ok rfl (show AllL _ [(15, e15)] from ⟨f15.ok, trivial⟩) mixed (by kernel_rfl) (by kernel_rfl) (by kernel_rfl) 0 (by kernel_rfl) trivial ?_
  intro args
  by_cases hx : ∃ (a0 : Int) (a1_0 : Int) (a1_1 : Int), args = [.int .u8 a0, .agg [.int .u64 a1_0, .int .u64 a1_1]]
  · obtain ⟨a0, a1_0, a1_1, rfl⟩ := hx
    right; intro K
    exact iff_of_eq (f23.eq a0 a1_0 a1_1 K).symm
  · left; intro K h
    simp only [e23] at h
    split at h
    · exact hx ⟨_, _, _, rfl⟩
    · exact h
def f65.d (a0_0 : Int) (a0_1 : Int) (K : (Nat → Int) → Prop) : Prop :=
  K (upd (upd (fun x => 0) 0 a0_1) 1 a0_0)
noncomputable def f65 : Int → Int → ((Nat → Int) → Prop) → Prop := Classical.choose (⟨f65.d, rfl⟩ : ∃ f, f = f65.d)
theorem f65.is : f65 = f65.d := Classical.choose_spec (⟨f65.d, rfl⟩ : ∃ f, f = f65.d)
noncomputable def e65 : Entry := ⟨[none], fun args K => match args with
  | [.agg [.int .u64 a0_0, .int .u64 a0_1]] => f65 a0_0 a0_1 (fun r0 => K (.arr .u64 6 r0))
  | _ => False⟩
noncomputable def E65 : Env := ⟨look tys, look [], look []⟩
theorem f65.eq (a0_0 : Int) (a0_1 : Int) (K : EV → Prop) : evFn E65 Try.f65 [.agg [.int .u64 a0_0, .int .u64 a0_1]] K = f65 a0_0 a0_1 (fun r0 => K (.arr .u64 6 r0)) := by
  have h : evFn E65 Try.f65 [.agg [.int .u64 a0_0, .int .u64 a0_1]] K = f65.d a0_0 a0_1 (fun r0 => K (.arr .u64 6 r0)) := by kernel_rfl
  rw [f65.is]; exact h
theorem f65.ok : SoundE Try.prog 65 e65 := by
  refine fnOK (E := E65) (fn := Try.f65) rfl tys_ok rfl (show AllL _ [] from trivial) mixed (by kernel_rfl) (by kernel_rfl) (by kernel_rfl) 0 (by kernel_rfl) trivial ?_
  intro args
  by_cases hx : ∃ (a0_0 : Int) (a0_1 : Int), args = [.agg [.int .u64 a0_0, .int .u64 a0_1]]
  · obtain ⟨a0_0, a0_1, rfl⟩ := hx
    right; intro K
    exact iff_of_eq (f65.eq a0_0 a0_1 K).symm
  · left; intro K h
    simp only [e65] at h
    split at h
    · exact hx ⟨_, _, rfl⟩
    · exact h
def f87.d (a0 : Int) (a1 : Int) (K : Bool → Prop) : Prop :=
  br (leI 0 a1) (br (ltI a1 64) (gd (!ltI (cvI IntKind.u64 a1) 0) (K (eqI (andI IntKind.u64 (shrI IntKind.u64 a0 (cvI IntKind.u64 a1)) 1) 1))) (K false)) (K false)
noncomputable def f87 : Int → Int → (Bool → Prop) → Prop := Classical.choose (⟨f87.d, rfl⟩ : ∃ f, f = f87.d)
theorem f87.is : f87 = f87.d := Classical.choose_spec (⟨f87.d, rfl⟩ : ∃ f, f = f87.d)
noncomputable def e87 : Entry := ⟨[none, none], fun args K => match args with
  | [.int .u64 a0, .int .i64 a1] => f87 a0 a1 (fun r0 => K (.bool r0))
  | _ => False⟩
noncomputable def E87 : Env := ⟨look tys, look [], look []⟩
theorem f87.eq (a0 : Int) (a1 : Int) (K : EV → Prop) : evFn E87 Try.f87 [.int .u64 a0, .int .i64 a1] K = f87 a0 a1 (fun r0 => K (.bool r0)) := by
  have h : evFn E87 Try.f87 [.int .u64 a0, .int .i64 a1] K = f87.d a0 a1 (fun r0 => K (.bool r0)) := by kernel_rfl
  rw [f87.is]; exact h
theorem f87.ok : SoundE Try.prog 87 e87 := by
  refine fnOK (E := E87) (fn := Try.f87) rfl tys_ok rfl (show AllL _ [] from trivial) mixed (by kernel_rfl) (by kernel_rfl) (by kernel_rfl) 0 (by kernel_rfl) trivial ?_
  intro args
  by_cases hx : ∃ (a0 : Int) (a1 : Int), args = [.int .u64 a0, .int .i64 a1]
  · obtain ⟨a0, a1, rfl⟩ := hx
    right; intro K
    exact iff_of_eq (f87.eq a0 a1 K).symm
  · left; intro K h
    simp only [e87] at h
    split at h
    · exact hx ⟨_, _, rfl⟩
    · exact h
def f85.l3.step (again : Int → Int → Int → Prop) (k0 : Int → Prop) (x0 : Int) (x1 : Int) (x2 : Int) : Prop :=
  br (ltI x2 64) (f87 x0 x2 fun r0 => br r0 (again x0 (addI IntKind.i64 x2 1) (addI IntKind.i64 x2 1)) (again x0 x1 (addI IntKind.i64 x2 1))) (k0 x1)
def f85.l3 (k0 : Int → Prop) : Nat → Int → Int → Int → Prop
  | 0 => fun _ _ _ => False
  | n + 1 => f85.l3.step (f85.l3 k0 n) k0
def f85.l3.entry : LoopEntry := ⟨LV.mk 8 [(0, 8)] 4, 0, 15, fun vs H K => match vs, H with
  | [EV.int IntKind.u64 x0, EV.int IntKind.i64 x1, EV.int IntKind.i64 x2], [] => ∃ n, f85.l3 (fun y0 => K (.exit 0) [EV.int IntKind.i64 y0] []) n x0 x1 x2
  | _, _ => False⟩
def f85.d (a0 : Int) (K : Int → Prop) : Prop :=
  ∃ n, f85.l3 (fun y0 => K y0) n a0 0 0
noncomputable def f85 : Int → (Int → Prop) → Prop := Classical.choose (⟨f85.d, rfl⟩ : ∃ f, f = f85.d)
theorem f85.is : f85 = f85.d := Classical.choose_spec (⟨f85.d, rfl⟩ : ∃ f, f = f85.d)
noncomputable def e85 : Entry := ⟨[none], fun args K => match args with
  | [.int .u64 a0] => f85 a0 (fun r0 => K (.int .i64 r0))
  | _ => False⟩
noncomputable def E85 : Env := ⟨look tys, look [(87, e87)], look [(3, f85.l3.entry)]⟩
theorem f85.l3.stepEq (R : List EV → Heap → Prop) (K : Ex → List EV → Heap → Prop) (x0 : Int) (x1 : Int) (x2 : Int) : loopStep (evCode E85 (loopAt Try.f85 0) { (LV.mk 8 [(0, 8)] 4) with nx := live (.loop (loopAt Try.f85 0)) (LV.mk 8 [(0, 8)] 4) }) (live (.loop (loopAt Try.f85 0)) (LV.mk 8 [(0, 8)] 4)) (LV.mk 8 [(0, 8)] 4) 0 15 R [EV.int IntKind.u64 x0, EV.int IntKind.i64 x1, EV.int IntKind.i64 x2] [] K = f85.l3.step (fun x0 x1 x2 => R [EV.int IntKind.u64 x0, EV.int IntKind.i64 x1, EV.int IntKind.i64 x2] []) (fun y0 => K (.exit 0) [EV.int IntKind.i64 y0] []) x0 x1 x2 := by kernel_rfl
theorem f85.l3.eq (K : Ex → List EV → Heap → Prop) : ∀ (n : Nat) (x0 : Int) (x1 : Int) (x2 : Int), loopE E85 (loopAt Try.f85 0) (LV.mk 8 [(0, 8)] 4) 0 15 K n [EV.int IntKind.u64 x0, EV.int IntKind.i64 x1, EV.int IntKind.i64 x2] [] = f85.l3 (fun y0 => K (.exit 0) [EV.int IntKind.i64 y0] []) n x0 x1 x2
  | 0, _, _, _ => rfl
  | n + 1, x0, x1, x2 => by
    have ih : (fun (x0 : Int) (x1 : Int) (x2 : Int) => loopE E85 (loopAt Try.f85 0) (LV.mk 8 [(0, 8)] 4) 0 15 K n [EV.int IntKind.u64 x0, EV.int IntKind.i64 x1, EV.int IntKind.i64 x2] []) = f85.l3 (fun y0 => K (.exit 0) [EV.int IntKind.i64 y0] []) n := by funext x0 x1 x2; exact f85.l3.eq K n x0 x1 x2
    show loopStep _ _ _ _ _ (loopE E85 (loopAt Try.f85 0) (LV.mk 8 [(0, 8)] 4) 0 15 K n) [EV.int IntKind.u64 x0, EV.int IntKind.i64 x1, EV.int IntKind.i64 x2] [] K = f85.l3.step (f85.l3 (fun y0 => K (.exit 0) [EV.int IntKind.i64 y0] []) n) (fun y0 => K (.exit 0) [EV.int IntKind.i64 y0] []) x0 x1 x2
    rw [← ih]
    exact f85.l3.stepEq _ K x0 x1 x2
theorem f85.l3.ok : LoopEq E85 (loopAt Try.f85 0) := by
  intro L hL vs H
  have h1 : E85.lp (firstRegion (loopAt Try.f85 0)) = some f85.l3.entry := by kernel_rfl
  have h2 : L = f85.l3.entry := Option.some.inj (hL.symm.trans h1)
  subst h2
  by_cases hx : ∃ (x0 : Int) (x1 : Int) (x2 : Int), vs = [EV.int IntKind.u64 x0, EV.int IntKind.i64 x1, EV.int IntKind.i64 x2] ∧ H = []
  · obtain ⟨x0, x1, x2, rfl, rfl⟩ := hx
    right; intro K
    exact exists_congr fun n => iff_of_eq (f85.l3.eq K n x0 x1 x2).symm
  · left; intro K h
    simp only [f85.l3.entry] at h
    split at h
    · exact hx ⟨_, _, _, rfl, rfl⟩
    · exact h
theorem f85.eq (a0 : Int) (K : EV → Prop) : evFn E85 Try.f85 [.int .u64 a0] K = f85 a0 (fun r0 => K (.int .i64 r0)) := by
  have h : evFn E85 Try.f85 [.int .u64 a0] K = f85.d a0 (fun r0 => K (.int .i64 r0)) := by kernel_rfl
  rw [f85.is]; exact h
theorem f85.ok : SoundE Try.prog 85 e85 := by
  refine fnOK (E := E85) (fn := Try.f85) rfl tys_ok rfl (show AllL _ [(87, e87)] from ⟨f87.ok, trivial⟩) mixed (by kernel_rfl) (by kernel_rfl) (by kernel_rfl) 1 (by kernel_rfl) ⟨f85.l3.ok, trivial⟩ ?_
  intro args
  by_cases hx : ∃ (a0 : Int), args = [.int .u64 a0]
  · obtain ⟨a0, rfl⟩ := hx
    right; intro K
    exact iff_of_eq (f85.eq a0 K).symm
  · left; intro K h
    simp only [e85] at h
    split at h
    · exact hx ⟨_, rfl⟩
    · exact h
def f69.l2.step (again : Int → (Nat → Int) → Prop) (k0 : Int → (Nat → Int) → Prop) (k1 : (Nat → Int) → Prop) (x0 : Int) (x1 : Nat → Int) : Prop :=
  br (leI 0 x0) (gd (leI 0 x0 && ltI x0 6) (br (!eqI (x1 (Int.toNat x0)) 0) (gd (leI 0 x0 && ltI x0 6) (f85 (x1 (Int.toNat x0)) fun r0 => k0 (addI IntKind.i64 (mulI IntKind.i64 64 x0) r0) x1)) (again (subI IntKind.i64 x0 1) x1))) (k1 x1)
def f69.l2 (k0 : Int → (Nat → Int) → Prop) (k1 : (Nat → Int) → Prop) : Nat → Int → (Nat → Int) → Prop
  | 0 => fun _ _ => False
  | n + 1 => f69.l2.step (f69.l2 k0 k1 n) k0 k1
def f69.l2.entry : LoopEntry := ⟨LV.mk 0 [(0, 0)] 4, 1, 19, fun vs H K => match vs, H with
  | [EV.ptr 0 [], EV.int IntKind.i64 x0], [some (EV.arr IntKind.u64 6 x1)] => ∃ n, f69.l2 (fun y0 y1 => K .ret [EV.int IntKind.i64 y0] [some (EV.arr IntKind.u64 6 y1)]) (fun y0 => K (.exit 0) [] [some (EV.arr IntKind.u64 6 y0)]) n x0 x1
  | _, _ => False⟩
def f69.d (a0 : Nat → Int) (K : Int → Prop) : Prop :=
  ∃ n, f69.l2 (fun y0 y1 => K y0) (fun y0 => K 0) n 5 a0
noncomputable def f69 : (Nat → Int) → (Int → Prop) → Prop := Classical.choose (⟨f69.d, rfl⟩ : ∃ f, f = f69.d)
theorem f69.is : f69 = f69.d := Classical.choose_spec (⟨f69.d, rfl⟩ : ∃ f, f = f69.d)
noncomputable def e69 : Entry := ⟨[none], fun args K => match args with
  | [.arr .u64 6 a0] => f69 a0 (fun r0 => K (.int .i64 r0))
  | _ => False⟩
noncomputable def E69 : Env := ⟨look tys, look [(85, e85)], look [(2, f69.l2.entry)]⟩
theorem f69.l2.stepEq (R : List EV → Heap → Prop) (K : Ex → List EV → Heap → Prop) (x0 : Int) (x1 : Nat → Int) : loopStep (evCode E69 (loopAt Try.f69 0) { (LV.mk 0 [(0, 0)] 4) with nx := live (.loop (loopAt Try.f69 0)) (LV.mk 0 [(0, 0)] 4) }) (live (.loop (loopAt Try.f69 0)) (LV.mk 0 [(0, 0)] 4)) (LV.mk 0 [(0, 0)] 4) 1 19 R [EV.ptr 0 [], EV.int IntKind.i64 x0] [some (EV.arr IntKind.u64 6 x1)] K = f69.l2.step (fun x0 x1 => R [EV.ptr 0 [], EV.int IntKind.i64 x0] [some (EV.arr IntKind.u64 6 x1)]) (fun y0 y1 => K .ret [EV.int IntKind.i64 y0] [some (EV.arr IntKind.u64 6 y1)]) (fun y0 => K (.exit 0) [] [some (EV.arr IntKind.u64 6 y0)]) x0 x1 := by kernel_rfl
theorem f69.l2.eq (K : Ex → List EV → Heap → Prop) : ∀ (n : Nat) (x0 : Int) (x1 : Nat → Int), loopE E69 (loopAt Try.f69 0) (LV.mk 0 [(0, 0)] 4) 1 19 K n [EV.ptr 0 [], EV.int IntKind.i64 x0] [some (EV.arr IntKind.u64 6 x1)] = f69.l2 (fun y0 y1 => K .ret [EV.int IntKind.i64 y0] [some (EV.arr IntKind.u64 6 y1)]) (fun y0 => K (.exit 0) [] [some (EV.arr IntKind.u64 6 y0)]) n x0 x1
  | 0, _, _ => rfl
  | n + 1, x0, x1 => by
    have ih : (fun (x0 : Int) (x1 : Nat → Int) => loopE E69 (loopAt Try.f69 0) (LV.mk 0 [(0, 0)] 4) 1 19 K n [EV.ptr 0 [], EV.int IntKind.i64 x0] [some (EV.arr IntKind.u64 6 x1)]) = f69.l2 (fun y0 y1 => K .ret [EV.int IntKind.i64 y0] [some (EV.arr IntKind.u64 6 y1)]) (fun y0 => K (.exit 0) [] [some (EV.arr IntKind.u64 6 y0)]) n := by funext x0 x1; exact f69.l2.eq K n x0 x1
    show loopStep _ _ _ _ _ (loopE E69 (loopAt Try.f69 0) (LV.mk 0 [(0, 0)] 4) 1 19 K n) [EV.ptr 0 [], EV.int IntKind.i64 x0] [some (EV.arr IntKind.u64 6 x1)] K = f69.l2.step (f69.l2 (fun y0 y1 => K .ret [EV.int IntKind.i64 y0] [some (EV.arr IntKind.u64 6 y1)]) (fun y0 => K (.exit 0) [] [some (EV.arr IntKind.u64 6 y0)]) n) (fun y0 y1 => K .ret [EV.int IntKind.i64 y0] [some (EV.arr IntKind.u64 6 y1)]) (fun y0 => K (.exit 0) [] [some (EV.arr IntKind.u64 6 y0)]) x0 x1
    rw [← ih]
    exact f69.l2.stepEq _ K x0 x1
theorem f69.l2.ok : LoopEq E69 (loopAt Try.f69 0) := by
  intro L hL vs H
  have h1 : E69.lp (firstRegion (loopAt Try.f69 0)) = some f69.l2.entry := by kernel_rfl
  have h2 : L = f69.l2.entry := Option.some.inj (hL.symm.trans h1)
  subst h2
  by_cases hx : ∃ (x0 : Int) (x1 : Nat → Int), vs = [EV.ptr 0 [], EV.int IntKind.i64 x0] ∧ H = [some (EV.arr IntKind.u64 6 x1)]
  · obtain ⟨x0, x1, rfl, rfl⟩ := hx
    right; intro K
    exact exists_congr fun n => iff_of_eq (f69.l2.eq K n x0 x1).symm
  · left; intro K h
    simp only [f69.l2.entry] at h
    split at h
    · exact hx ⟨_, _, rfl, rfl⟩
    · exact h
theorem f69.eq (a0 : Nat → Int) (K : EV → Prop) : evFn E69 Try.f69 [.arr .u64 6 a0] K = f69 a0 (fun r0 => K (.int .i64 r0)) := by
  have h : evFn E69 Try.f69 [.arr .u64 6 a0] K = f69.d a0 (fun r0 => K (.int .i64 r0)) := by kernel_rfl
  rw [f69.is]; exact h
theorem f69.ok : SoundE Try.prog 69 e69 := by
  refine fnOK (E := E69) (fn := Try.f69) rfl tys_ok rfl (show AllL _ [(85, e85)] from ⟨f85.ok, trivial⟩) mixed (by kernel_rfl) (by kernel_rfl) (by kernel_rfl) 1 (by kernel_rfl) ⟨f69.l2.ok, trivial⟩ ?_
  intro args
  by_cases hx : ∃ (a0 : Nat → Int), args = [.arr .u64 6 a0]
  · obtain ⟨a0, rfl⟩ := hx
    right; intro K
    exact iff_of_eq (f69.eq a0 K).symm
  · left; intro K h
    simp only [e69] at h
    split at h
    · exact hx ⟨_, rfl⟩
    · exact h
def f24.d (a0 : Int) (a1_0 : Int) (a1_1 : Int) (K : Bool → Prop) : Prop :=
  f12 a0 fun r0 => br r0 (f65 a1_0 a1_1 fun r0 => f69 r0 fun r0 => f16 a0 fun r0_1 => K (leI r0 r0_1)) (K false)
noncomputable def f24 : Int → Int → Int → (Bool → Prop) → Prop := Classical.choose (⟨f24.d, rfl⟩ : ∃ f, f = f24.d)
theorem f24.is : f24 = f24.d := Classical.choose_spec (⟨f24.d, rfl⟩ : ∃ f, f = f24.d)
noncomputable def e24 : Entry := ⟨[none, none], fun args K => match args with
  | [.int .u8 a0, .agg [.int .u64 a1_0, .int .u64 a1_1]] => f24 a0 a1_0 a1_1 (fun r0 => K (.bool r0))
  | _ => False⟩
noncomputable def E24 : Env := ⟨look tys, look [(12, e12), (16, e16), (65, e65), (69, e69)], look []⟩
theorem f24.eq (a0 : Int) (a1_0 : Int) (a1_1 : Int) (K : EV → Prop) : evFn E24 Try.f24 [.int .u8 a0, .agg [.int .u64 a1_0, .int .u64 a1_1]] K = f24 a0 a1_0 a1_1 (fun r0 => K (.bool r0)) := by
  have h : evFn E24 Try.f24 [.int .u8 a0, .agg [.int .u64 a1_0, .int .u64 a1_1]] K = f24.d a0 a1_0 a1_1 (fun r0 => K (.bool r0)) := by kernel_rfl
  rw [f24.is]; exact h
theorem f24.ok : SoundE Try.prog 24 e24 := by
  refine fnOK (E := E24) (fn := Try.f24) rfl tys_ok rfl (show AllL _ [(12, e12), (16, e16), (65, e65), (69, e69)] from ⟨f12.ok, f16.ok, f65.ok, f69.ok, trivial⟩) mixed (by kernel_rfl) (by kernel_rfl) (by kernel_rfl) 0 (by kernel_rfl) trivial ?_
  intro args
  by_cases hx : ∃ (a0 : Int) (a1_0 : Int) (a1_1 : Int), args = [.int .u8 a0, .agg [.int .u64 a1_0, .int .u64 a1_1]]
  · obtain ⟨a0, a1_0, a1_1, rfl⟩ := hx
    right; intro K
    exact iff_of_eq (f24.eq a0 a1_0 a1_1 K).symm
  · left; intro K h
    simp only [e24] at h
    split at h
    · exact hx ⟨_, _, _, rfl⟩
    · exact h
def f71.d (a0 : Int) (a1 : Int) (K : Int → Int → Prop) : Prop :=
  br (leI 64 a1) (gd (!ltI (cvI IntKind.u64 (subI IntKind.i64 a1 64)) 0) (K (shlI IntKind.u64 a0 (cvI IntKind.u64 (subI IntKind.i64 a1 64))) 0)) (gd (!ltI (cvI IntKind.u64 a1) 0) (br (ltI 0 a1) (gd (!ltI (cvI IntKind.u64 (subI IntKind.i64 64 a1)) 0) (K (shrI IntKind.u64 a0 (cvI IntKind.u64 (subI IntKind.i64 64 a1))) (shlI IntKind.u64 a0 (cvI IntKind.u64 a1)))) (K 0 (shlI IntKind.u64 a0 (cvI IntKind.u64 a1)))))
noncomputable def f71 : Int → Int → (Int → Int → Prop) → Prop := Classical.choose (⟨f71.d, rfl⟩ : ∃ f, f = f71.d)
theorem f71.is : f71 = f71.d := Classical.choose_spec (⟨f71.d, rfl⟩ : ∃ f, f = f71.d)
noncomputable def e71 : Entry := ⟨[none, none], fun args K => match args with
  | [.int .u64 a0, .int .i64 a1] => f71 a0 a1 (fun r0_0 r0_1 => K (.agg [.int .u64 r0_0, .int .u64 r0_1]))
  | _ => False⟩
noncomputable def E71 : Env := ⟨look tys, look [], look []⟩
theorem f71.eq (a0 : Int) (a1 : Int) (K : EV → Prop) : evFn E71 Try.f71 [.int .u64 a0, .int .i64 a1] K = f71 a0 a1 (fun r0_0 r0_1 => K (.agg [.int .u64 r0_0, .int .u64 r0_1])) := by
  have h : evFn E71 Try.f71 [.int .u64 a0, .int .i64 a1] K = f71.d a0 a1 (fun r0_0 r0_1 => K (.agg [.int .u64 r0_0, .int .u64 r0_1])) := by kernel_rfl
  rw [f71.is]; exact h
theorem f71.ok : SoundE Try.prog 71 e71 := by
  refine fnOK (E := E71) (fn := Try.f71) rfl tys_ok rfl (show AllL _ [] from trivial) mixed (by kernel_rfl) (by kernel_rfl) (by kernel_rfl) 0 (by kernel_rfl) trivial ?_
  intro args
  by_cases hx : ∃ (a0 : Int) (a1 : Int), args = [.int .u64 a0, .int .i64 a1]
  · obtain ⟨a0, a1, rfl⟩ := hx
    right; intro K
    exact iff_of_eq (f71.eq a0 a1 K).symm
  · left; intro K h
    simp only [e71] at h
    split at h
    · exact hx ⟨_, _, rfl⟩
    · exact h
def f32.d (a0 : Int) (K : Int → Int → Prop) : Prop :=
  f11 a0 fun r0 => br (!eqI r0 0) (K 0 0) (f19 a0 fun r0 => f17 a0 fun r0_1 => f71 (cvI IntKind.u64 (addI IntKind.i64 (mulI IntKind.i64 4 r0) 3)) (subI IntKind.i64 r0_1 2) fun r0_0 r0_1 => K r0_0 r0_1)
noncomputable def f32 : Int → (Int → Int → Prop) → Prop := Classical.choose (⟨f32.d, rfl⟩ : ∃ f, f = f32.d)
theorem f32.is : f32 = f32.d := Classical.choose_spec (⟨f32.d, rfl⟩ : ∃ f, f = f32.d)
noncomputable def e32 : Entry := ⟨[none], fun args K => match args with
  | [.int .u8 a0] => f32 a0 (fun r0_0 r0_1 => K (.agg [.int .u64 r0_0, .int .u64 r0_1]))
  | _ => False⟩
noncomputable def E32 : Env := ⟨look tys, look [(11, e11), (17, e17), (19, e19), (71, e71)], look []⟩
theorem f32.eq (a0 : Int) (K : EV → Prop) : evFn E32 Try.f32 [.int .u8 a0] K = f32 a0 (fun r0_0 r0_1 => K (.agg [.int .u64 r0_0, .int .u64 r0_1])) := by
  have h : evFn E32 Try.f32 [.int .u8 a0] K = f32.d a0 (fun r0_0 r0_1 => K (.agg [.int .u64 r0_0, .int .u64 r0_1])) := by kernel_rfl
  rw [f32.is]; exact h
theorem f32.ok : SoundE Try.prog 32 e32 := by
  refine fnOK (E := E32) (fn := Try.f32) rfl tys_ok rfl (show AllL _ [(11, e11), (17, e17), (19, e19), (71, e71)] from ⟨f11.ok, f17.ok, f19.ok, f71.ok, trivial⟩) mixed (by kernel_rfl) (by kernel_rfl) (by kernel_rfl) 0 (by kernel_rfl) trivial ?_
  intro args
  by_cases hx : ∃ (a0 : Int), args = [.int .u8 a0]
  · obtain ⟨a0, rfl⟩ := hx
    right; intro K
    exact iff_of_eq (f32.eq a0 K).symm
  · left; intro K h
    simp only [e32] at h
    split at h
    · exact hx ⟨_, rfl⟩
    · exact h
def f25.d (K : Bool → Prop) : Prop :=
  f15 2 fun r0 => br (eqI r0 16) (f19 3 fun r0 => br (eqI r0 16383) (f32 2 fun r0_0 r0_1 => br (eqI r0_0 0 && eqI r0_1 32256) (f11 4 fun r0 => br (eqI r0 2) (f13 5 fun r0 => K (eqI r0 2)) (K false)) (K false)) (K false)) (K false)
noncomputable def f25 : (Bool → Prop) → Prop := Classical.choose (⟨f25.d, rfl⟩ : ∃ f, f = f25.d)
theorem f25.is : f25 = f25.d := Classical.choose_spec (⟨f25.d, rfl⟩ : ∃ f, f = f25.d)
noncomputable def e25 : Entry := ⟨[], fun args K => match args with
  | [] => f25  (fun r0 => K (.bool r0))
  | _ => False⟩
noncomputable def E25 : Env := ⟨look tys, look [(11, e11), (13, e13), (15, e15), (19, e19), (32, e32)], look []⟩
theorem f25.eq (K : EV → Prop) : evFn E25 Try.f25 [] K = f25  (fun r0 => K (.bool r0)) := by
  have h : evFn E25 Try.f25 [] K = f25.d  (fun r0 => K (.bool r0)) := by kernel_rfl
  rw [f25.is]; exact h
theorem f25.ok : SoundE Try.prog 25 e25 := by
  refine fnOK (E := E25) (fn := Try.f25) rfl tys_ok rfl (show AllL _ [(11, e11), (13, e13), (15, e15), (19, e19), (32, e32)] from ⟨f11.ok, f13.ok, f15.ok, f19.ok, f32.ok, trivial⟩) mixed (by kernel_rfl) (by kernel_rfl) (by kernel_rfl) 0 (by kernel_rfl) trivial ?_
  intro args
  by_cases hx : args = []
  · subst hx
    right; intro K
    exact iff_of_eq (f25.eq  K).symm
  · left; intro K h
    cases args with
    | nil => exact hx rfl
    | cons a l => exact h
def f3.d (a0 : Int) (a1 : Int) (a2_0 : Int) (a2_1 : Int) (K : Bool → Prop) : Prop :=
  f11 a0 fun r0 => f12 a0 fun r0_1 => br (!beqB (eqI r0 0) r0_1) (K false) (f13 a1 fun r0 => f14 a1 fun r0_2 => br (!beqB (eqI r0 0) r0_2) (K false) (f15 a0 fun r0 => f16 a0 fun r0_3 => br (eqI r0 r0_3) (f17 a0 fun r0 => f18 a0 fun r0_4 => br (eqI r0 r0_4) (f19 a0 fun r0 => f20 a0 fun r0_5 => br (eqI r0 r0_5) (f21 a0 fun r0 => f22 a0 fun r0_6 => br (eqI r0 r0_6) (f23 a0 a2_0 a2_1 fun r0 => f24 a0 a2_0 a2_1 fun r0_7 => br (beqB r0 r0_7) (f25 fun r0 => K r0) (K false)) (K false)) (K false)) (K false)) (K false)))
noncomputable def f3 : Int → Int → Int → Int → (Bool → Prop) → Prop := Classical.choose (⟨f3.d, rfl⟩ : ∃ f, f = f3.d)
theorem f3.is : f3 = f3.d := Classical.choose_spec (⟨f3.d, rfl⟩ : ∃ f, f = f3.d)
noncomputable def e3 : Entry := ⟨[none, none, none], fun args K => match args with
  | [.int .u8 a0, .int .u8 a1, .agg [.int .u64 a2_0, .int .u64 a2_1]] => f3 a0 a1 a2_0 a2_1 (fun r0 => K (.bool r0))
  | _ => False⟩
noncomputable def E3 : Env := ⟨look tys, look [(11, e11), (12, e12), (13, e13), (14, e14), (15, e15), (16, e16), (17, e17), (18, e18), (19, e19), (20, e20), (21, e21), (22, e22), (23, e23), (24, e24), (25, e25)], look []⟩
theorem f3.eq (a0 : Int) (a1 : Int) (a2_0 : Int) (a2_1 : Int) (K : EV → Prop) : evFn E3 Try.f3 [.int .u8 a0, .int .u8 a1, .agg [.int .u64 a2_0, .int .u64 a2_1]] K = f3 a0 a1 a2_0 a2_1 (fun r0 => K (.bool r0)) := by
  have h : evFn E3 Try.f3 [.int .u8 a0, .int .u8 a1, .agg [.int .u64 a2_0, .int .u64 a2_1]] K = f3.d a0 a1 a2_0 a2_1 (fun r0 => K (.bool r0)) := by kernel_rfl
  rw [f3.is]; exact h
theorem f3.ok : SoundE Try.prog 3 e3 := by
  refine fnOK (E := E3) (fn := Try.f3) rfl tys_ok rfl (show AllL _ [(11, e11), (12, e12), (13, e13), (14, e14), (15, e15), (16, e16), (17, e17), (18, e18), (19, e19), (20, e20), (21, e21), (22, e22), (23, e23), (24, e24), (25, e25)] from ⟨f11.ok, f12.ok, f13.ok, f14.ok, f15.ok, f16.ok, f17.ok, f18.ok, f19.ok, f20.ok, f21.ok, f22.ok, f23.ok, f24.ok, f25.ok, trivial⟩) mixed (by kernel_rfl) (by kernel_rfl) (by kernel_rfl) 0 (by kernel_rfl) trivial ?_
  intro args
  by_cases hx : ∃ (a0 : Int) (a1 : Int) (a2_0 : Int) (a2_1 : Int), args = [.int .u8 a0, .int .u8 a1, .agg [.int .u64 a2_0, .int .u64 a2_1]]
  · obtain ⟨a0, a1, a2_0, a2_1, rfl⟩ := hx
    right; intro K
    exact iff_of_eq (f3.eq a0 a1 a2_0 a2_1 K).symm
  · left; intro K h
    simp only [e3] at h
    split at h
    · exact hx ⟨_, _, _, _, rfl⟩
    · exact h
end Go.Ev.S
